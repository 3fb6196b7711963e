/-
  The desk's book, run by the machine: one account more, another book, what a line's function does.
-/
import Derived.Test.YtcmpjagpggjfiaaGreatDoorT29
import Derived.Test.YtcmpjagpggjfiaaGreatDoorT38
import Derived.Test.YtcmpjagpggjfiaaGreatDoorT36
import Derived.Test.YtcmpjagpggjfiaaGreatDoorT37
import Derived.Test.YtcmpjagpggjfiaaGreatDoorT23
set_option linter.unusedVariables false
set_option linter.unusedSimpArgs false
namespace Go.Proofs.YtcmpjagpggjfiaaGreatDoor
open Go Go.Ev Go.RowKit Go.Acc Go.Dk Go.Lg
set_option maxHeartbeats 4000000
def PlOk (p : V) : Prop := p = .zero ∨ ∃ L : List Job.Pl, p = .row 7 (L.map Job.plV)
def dkB (A : List Ac) (E : List En) (s : Int) (p : V) : Ev.Blk := .box (.agg [.row 2 (A.map acV), .row 3 (E.map enW), .int .i64 s, p])
theorem become_mut {J : World → Prop} (hJ : Stable J) (A A' : List Ac) (E E' : List En) (s s' : Int) (p : V) (hp : PlOk p) :
  MutAt Tryz.prog J 81 [dkB A E s p] [.ptr 1000000 0, bkV A' E' s', .int .i64 0] (.str ⟨#[111, 107]⟩) [dkB A' E' s' p] := by
 unfold dkB bkV
 rcases hp with rfl | ⟨L, rfl⟩
 all_goals
  refine evMut (nn := []) (l := [(67, at1 _ (_, []))]) (nv := nv0) (fz := fz0) (dr := dr81) (dd := dd81) (lam := []) (ms := ms0) ⟨at1_snd (must_sound hJ), trivial⟩ hJ trivial ms0_ok Tryz.func81 rfl rfl (Nat.le_of_ble_eq_true rfl) (Nat.le_of_ble_eq_true rfl) drOk81 rfl ?_
  dsimp only [Tryz.f81, dr81, dd81, Option.getD_some]
  refine ev_start ?_
  simp (disch := omega) only [at1_eq, go_sem, evP_D, evD_guard, evD_cons, evD_zero, evD_nil]
theorem become_ex {J : World → Prop} (hJ : Stable J) (A : List Ac) (E : List En) (s : Int) (p : V) (hp : PlOk p) (A' : List Ac) (E' : List En) (s' : Int) : ∃ F : List Ev.Blk → List V → Option (V × List Ev.Blk), F [dkB A E s p] [.ptr 1000000 0, bkV A' E' s', .int .i64 0] = some (.str ⟨#[111, 107]⟩, [dkB A' E' s' p]) ∧ Mu Tryz.prog J 81 F := by
 obtain ⟨F, h1, h2⟩ := famN (fun _ : Unit => _) (fun _ => _) (fun _ => (_, _)) (fun _ _ _ _ => rfl) fun _ => become_mut hJ A A' E E' s s' p hp
 exact ⟨F, h1 (), h2⟩
theorem post_mut {J : World → Prop} (hJ : Stable J) (A : List Ac) (E : List En) (s : Int) (p : V) (hp : PlOk p) (x : En) (hE : E.length ≤ maxLen) (h0 : postE A E s x = 0) :
  MutAt Tryz.prog J 80 [dkB A E s p, .box (.ptr 1000000 0), .box (enW x)] [.ptr 1000001 0, .ptr 1000002 0] (.str ⟨#[111, 107]⟩) [dkB A (postB E x) s p, .box (.ptr 1000000 0), .box (enW x)] := by
 have hP := post_sound hJ A E s x hE
 unfold posR at hP
 rw [if_pos h0, h0] at hP
 obtain ⟨F, hF, sF⟩ := become_ex hJ A E s p hp A (postB E x) s
 obtain ⟨k, d, l⟩ := x
 unfold dkB bkV at *
 rw [enW_mk] at *
 rcases hp with rfl | ⟨L, rfl⟩
 all_goals
  refine evMut (nn := []) (l := [(13, at1 _ (_, []))]) (nv := nv0) (fz := fz0) (dr := dr80) (dd := dd80) (lam := []) (ms := ⟨[(81, F)], lnL [(12, [1000000])], []⟩) ⟨at1_snd hP, trivial⟩ hJ trivial ⟨⟨sF, trivial⟩, trivial⟩ Tryz.func80 rfl rfl (Nat.le_of_ble_eq_true rfl) (Nat.le_of_ble_eq_true rfl) drOk80 rfl ?_
  dsimp only [Tryz.f80, dr80, dd80, Option.getD_some]
  refine ev_start ?_
  simp (disch := omega) only [at1_eq, hF, go_sem, evP_D, evD_guard, evD_cons, evD_zero, evD_nil]
theorem account0_mut {J : World → Prop} (hJ : Stable J) (E : List En) (s : Int) (c : ByteArray) (k : Int) (h : acChk [(c, k)] = 0) :
  MutAt Tryz.prog J 78 [.box (.agg [.zero, .row 3 (E.map enW), .int .i64 s, .zero])] [.ptr 1000000 0, .str c, .int .i64 k] (.str ⟨#[111, 107]⟩) [dkB [(c, k)] E s .zero] := by
 have hS := sortA_lend hJ [] (c, k) ⟨fun i y z h => by simp at h, fun i j y z h => by simp at h⟩ (by simp)
 have hC := check_sound hJ [(c, k)]
 rw [h] at hC
 have e1 := len1_eq 91 2 (([] ++ [(c, k)] : List Ac).map acV) [.fn 134 []] ((insA [] (c, k)).map acV)
 have l1 := len1_ok (l := []) hS trivial
 generalize hG : len1 91 2 (([] ++ [(c, k)] : List Ac).map acV) [.fn 134 []] ((insA [] (c, k)).map acV) = G at e1 l1
 simp only [insA, List.map_cons, List.map_nil, List.nil_append, acV] at e1 hC
 unfold dkB
 refine evMut (nn := []) (l := [(100, at1 _ (_, [])), (94, at1 _ (_, [])), (67, at1 _ (_, []))]) (nv := nv0) (fz := (fzL [(25, [144])])) (dr := dr78) (dd := dd78) (lam := [(133, false, G)]) (ms := ms0) ⟨at1_snd (dkcloneA_nil hJ), at1_snd hC, at1_snd (must_sound hJ), trivial⟩ hJ l1 ms0_ok Tryz.func78 rfl rfl (Nat.le_of_ble_eq_true rfl) (Nat.le_of_ble_eq_true rfl) drOk78 rfl ?_
 dsimp only [Tryz.f78, dr78, dd78, Option.getD_some]
 refine ev_start ?_
 simp (disch := omega) only [at1_eq, e1, freezeL, St.freeze, List.filter_cons, List.filter_nil, bne, go_sem, evP_D, evD_guard, evD_cons, evD_zero, evD_nil]
 rfl
theorem account_mut {J : World → Prop} (hJ : Stable J) (A : List Ac) (E : List En) (s : Int) (c : ByteArray) (k : Int) (hA : 0 < A.length) (hA2 : A.length ≤ 18) (ho : OrdA A (c, k)) (h : acChk (insA A (c, k)) = 0) :
  MutAt Tryz.prog J 78 [dkB A E s .zero] [.ptr 1000000 0, .str c, .int .i64 k] (.str ⟨#[111, 107]⟩) [dkB (insA A (c, k)) E s .zero] := by
 have hS := sortA_lend hJ A (c, k) ho hA2
 have hC := check_sound hJ (insA A (c, k))
 rw [h] at hC
 obtain ⟨a, A0, rfl⟩ : ∃ a A0, A = a :: A0 := by cases A with | nil => simp at hA | cons a A0 => exact ⟨a, A0, rfl⟩
 have hK := dkcloneA_sound hJ a A0 (by omega)
 have e1 := len1_eq 91 2 ((a :: A0 ++ [(c, k)] : List Ac).map acV) [.fn 134 []] ((insA (a :: A0) (c, k)).map acV)
 have l1 := len1_ok (l := []) hS trivial
 generalize hG : len1 91 2 ((a :: A0 ++ [(c, k)] : List Ac).map acV) [.fn 134 []] ((insA (a :: A0) (c, k)).map acV) = G at e1 l1
 have hp := plainA (insA (a :: A0) (c, k))
 have em : (a :: A0).map acV ++ [.agg [.str c, .int .i64 k]] = (a :: A0 ++ [(c, k)] : List Ac).map acV := by rw [List.map_append]; rfl
 have hl2 : ((a :: A0).map acV).length ≤ 18 := by rw [List.length_map]; exact hA2
 generalize (a :: A0 ++ [(c, k)] : List Ac).map acV = X at *
 generalize hY : (insA (a :: A0) (c, k)).map acV = Y at *
 unfold dkB
 generalize (a :: A0).map acV = Z at *
 refine evMut (nn := []) (l := [(100, at1 _ (_, _)), (94, at1 _ (_, [])), (67, at1 _ (_, []))]) (nv := nv0) (fz := (fzL [(25, [104])])) (dr := dr78) (dd := dd78) (lam := [(133, false, G)]) (ms := ms0) ⟨at1_snd hK, at1_snd hC, at1_snd (must_sound hJ), trivial⟩ hJ l1 ms0_ok Tryz.func78 rfl rfl (Nat.le_of_ble_eq_true rfl) (Nat.le_of_ble_eq_true rfl) drOk78 rfl ?_
 dsimp only [Tryz.f78, dr78, dd78, Option.getD_some]
 refine ev_start ?_
 simp (disch := omega) only [at1_eq, e1, em, hp, freezeL, St.freeze, List.filter_cons, List.filter_nil, bne, go_sem, evP_D, evD_guard, evD_cons, evD_zero, evD_nil]
 rw [hY]
/-! ### what the lines' functions do -/
def dvB : Ev.Blk := .box (.ptr 1000000 0)
theorem acct0_mut {J : World → Prop} (hJ : Stable J) (E : List En) (s : Int) (c : ByteArray) (k : Int) (h : acChk [(c, k)] = 0) :
  MutAt Tryz.prog J 77 [.box (.agg [.zero, .row 3 (E.map enW), .int .i64 s, .zero]), dvB, .box (.str c), .box (.int .i64 k)] [.ptr 1000001 0, .ptr 1000002 0, .ptr 1000003 0] (.str ⟨#[111, 107]⟩) [dkB [(c, k)] E s .zero, dvB, .box (.str c), .box (.int .i64 k)] := by
 obtain ⟨F, hF, sF⟩ := one_mu (account0_mut hJ E s c k h)
 unfold dkB dvB at *
 refine evMut (nn := []) (l := []) (nv := nv0) (fz := fz0) (dr := dr77) (dd := dd77) (lam := []) (ms := ⟨[(78, F)], lnL [(7, [1000000])], []⟩) trivial hJ trivial ⟨⟨sF, trivial⟩, trivial⟩ Tryz.func77 rfl rfl (Nat.le_of_ble_eq_true rfl) (Nat.le_of_ble_eq_true rfl) drOk77 rfl ?_
 dsimp only [Tryz.f77, dr77, dd77, Option.getD_some]
 refine ev_start ?_
 simp (disch := omega) only [hF, go_sem, evP_D, evD_guard, evD_cons, evD_zero, evD_nil]
theorem acct_mut {J : World → Prop} (hJ : Stable J) (A : List Ac) (E : List En) (s : Int) (c : ByteArray) (k : Int) (hA : 0 < A.length) (hA2 : A.length ≤ 18) (ho : OrdA A (c, k)) (h : acChk (insA A (c, k)) = 0) :
  MutAt Tryz.prog J 77 [dkB A E s .zero, dvB, .box (.str c), .box (.int .i64 k)] [.ptr 1000001 0, .ptr 1000002 0, .ptr 1000003 0] (.str ⟨#[111, 107]⟩) [dkB (insA A (c, k)) E s .zero, dvB, .box (.str c), .box (.int .i64 k)] := by
 obtain ⟨F, hF, sF⟩ := one_mu (account_mut hJ A E s c k hA hA2 ho h)
 unfold dkB dvB at *
 refine evMut (nn := []) (l := []) (nv := nv0) (fz := fz0) (dr := dr77) (dd := dd77) (lam := []) (ms := ⟨[(78, F)], lnL [(7, [1000000])], []⟩) trivial hJ trivial ⟨⟨sF, trivial⟩, trivial⟩ Tryz.func77 rfl rfl (Nat.le_of_ble_eq_true rfl) (Nat.le_of_ble_eq_true rfl) drOk77 rfl ?_
 dsimp only [Tryz.f77, dr77, dd77, Option.getD_some]
 refine ev_start ?_
 simp (disch := omega) only [hF, go_sem, evP_D, evD_guard, evD_cons, evD_zero, evD_nil]
theorem close_mut {J : World → Prop} (hJ : Stable J) (A : List Ac) (E : List En) (s : Int) (L : List Job.Pl) (key : ByteArray) (n : Int) (code : ByteArray) (hE : E.length ≤ maxLen) (h0 : clE A E s key n code = 0) :
  MutAt Tryz.prog J 84 [dkB A E s (.row 7 (L.map Job.plV)), dvB, .box (.str key), .box (.int .i64 n), .box (.str code)] [.ptr 1000001 0, .ptr 1000002 0, .ptr 1000003 0, .ptr 1000004 0] (.str ⟨#[111, 107]⟩)
   [dkB A (postB E (clsX key E n code A)) n (.row 7 (L.map Job.plV)), dvB, .box (.str key), .box (.int .i64 n), .box (.str code)] := by
 have hP := close_sound hJ A E s key n code hE
 unfold clV at hP
 rw [if_pos h0, h0] at hP
 obtain ⟨F, hF, sF⟩ := become_ex hJ A E s (.row 7 (L.map Job.plV)) (.inr ⟨L, rfl⟩) A (postB E (clsX key E n code A)) n
 unfold dkB bkV dvB at *
 generalize postB E (clsX key E n code A) = E' at *
 refine evMut (nn := []) (l := [(85, at1 _ (_, []))]) (nv := nv0) (fz := fz0) (dr := dr84) (dd := dd84) (lam := []) (ms := ⟨[(81, F)], lnL [(16, [1000000])], []⟩) ⟨at1_snd hP, trivial⟩ hJ trivial ⟨⟨sF, trivial⟩, trivial⟩ Tryz.func84 rfl rfl (Nat.le_of_ble_eq_true rfl) (Nat.le_of_ble_eq_true rfl) drOk84 rfl ?_
 dsimp only [Tryz.f84, dr84, dd84, Option.getD_some]
 refine ev_start ?_
 simp (disch := omega) only [at1_eq, hF, go_sem, evP_D, evD_guard, evD_cons, evD_zero, evD_nil]
theorem undo_mut {J : World → Prop} (hJ : Stable J) (A : List Ac) (E : List En) (s : Int) (L : List Job.Pl) (key by_ : ByteArray) (n : Int) (y : En) (hE : E.length ≤ maxLen) (hz : bkChk A E s = 0) (hg : getE key E = some y) (hk : keyOk' by_ = true) (hd : 0 ≤ n ∧ n ≤ 292193) (h0 : postE A E s (by_, n, turnL y.2.2) = 0) :
  MutAt Tryz.prog J 86 [dkB A E s (.row 7 (L.map Job.plV)), dvB, .box (.str key), .box (.str by_), .box (.int .i64 n)] [.ptr 1000001 0, .ptr 1000002 0, .ptr 1000003 0, .ptr 1000004 0] (.str ⟨#[111, 107]⟩)
   [dkB A (postB E (by_, n, turnL y.2.2)) s (.row 7 (L.map Job.plV)), dvB, .box (.str key), .box (.str by_), .box (.int .i64 n)] := by
 have hP := undo_sound hJ A E s key by_ n hE hz
 unfold udR at hP
 simp only [hg] at hP
 rw [if_neg (by rw [hk]; simp), if_neg (fun h => h hd)] at hP
 unfold posR at hP
 rw [if_pos h0, h0] at hP
 obtain ⟨F, hF, sF⟩ := become_ex hJ A E s (.row 7 (L.map Job.plV)) (.inr ⟨L, rfl⟩) A (postB E (by_, n, turnL y.2.2)) s
 unfold dkB bkV dvB at *
 generalize postB E (by_, n, turnL y.2.2) = E' at *
 refine evMut (nn := []) (l := [(87, at1 _ (_, []))]) (nv := nv0) (fz := fz0) (dr := dr86) (dd := dd86) (lam := []) (ms := ⟨[(81, F)], lnL [(16, [1000000])], []⟩) ⟨at1_snd hP, trivial⟩ hJ trivial ⟨⟨sF, trivial⟩, trivial⟩ Tryz.func86 rfl rfl (Nat.le_of_ble_eq_true rfl) (Nat.le_of_ble_eq_true rfl) drOk86 rfl ?_
 dsimp only [Tryz.f86, dr86, dd86, Option.getD_some]
 refine ev_start ?_
 simp (disch := omega) only [at1_eq, hF, go_sem, evP_D, evD_guard, evD_cons, evD_zero, evD_nil]
theorem run_mut (A : List Ac) (E : List En) (s : Int) (L : List Job.Pl) (n : Int) (hE : E.length ≤ maxLen) (h0 : jrE A E s L n = 0) :
  MutAt Tryz.prog DkJ 91 [dkB A E s (.row 7 (L.map Job.plV)), dvB, .box (.int .i64 n)] [.ptr 1000001 0, .ptr 1000002 0] (.str ⟨#[111, 107]⟩)
   [dkB A (runB A s E (Job.dueL n L)).2 s (.row 7 (L.map Job.plV)), dvB, .box (.int .i64 n)] := by
 have hJ := stableDk
 have hP := (jrun_sound A E s L n hE).J (J' := DkJ) fun w h => h.cal
 unfold jrV at hP
 rw [if_pos h0, h0] at hP
 obtain ⟨F, hF, sF⟩ := become_ex hJ A E s (.row 7 (L.map Job.plV)) (.inr ⟨L, rfl⟩) A (runB A s E (Job.dueL n L)).2 s
 unfold dkB bkV dvB at *
 generalize (runB A s E (Job.dueL n L)).2 = E' at *
 refine evMut (nn := []) (l := [(92, at1 _ (_, []))]) (nv := nv0) (fz := fz0) (dr := dr91) (dd := dd91) (lam := []) (ms := ⟨[(81, F)], lnL [(16, [1000000])], []⟩) ⟨at1_snd hP, trivial⟩ hJ trivial ⟨⟨sF, trivial⟩, trivial⟩ Tryz.func91 rfl rfl (Nat.le_of_ble_eq_true rfl) (Nat.le_of_ble_eq_true rfl) drOk91 rfl ?_
 dsimp only [Tryz.f91, dr91, dd91, Option.getD_some]
 refine ev_start ?_
 simp (disch := omega) only [at1_eq, hF, go_sem, evP_D, evD_guard, evD_cons, evD_zero, evD_nil]
theorem plan_mut (A : List Ac) (E : List En) (s : Int) (x : Job.Pl) (h0 : Job.plChk keyOk' codeOk [x] = 0) :
  MutAt Tryz.prog DkJ 88 [dkB A E s .zero, dvB, .box (Job.plV x)] [.ptr 1000001 0, .ptr 1000002 0] (.str ⟨#[111, 107]⟩) [dkB A E s (.row 7 ([x].map Job.plV)), dvB, .box (Job.plV x)] := by
 have hJ := stableDk
 have hC := (jcheck_sound [x]).J (J' := DkJ) fun w h => h.cal
 rw [h0] at hC
 simp only [List.map_cons, List.map_nil, Job.plV] at hC ⊢
 unfold dkB dvB at *
 refine evMut (nn := []) (l := [(89, at1 _ (_, [])), (90, at1 _ (_, [])), (67, at1 _ (_, []))]) (nv := nv0) (fz := (fzL [(16, [88])])) (dr := dr88) (dd := dd88) (lam := []) (ms := ms0) ⟨at1_snd (cloneP_nil hJ), at1_snd hC, at1_snd (must_sound hJ), trivial⟩ hJ trivial ms0_ok Tryz.func88 rfl rfl (Nat.le_of_ble_eq_true rfl) (Nat.le_of_ble_eq_true rfl) drOk88 rfl ?_
 dsimp only [Tryz.f88, dr88, dd88, Option.getD_some]
 refine ev_start ?_
 simp (disch := omega) only [at1_eq, freezeL, St.freeze, List.filter_cons, List.filter_nil, bne, go_sem, evP_D, evD_guard, evD_cons, evD_zero, evD_nil]
theorem balance_mut (A : List Ac) (E : List En) (s : Int) (L : List Job.Pl) (c : ByteArray) (n : Int) (hE : E.length ≤ maxLen) (h0 : balE A E s c n = 0) (hb : -9223372036854775808 ≤ balN A E s c n ∧ balN A E s c n ≤ 9223372036854775807) :
  MutAt Tryz.prog DkJ 143 [dkB A E s (.row 7 (L.map Job.plV)), dvB, .box (.str c), .box (.int .i64 n)] [.ptr 1000001 0, .ptr 1000002 0, .ptr 1000003 0] (.str (toldB [balN A E s c n])) [dkB A E s (.row 7 (L.map Job.plV)), dvB, .box (.str c), .box (.int .i64 n)] := by
 have hJ := stableDk
 have hP := balance_sound hJ A E s c n hE
 rw [h0] at hP
 have hO := deskone_sound _ hb.1 hb.2
 generalize balN A E s c n = r at *
 unfold dkB bkV dvB at *
 refine evMut (nn := []) (l := [(16, at1 _ (_, [])), (46, at1 _ (_, []))]) (nv := nv0) (fz := fz0) (dr := dr143) (dd := dd143) (lam := []) (ms := ms0) ⟨at1_snd hP, at1_snd hO, trivial⟩ hJ trivial ms0_ok Tryz.func143 rfl rfl (Nat.le_of_ble_eq_true rfl) (Nat.le_of_ble_eq_true rfl) drOk143 rfl ?_
 dsimp only [Tryz.f143, dr143, dd143, Option.getD_some]
 refine ev_start ?_
 simp (disch := omega) only [at1_eq, go_sem, evP_D, evD_guard, evD_cons, evD_zero, evD_nil]
theorem profit_mut (A : List Ac) (E : List En) (s : Int) (L : List Job.Pl) (a b : Int) (hE : E.length ≤ maxLen) (h0 : profE A E s a b = 0) (hb : -9223372036854775808 ≤ profN A E s a b ∧ profN A E s a b ≤ 9223372036854775807) :
  MutAt Tryz.prog DkJ 144 [dkB A E s (.row 7 (L.map Job.plV)), dvB, .box (.int .i64 a), .box (.int .i64 b)] [.ptr 1000001 0, .ptr 1000002 0, .ptr 1000003 0] (.str (toldB [profN A E s a b])) [dkB A E s (.row 7 (L.map Job.plV)), dvB, .box (.int .i64 a), .box (.int .i64 b)] := by
 have hJ := stableDk
 have hP := profit_sound hJ A E s a b hE
 rw [h0] at hP
 have hO := deskone_sound _ hb.1 hb.2
 generalize profN A E s a b = r at *
 unfold dkB bkV dvB at *
 refine evMut (nn := []) (l := [(145, at1 _ (_, [])), (46, at1 _ (_, []))]) (nv := nv0) (fz := fz0) (dr := dr144) (dd := dd144) (lam := []) (ms := ms0) ⟨at1_snd hP, at1_snd hO, trivial⟩ hJ trivial ms0_ok Tryz.func144 rfl rfl (Nat.le_of_ble_eq_true rfl) (Nat.le_of_ble_eq_true rfl) drOk144 rfl ?_
 dsimp only [Tryz.f144, dr144, dd144, Option.getD_some]
 refine ev_start ?_
 simp (disch := omega) only [at1_eq, go_sem, evP_D, evD_guard, evD_cons, evD_zero, evD_nil]
theorem trial_mut (A : List Ac) (E : List En) (s : Int) (L : List Job.Pl) (n : Int) (hE : E.length ≤ maxLen) (h0 : tlookE A E s n = 0) (hb : ∀ x ∈ [trD E n A, trC E n A], -9223372036854775808 ≤ x ∧ x ≤ 9223372036854775807) :
  MutAt Tryz.prog DkJ 146 [dkB A E s (.row 7 (L.map Job.plV)), dvB, .box (.int .i64 n)] [.ptr 1000001 0, .ptr 1000002 0] (.str (toldB [trD E n A, trC E n A])) [dkB A E s (.row 7 (L.map Job.plV)), dvB, .box (.int .i64 n)] := by
 have hJ := stableDk
 have hP := trial_sound hJ A E s n hE
 rw [if_pos h0, if_pos h0, h0] at hP
 have hO := told_sound _ hb (by simp)
 generalize trD E n A = r1 at *
 generalize trC E n A = r2 at *
 simp only [List.map_cons, List.map_nil] at hO
 unfold dkB bkV dvB at *
 refine evMut (nn := []) (l := [(147, at1 _ (_, [])), (67, at1 _ (_, [])), (68, at1 _ (_, []))]) (nv := nv0) (fz := fz0) (dr := dr146) (dd := dd146) (lam := []) (ms := ms0) ⟨at1_snd hP, at1_snd (must_sound hJ), at1_snd hO, trivial⟩ hJ trivial ms0_ok Tryz.func146 rfl rfl (Nat.le_of_ble_eq_true rfl) (Nat.le_of_ble_eq_true rfl) drOk146 rfl ?_
 dsimp only [Tryz.f146, dr146, dd146, Option.getD_some]
 refine ev_start ?_
 simp (disch := omega) only [at1_eq, go_sem, evP_D, evD_guard, evD_cons, evD_zero, evD_nil]
end Go.Proofs.YtcmpjagpggjfiaaGreatDoor
