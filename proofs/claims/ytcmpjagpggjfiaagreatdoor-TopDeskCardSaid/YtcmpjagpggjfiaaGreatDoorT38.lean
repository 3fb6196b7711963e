/-
  Plans are run, by the machine: the program.
-/
import Derived.Test.YtcmpjagpggjfiaaGreatDoorT34
import Derived.Test.YtcmpjagpggjfiaaGreatDoorT36
import Derived.Test.YtcmpjagpggjfiaaGreatDoorT21
set_option linter.unusedVariables false
set_option linter.unusedSimpArgs false
namespace Go.Acc
open Go Go.Ev
theorem runB_nil (A : List (ByteArray × Int)) (s : Int) (E : List En) : runB A s E [] = (0, E) := rfl
theorem runB_cons (A : List (ByteArray × Int)) (s : Int) (E : List En) (x : En) (r : List En) : runB A s E (x :: r) = if postE A E s x = 0 then runB A s (postB E x) r else (postE A E s x, []) := rfl
end Go.Acc
namespace Go.Proofs.YtcmpjagpggjfiaaGreatDoor
open Go Go.Ev Go.RowKit Go.Acc
set_option maxHeartbeats 4000000
theorem enJ_map (E : List En) : E.map enJ = E.map enW := rfl
noncomputable def jrE (A : List (ByteArray × Int)) (E : List En) (s : Int) (l : List Job.Pl) (day : Int) : Int :=
 if bkChk A E s ≠ 0 then bkChk A E s else if Job.plChk keyOk' codeOk l ≠ 0 then Job.plChk keyOk' codeOk l else if ¬ (0 ≤ day ∧ day ≤ 292193) then 1 else (runB A s E (Job.dueL day l)).1
noncomputable def jrV (A : List (ByteArray × Int)) (E : List En) (s : Int) (l : List Job.Pl) (day : Int) : V := .tup [if jrE A E s l day = 0 then bkV A (runB A s E (Job.dueL day l)).2 s else zbV, .int .i64 (jrE A E s l day)]
set_option maxRecDepth 20000 in
set_option maxHeartbeats 8000000 in
theorem jrun_sound (A : List (ByteArray × Int)) (E : List En) (s : Int) (l : List Job.Pl) (day : Int) (hE : E.length ≤ maxLen) : SoundAt Tryz.prog Tab 92 [bkV A E s, .row 7 (l.map Job.plV), .int .i64 day] (jrV A E s l day) [] := by
 have hJ := stableTab
 have hB := bcheck_sound hJ A E s hE
 unfold bkV at hB ⊢
 by_cases hz : bkChk A E s = 0
 case neg =>
  have e1 : jrE A E s l day = bkChk A E s := if_pos hz
  have eR : jrV A E s l day = .tup [.agg [.zero, .zero, .int .i64 0], .int .i64 (bkChk A E s)] := by unfold jrV; rw [e1, if_neg hz]; rfl
  rw [eR]
  refine evFn (l := [(26, at1 _ (_, []))]) (nv := nv0) (fz := fz0) (dr := dr92) (dd := dd92) (lam := []) (ms := ms0) ⟨at1_snd hB, trivial⟩ hJ trivial ms0_ok Tryz.func92 rfl rfl (Nat.le_of_ble_eq_true rfl) (Nat.le_of_ble_eq_true rfl) drOk92 ?_
  dsimp only [Tryz.f92, dr92, dd92, Option.getD_some]
  refine ev_start ?_
  simp (disch := omega) only [at1_eq, hz, go_sem, evP_D, evD_guard, evD_cons, evD_zero, evD_nil]
 by_cases hp : Job.plChk keyOk' codeOk l = 0
 case neg =>
  have e1 : jrE A E s l day = Job.plChk keyOk' codeOk l := by unfold jrE; rw [if_neg (fun h => h hz), if_pos hp]
  have eR : jrV A E s l day = .tup [.agg [.zero, .zero, .int .i64 0], .int .i64 (Job.plChk keyOk' codeOk l)] := by unfold jrV; rw [e1, if_neg hp]; rfl
  have hD := jdue_bad l day _ (by rw [if_neg hp]) hp
  rw [eR]
  generalize Job.plChk keyOk' codeOk l = e at *
  refine evFn (l := [(26, at1 _ (_, [])), (142, at1 _ (_, []))]) (nv := nv0) (fz := fz0) (dr := dr92) (dd := dd92) (lam := []) (ms := ms0) ⟨at1_snd hB, at1_snd hD, trivial⟩ hJ trivial ms0_ok Tryz.func92 rfl rfl (Nat.le_of_ble_eq_true rfl) (Nat.le_of_ble_eq_true rfl) drOk92 ?_
  dsimp only [Tryz.f92, dr92, dd92, Option.getD_some]
  refine ev_start ?_
  simp (disch := omega) only [at1_eq, hz, hp, go_sem, evP_D, evD_guard, evD_cons, evD_zero, evD_nil]
 by_cases hd : 0 ≤ day ∧ day ≤ 292193
 case neg =>
  have e1 : jrE A E s l day = 1 := by unfold jrE; rw [if_neg (fun h => h hz), if_neg (fun h => h hp), if_pos hd]
  have eR : jrV A E s l day = .tup [.agg [.zero, .zero, .int .i64 0], .int .i64 1] := by unfold jrV; rw [e1]; rfl
  have hD := jdue_bad l day 1 (by rw [if_pos hp, if_neg hd]) (by omega)
  rw [eR]
  refine evFn (l := [(26, at1 _ (_, [])), (142, at1 _ (_, []))]) (nv := nv0) (fz := fz0) (dr := dr92) (dd := dd92) (lam := []) (ms := ms0) ⟨at1_snd hB, at1_snd hD, trivial⟩ hJ trivial ms0_ok Tryz.func92 rfl rfl (Nat.le_of_ble_eq_true rfl) (Nat.le_of_ble_eq_true rfl) drOk92 ?_
  dsimp only [Tryz.f92, dr92, dd92, Option.getD_some]
  refine ev_start ?_
  simp (disch := omega) only [at1_eq, hz, go_sem, evP_D, evD_guard, evD_cons, evD_zero, evD_nil]
 have hD := jdue_sound l day hp hd
 rw [enJ_map] at hD
 have hk := bkChk_ok hz
 have hC := copied_sound hJ A E s (acChk_len hk.1) (fun x hx => (enX_ok (hk.2.2.2 x hx).1).2.1) hk.2.2.1
 unfold bkV at hC
 obtain ⟨PF, hPF, hPFs⟩ := post_ex hJ A s
 have hlen : (Job.dueL day l).length ≤ 480 := by
  have h1 := dueL_len (day := day) (l := l) fun q hq => (Job.one_ok keyOk' codeOk ((Job.chk_one keyOk' codeOk hp).2 q hq)).num
  have h2 := (Job.chk_one keyOk' codeOk hp).1
  have h3 : l.length * 40 ≤ 12 * 40 := Nat.mul_le_mul_right _ h2
  omega
 have e0 : jrE A E s l day = (runB A s E (Job.dueL day l)).1 := by unfold jrE; rw [if_neg (fun h => h hz), if_neg (fun h => h hp), if_neg (fun h => h hd)]
 have eR : jrV A E s l day = .tup [if (runB A s E (Job.dueL day l)).1 = 0 then .agg [.row 2 (A.map acV), .row 3 ((runB A s E (Job.dueL day l)).2.map enW), .int .i64 s] else .agg [.zero, .zero, .int .i64 0], .int .i64 (runB A s E (Job.dueL day l)).1] := by unfold jrV; rw [e0]; rfl
 rw [eR]
 generalize hL : Job.dueL day l = L at *
 obtain ⟨R, hR⟩ : ∃ R, R = runB A s E L := ⟨_, rfl⟩
 rw [← hR]
 refine evFn (l := [(26, at1 _ (_, [])), (142, at1 _ (_, [.vec 55 3 (L.map enW)])), (30, at1 _ (_, [])), (13, PF)]) (nv := nv0) (fz := fz0) (dr := dr92) (dd := dd92) (lam := []) (ms := ms0) ⟨at1_snd hB, at1_snd hD, at1_snd hC, hPFs, trivial⟩ hJ trivial ms0_ok Tryz.func92 rfl rfl (Nat.le_of_ble_eq_true rfl) (Nat.le_of_ble_eq_true rfl) drOk92 ?_
 dsimp only [Tryz.f92, dr92, dd92, Option.getD_some]
 refine ev_start ?_
 simp (disch := omega) only [at1_eq, hz, List.length_map, go_sem, evP_D, evD_guard, evD_cons, evD_zero, evD_nil]
 refine evQ_loop [6, 11, 32, 33, 34] [48, 88, 184] (fun σ => ∃ (k : Nat) (E' : List En), (k ≤ L.length ∧ bkChk A E' s = 0 ∧ runB A s E' (L.drop k) = R) ∧ σ = ⟨[(6, .ptr 48 0), (11, .ptr 88 0), (32, .vec 184), (33, .int .i64 L.length), (34, .int .i64 k)], [(48, .box (.agg [.zero, .zero, .int .i64 0])), (184, .vec 55 3 (L.map enW)), (88, .box (.agg [.row 2 (A.map acV), .row 3 (E'.map enW), .int .i64 s]))]⟩)
  (fun σ => L.length - (match Ev.look 34 σ.env with | some (.int _ n) => n.toNat | _ => 0)) ?_ ?_
 ·simp only [go_sem, evP_D, evD_guard, evD_cons, evD_zero, evD_nil]
  exact ⟨0, E, ⟨Nat.zero_le _, hz, hR.symm⟩, rfl⟩
 ·rintro σ ⟨k, E', ⟨hk, hz', hrun⟩, rfl⟩
  by_cases hlt : k < L.length
  case neg =>
   have hk' : k = L.length := by omega
   subst hk'
   rw [List.drop_length, runB_nil] at hrun
   subst hrun
   have hlt' : ¬ ((L.length : Int) < L.length) := by omega
   simp (disch := (first | omega | assumption)) only [hlt', go_sem, evP_D, evD_guard, evD_cons, evD_zero, evD_nil]
  have hlt' : (k : Int) < L.length := by omega
  obtain ⟨⟨xk, xd, xl⟩, hx⟩ : ∃ x, L[k]? = some x := ⟨_, List.getElem?_eq_getElem hlt⟩
  have hg := enW_get hx
  have hdr : L.drop k = (xk, xd, xl) :: L.drop (k + 1) := by
   obtain ⟨h1, h2⟩ := List.getElem?_eq_some_iff.1 hx
   rw [List.drop_eq_getElem_cons h1, h2]
  rw [hdr, runB_cons] at hrun
  have hEl := (bkChk_iff.1 hz').2.2.1
  have hP := hPF E' (xk, xd, xl) (by simp only [maxLen]; omega)
  unfold posR at hP
  rw [enW_mk] at hP
  have hms : L.length - ((k : Int) + 1).toNat < L.length - (k : Int).toNat := by
   have e3 : ((k : Int) + 1).toNat = k + 1 := by omega
   rw [e3, Int.toNat_natCast]; exact Nat.sub_lt_sub_left hlt (Nat.lt_succ_self k)
  by_cases h0 : postE A E' s (xk, xd, xl) = 0
  ·rw [if_pos h0] at hrun
   rw [h0, if_pos rfl] at hP
   unfold bkV at hP
   have hz2 := (postE_ok h0).2.2
   simp (disch := (first | omega | assumption)) only [hlt', idx_nat, List.length_map, hg, hP, go_sem, evP_D, evD_guard, evD_cons, evD_zero, evD_nil]
   exact ⟨⟨k + 1, _, ⟨hlt, hz2, hrun⟩, rfl⟩, hms⟩
  ·rw [if_neg h0] at hrun
   rw [if_neg h0] at hP
   unfold zbV at hP
   subst hrun
   generalize postE A E' s (xk, xd, xl) = q at *
   simp (disch := (first | omega | assumption)) only [hlt', idx_nat, List.length_map, hg, hP, h0, go_sem, evP_D, evD_guard, evD_cons, evD_zero, evD_nil]
end Go.Proofs.YtcmpjagpggjfiaaGreatDoor
