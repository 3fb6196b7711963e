/-
  Steps of the proof of ClosingSays: ClsU ClsS ClosingSaysW.
-/
import Derived.Test.YtdmkmbaaemhhhaaGreatDoorC26
import Derived.Test.YtdmkmbaaemhhhaaGreatDoorC13
import Derived.Test.YtdmkmbaaemhhhaaGreatDoorC41
import Derived.Test.YtdmkmbaaemhhhaaGreatDoorC42
import Derived.Test.YtdmkmbaaemhhhaaGreatDoorC19
set_option linter.unusedVariables false
set_option linter.unusedSimpArgs false
section
namespace Go.Proofs.YtdmkmbaaemhhhaaGreatDoor
open Go Go.Ev Go.RowKit Go.Acc
set_option maxHeartbeats 4000000
theorem turnL_len (l : List (ByteArray × Int)) : (turnL l).length = l.length := by unfold turnL; rw [List.length_map]
def udR (A : List (ByteArray × Int)) (E : List En) (s : Int) (key b2 : ByteArray) (day : Int) : V := match getE key E with
 | none => .tup [.agg [.zero, .zero, .int .i64 0], .int .i64 4]
 | some y => if keyOk' b2 = false then .tup [.agg [.zero, .zero, .int .i64 0], .int .i64 3] else if ¬ (0 ≤ day ∧ day ≤ 292193) then .tup [.agg [.zero, .zero, .int .i64 0], .int .i64 1] else posR A E s (b2, day, turnL y.2.2)
theorem undo_bad {J : World → Prop} (hJ : Stable J) (A : List (ByteArray × Int)) (E : List En) (s : Int) (key b2 : ByteArray) (day : Int) (hE : E.length ≤ maxLen) (hz : ¬ bkChk A E s = 0) :
  SoundAt Tryz.prog J 17 [bkV A E s, .str key, .str b2, .int .i64 day] (.tup [.agg [.zero, .zero, .int .i64 0], .int .i64 (bkChk A E s)]) [] := by
 have hG := get_sound hJ A E s key hE
 have eG : gtV A E s key = .tup [.agg [.str ByteArray.empty, .int .i64 0, .zero], .int .i64 (bkChk A E s)] := by unfold gtV gtE; rw [if_pos hz, if_pos hz]; rfl
 rw [eG] at hG
 unfold bkV at hG ⊢
 generalize bkChk A E s = q at *
 refine evFn (l := [(9, at1 _ (_, []))]) (nv := nv0) (fz := fz0) (dr := dr17) (dd := dd17) (lam := []) (ms := ms0) ⟨at1_snd hG, trivial⟩ hJ trivial ms0_ok Tryz.func17 rfl rfl (Nat.le_of_ble_eq_true rfl) (Nat.le_of_ble_eq_true rfl) drOk17 ?_
 dsimp only [Tryz.f17, dr17, dd17, Option.getD_some]
 refine ev_start ?_
 simp (disch := omega) only [at1_eq, hz, go_sem, evP_D, evD_guard, evD_cons, evD_zero, evD_nil]
set_option maxRecDepth 20000 in
set_option maxHeartbeats 8000000 in
theorem undo_sound {J : World → Prop} (hJ : Stable J) (A : List (ByteArray × Int)) (E : List En) (s : Int) (key b2 : ByteArray) (day : Int) (hE : E.length ≤ maxLen) (hz : bkChk A E s = 0) :
  SoundAt Tryz.prog J 17 [bkV A E s, .str key, .str b2, .int .i64 day] (udR A E s key b2 day) [] := by
 have hG := get_sound hJ A E s key hE
 unfold gtV gtE at hG
 rw [if_neg (fun h => h hz), if_neg (fun h => h hz)] at hG
 unfold udR
 cases hg : getE key E with
 | none =>
  rw [hg] at hG
  simp only [zeV] at hG ⊢
  unfold bkV at hG ⊢
  refine evFn (l := [(9, at1 _ (_, []))]) (nv := nv0) (fz := fz0) (dr := dr17) (dd := dd17) (lam := []) (ms := ms0) ⟨at1_snd hG, trivial⟩ hJ trivial ms0_ok Tryz.func17 rfl rfl (Nat.le_of_ble_eq_true rfl) (Nat.le_of_ble_eq_true rfl) drOk17 ?_
  dsimp only [Tryz.f17, dr17, dd17, Option.getD_some]
  refine ev_start ?_
  simp (disch := omega) only [at1_eq, go_sem, evP_D, evD_guard, evD_cons, evD_zero, evD_nil]
 | some y =>
  rw [hg] at hG
  have hy := ((bkChk_ok hz).2.2.2 y (getE_some hg).1).1
  obtain ⟨yk, yd, yl⟩ := y
  simp only [enW_mk] at hG ⊢
  have hye : enE yk yd yl = 0 := hy
  have bad : ∀ e, (if enE yk yd yl = 0 then (if keyOk' b2 = false then 3 else if ¬ (0 ≤ day ∧ day ≤ 292193) then 1 else 0) else enE yk yd yl) = e → e ≠ 0 →
    SoundAt Tryz.prog J 17 [bkV A E s, .str key, .str b2, .int .i64 day] (.tup [.agg [.zero, .zero, .int .i64 0], .int .i64 e]) [] := fun e he h0 => by
   have hT := turned_bad hJ yk yd yl b2 day e he h0
   unfold enV ozV at hT
   unfold bkV at hG ⊢
   refine evFn (l := [(9, at1 _ (_, [])), (51, at1 _ (_, []))]) (nv := nv0) (fz := fz0) (dr := dr17) (dd := dd17) (lam := []) (ms := ms0) ⟨at1_snd hG, at1_snd hT, trivial⟩ hJ trivial ms0_ok Tryz.func17 rfl rfl (Nat.le_of_ble_eq_true rfl) (Nat.le_of_ble_eq_true rfl) drOk17 ?_
   dsimp only [Tryz.f17, dr17, dd17, Option.getD_some]
   refine ev_start ?_
   simp (disch := omega) only [at1_eq, h0, go_sem, evP_D, evD_guard, evD_cons, evD_zero, evD_nil]
  cases hk : keyOk' b2 with
  | false => rw [if_pos rfl]; exact bad 3 (by rw [if_pos hye, if_pos hk]) (by omega)
  | true =>
   rw [if_neg (by simp)]
   by_cases hd : 0 ≤ day ∧ day ≤ 292193
   case neg => rw [if_pos hd]; exact bad 1 (by rw [if_pos hye, if_neg (by rw [hk]; simp), if_pos hd]) (by omega)
   rw [if_neg (fun h => h hd)]
   have hT := turned_sound hJ yk yd yl b2 day hye hk hd
   have hP := post_sound hJ A E s (b2, day, turnL yl) hE
   rw [enW_mk] at hP
   unfold posR at hP ⊢
   unfold enV at hT
   generalize (turnL yl).map acV = L at *
   by_cases hp : postE A E s (b2, day, turnL yl) = 0
   ·rw [if_pos hp, hp] at hP ⊢
    generalize postB E (b2, day, turnL yl) = E' at *
    unfold bkV at hG hP ⊢
    refine evFn (l := [(9, at1 _ (_, [])), (51, at1 _ (_, _)), (8, at1 _ (_, []))]) (nv := nv0) (fz := fzL [(36, [216])]) (dr := dr17) (dd := dd17) (lam := []) (ms := ms0) ⟨at1_snd hG, at1_snd hT, at1_snd hP, trivial⟩ hJ trivial ms0_ok Tryz.func17 rfl rfl (Nat.le_of_ble_eq_true rfl) (Nat.le_of_ble_eq_true rfl) drOk17 ?_
    dsimp only [Tryz.f17, dr17, dd17, Option.getD_some]
    refine ev_start ?_
    simp (disch := omega) only [at1_eq, freezeL, St.freeze, List.filter_cons, List.filter_nil, bne, go_sem, evP_D, evD_guard, evD_cons, evD_zero, evD_nil]
   ·rw [if_neg hp] at hP ⊢
    unfold zbV at hP ⊢
    generalize postE A E s (b2, day, turnL yl) = q at *
    unfold bkV at hG hP ⊢
    refine evFn (l := [(9, at1 _ (_, [])), (51, at1 _ (_, _)), (8, at1 _ (_, []))]) (nv := nv0) (fz := fzL [(36, [216])]) (dr := dr17) (dd := dd17) (lam := []) (ms := ms0) ⟨at1_snd hG, at1_snd hT, at1_snd hP, trivial⟩ hJ trivial ms0_ok Tryz.func17 rfl rfl (Nat.le_of_ble_eq_true rfl) (Nat.le_of_ble_eq_true rfl) drOk17 ?_
    dsimp only [Tryz.f17, dr17, dd17, Option.getD_some]
    refine ev_start ?_
    simp (disch := omega) only [at1_eq, freezeL, St.freeze, List.filter_cons, List.filter_nil, bne, go_sem, evP_D, evD_guard, evD_cons, evD_zero, evD_nil]
set_option maxRecDepth 20000 in
set_option maxHeartbeats 8000000 in
theorem rundo_sound {J : World → Prop} (hJ : Stable J) (A : List (ByteArray × Int)) (E : List En) (s : Int) (key b2 : ByteArray) (day : Int) (hE : E.length ≤ maxLen) (hz : bkChk A E s = 0) (hb2 : b2.size ≤ maxLen) :
  SoundAt Tryz.prog J 19 [bkV A E s, .str key, .str b2, .int .i64 day] (udR A E s key b2 day) [] := by
 have hG := rget_sound hJ A E s key hE
 unfold rgV at hG
 unfold udR
 cases hg : getE key E with
 | none =>
  rw [hg] at hG
  simp only at hG ⊢
  unfold bkV at hG ⊢
  refine evFn (l := [(15, at1 _ (_, []))]) (nv := nv0) (fz := fz0) (dr := dr19) (dd := dd19) (lam := []) (ms := ms0) ⟨at1_snd hG, trivial⟩ hJ trivial ms0_ok Tryz.func19 rfl rfl (Nat.le_of_ble_eq_true rfl) (Nat.le_of_ble_eq_true rfl) drOk19 ?_
  dsimp only [Tryz.f19, dr19, dd19, Option.getD_some]
  refine ev_start ?_
  simp (disch := omega) only [at1_eq, go_sem, evP_D, evD_guard, evD_cons, evD_zero, evD_nil]
 | some y =>
  rw [hg] at hG
  have hy := ((bkChk_ok hz).2.2.2 y (getE_some hg).1).1
  have hl12 := (enX_ok hy).2.1
  obtain ⟨yk, yd, yl⟩ := y
  simp only [enW_mk] at hG ⊢
  simp only at hl12
  have hye : enE yk yd yl = 0 := hy
  have bad : ∀ e, (if keyOk' b2 = false then 3 else if ¬ (0 ≤ day ∧ day ≤ 292193) then 1 else 0) = e → e ≠ 0 →
    SoundAt Tryz.prog J 19 [bkV A E s, .str key, .str b2, .int .i64 day] (.tup [.agg [.zero, .zero, .int .i64 0], .int .i64 e]) [] := fun e he h0 => by
   have hT := rturned_bad hJ yk yd yl b2 day e hb2 he h0
   unfold enV ozV at hT
   unfold bkV at hG ⊢
   refine evFn (l := [(15, at1 _ (_, [])), (53, at1 _ (_, []))]) (nv := nv0) (fz := fz0) (dr := dr19) (dd := dd19) (lam := []) (ms := ms0) ⟨at1_snd hG, at1_snd hT, trivial⟩ hJ trivial ms0_ok Tryz.func19 rfl rfl (Nat.le_of_ble_eq_true rfl) (Nat.le_of_ble_eq_true rfl) drOk19 ?_
   dsimp only [Tryz.f19, dr19, dd19, Option.getD_some]
   refine ev_start ?_
   simp (disch := omega) only [at1_eq, h0, go_sem, evP_D, evD_guard, evD_cons, evD_zero, evD_nil]
  cases hk : keyOk' b2 with
  | false => rw [if_pos rfl]; exact bad 3 (by rw [if_pos hk]) (by omega)
  | true =>
   rw [if_neg (by simp)]
   by_cases hd : 0 ≤ day ∧ day ≤ 292193
   case neg => rw [if_pos hd]; exact bad 1 (by rw [if_neg (by rw [hk]; simp), if_pos hd]) (by omega)
   rw [if_neg (fun h => h hd)]
   have hT := rturned_sound hJ yk yd yl b2 day hye hk hd hb2
   have hP := rpost_sound hJ A E s (b2, day, turnL yl) hz hb2 (by simp only [turnL_len, maxLen]; omega)
   rw [enW_mk] at hP
   unfold posR at hP ⊢
   unfold enV at hT
   generalize (turnL yl).map acV = L at *
   by_cases hp : postE A E s (b2, day, turnL yl) = 0
   ·rw [if_pos hp, hp] at hP ⊢
    generalize postB E (b2, day, turnL yl) = E' at *
    unfold bkV at hG hP ⊢
    refine evFn (l := [(15, at1 _ (_, [])), (53, at1 _ (_, _)), (14, at1 _ (_, []))]) (nv := nv0) (fz := fzL [(36, [216])]) (dr := dr19) (dd := dd19) (lam := []) (ms := ms0) ⟨at1_snd hG, at1_snd hT, at1_snd hP, trivial⟩ hJ trivial ms0_ok Tryz.func19 rfl rfl (Nat.le_of_ble_eq_true rfl) (Nat.le_of_ble_eq_true rfl) drOk19 ?_
    dsimp only [Tryz.f19, dr19, dd19, Option.getD_some]
    refine ev_start ?_
    simp (disch := omega) only [at1_eq, freezeL, St.freeze, List.filter_cons, List.filter_nil, bne, go_sem, evP_D, evD_guard, evD_cons, evD_zero, evD_nil]
   ·rw [if_neg hp] at hP ⊢
    unfold zbV at hP ⊢
    generalize postE A E s (b2, day, turnL yl) = q at *
    unfold bkV at hG hP ⊢
    refine evFn (l := [(15, at1 _ (_, [])), (53, at1 _ (_, _)), (14, at1 _ (_, []))]) (nv := nv0) (fz := fzL [(36, [216])]) (dr := dr19) (dd := dd19) (lam := []) (ms := ms0) ⟨at1_snd hG, at1_snd hT, at1_snd hP, trivial⟩ hJ trivial ms0_ok Tryz.func19 rfl rfl (Nat.le_of_ble_eq_true rfl) (Nat.le_of_ble_eq_true rfl) drOk19 ?_
    dsimp only [Tryz.f19, dr19, dd19, Option.getD_some]
    refine ev_start ?_
    simp (disch := omega) only [at1_eq, freezeL, St.freeze, List.filter_cons, List.filter_nil, bne, go_sem, evP_D, evD_guard, evD_cons, evD_zero, evD_nil]
end Go.Proofs.YtdmkmbaaemhhhaaGreatDoor
end
section
namespace Go.Proofs.YtdmkmbaaemhhhaaGreatDoor
open Go Go.Ev Go.RowKit Go.Acc
set_option maxHeartbeats 4000000
def ansV (B : Option (List En × Int)) (A : List (ByteArray × Int)) (e : Int) : V := match B with
 | some p => .tup [.agg [.row 2 (A.map acV), .row 3 (p.1.map enW), .int .i64 p.2], .int .i64 e]
 | none => .tup [.agg [.zero, .zero, .int .i64 0], .int .i64 e]
theorem cl_ans (A : List (ByteArray × Int)) (E : List En) (s : Int) (key : ByteArray) (day : Int) (code : ByteArray) : ∃ B e, clV A E s key day code = ansV B A e := by
 unfold clV
 by_cases h : clE A E s key day code = 0
 ·rw [if_pos h]; exact ⟨some (_, _), _, rfl⟩
 ·rw [if_neg h]; exact ⟨none, _, rfl⟩
theorem pos_ans (A : List (ByteArray × Int)) (E : List En) (s : Int) (x : En) : ∃ B e, posR A E s x = ansV B A e := by
 unfold posR
 by_cases h : postE A E s x = 0
 ·rw [if_pos h]; exact ⟨some (_, _), _, rfl⟩
 ·rw [if_neg h]; exact ⟨none, _, rfl⟩
theorem ud_ans (A : List (ByteArray × Int)) (E : List En) (s : Int) (key b2 : ByteArray) (day : Int) : ∃ B e, udR A E s key b2 day = ansV B A e := by
 unfold udR
 split
 ·exact ⟨none, 4, rfl⟩
 ·split
  ·exact ⟨none, 3, rfl⟩
  ·split
   ·exact ⟨none, 1, rfl⟩
   ·exact pos_ans _ _ _ _
set_option maxRecDepth 20000 in
set_option maxHeartbeats 16000000 in
theorem closing_law {J : World → Prop} (hJ : Stable J) (A : List (ByteArray × Int)) (E : List En) (s : Int) (key b2 : ByteArray) (day : Int) (code : ByteArray) (hE : okEn E) (hkx : key.size ≤ maxLen) (hb2 : b2.size ≤ maxLen) :
  SoundAt Tryz.prog J 4 [bkV A E s, .str key, .str b2, .int .i64 day, .str code] (.bool true) [] := by
 have hC := close_sound hJ A E s key day code hE.1
 have hB := rbook_sound hJ A E s hE
 by_cases hz : bkChk A E s = 0
 case neg =>
  have hU := undo_bad hJ A E s key b2 day hE.1 hz
  have e1 : clE A E s key day code = bkChk A E s := if_pos hz
  have eR : clV A E s key day code = .tup [.agg [.zero, .zero, .int .i64 0], .int .i64 (bkChk A E s)] := by unfold clV; rw [e1, if_neg hz]; rfl
  rw [eR] at hC
  unfold bkV at hC hB hU ⊢
  generalize bkChk A E s = q at *
  have ht := toldF_eq (x := .zero) (x' := .zero) (y := .zero) (y' := .zero) (s := 0) (e := q) (A := []) (E := []) rfl rfl rfl rfl
  refine evFn (l := [(16, at1 _ (_, [])), (17, at1 _ (_, [])), (10, at1 _ (_, [])), (12, toldF)]) (nv := nv0) (fz := fz0) (dr := dr4) (dd := dd4) (lam := []) (ms := ms0) ⟨at1_snd hC, at1_snd hU, at1_snd hB, told_snd hJ, trivial⟩ hJ trivial ms0_ok Tryz.func4 rfl rfl (Nat.le_of_ble_eq_true rfl) (Nat.le_of_ble_eq_true rfl) drOk4 ?_
  dsimp only [Tryz.f4, dr4, dd4, Option.getD_some]
  refine ev_start ?_
  simp (disch := omega) only [at1_eq, hz, ht, go_sem, evPd, evDg, evDc, evDz, evDn]
 have hU := undo_sound hJ A E s key b2 day hE.1 hz
 have hRC := rclose_sound hJ A E s key day code hE.1 hz hkx
 have hRU := rundo_sound hJ A E s key b2 day hE.1 hz hb2
 rw [hz] at hB
 obtain ⟨B1, e1, h1⟩ := cl_ans A E s key day code
 obtain ⟨B2, e2, h2⟩ := ud_ans A E s key b2 day
 rw [h1] at hC hRC
 rw [h2] at hU hRU
 have tz : ∀ e, toldF [.agg [.zero, .zero, .int .i64 0], .int .i64 e, .agg [.zero, .zero, .int .i64 0], .int .i64 e] = some (.bool true, []) := fun e => toldF_eq (x := .zero) (x' := .zero) (y := .zero) (y' := .zero) (s := 0) (e := e) (A := []) (E := []) rfl rfl rfl rfl
 have tb : ∀ (E' : List En) (n e : Int), toldF [.agg [.row 2 (A.map acV), .row 3 (E'.map enW), .int .i64 n], .int .i64 e, .agg [.row 2 (A.map acV), .row 3 (E'.map enW), .int .i64 n], .int .i64 e] = some (.bool true, []) := fun E' n e => toldF_eq (s := n) (e := e) (rowAc_row A) (rowAc_row A) (rowEn_row E') (rowEn_row E')
 unfold bkV at hC hB hU hRC hRU ⊢
 cases B1 with
 | none =>
  cases B2 with
  | none =>
   unfold ansV at hC hRC hU hRU
   simp only at hC hRC hU hRU
   refine evFn (l := [(16, at1 _ (_, [])), (17, at1 _ (_, [])), (10, at1 _ (_, [])), (12, toldF), (18, at1 _ (_, [])), (19, at1 _ (_, []))]) (nv := nv0) (fz := fz0) (dr := dr4) (dd := dd4) (lam := []) (ms := ms0) ⟨at1_snd hC, at1_snd hU, at1_snd hB, told_snd hJ, at1_snd hRC, at1_snd hRU, trivial⟩ hJ trivial ms0_ok Tryz.func4 rfl rfl (Nat.le_of_ble_eq_true rfl) (Nat.le_of_ble_eq_true rfl) drOk4 ?_
   dsimp only [Tryz.f4, dr4, dd4, Option.getD_some]
   refine ev_start ?_
   simp (disch := omega) only [at1_eq, tz, go_sem, evPd, evDg, evDc, evDz, evDn]
  | some p =>
   obtain ⟨E2, n2⟩ := p
   have t2 := tb E2 n2 e2
   unfold ansV at hC hRC hU hRU
   simp only at hC hRC hU hRU
   refine evFn (l := [(16, at1 _ (_, [])), (17, at1 _ (_, [])), (10, at1 _ (_, [])), (12, toldF), (18, at1 _ (_, [])), (19, at1 _ (_, []))]) (nv := nv0) (fz := fz0) (dr := dr4) (dd := dd4) (lam := []) (ms := ms0) ⟨at1_snd hC, at1_snd hU, at1_snd hB, told_snd hJ, at1_snd hRC, at1_snd hRU, trivial⟩ hJ trivial ms0_ok Tryz.func4 rfl rfl (Nat.le_of_ble_eq_true rfl) (Nat.le_of_ble_eq_true rfl) drOk4 ?_
   dsimp only [Tryz.f4, dr4, dd4, Option.getD_some]
   refine ev_start ?_
   simp (disch := omega) only [at1_eq, tz, t2, go_sem, evPd, evDg, evDc, evDz, evDn]
 | some p1 =>
  obtain ⟨E1, n1⟩ := p1
  have t1 := tb E1 n1 e1
  cases B2 with
  | none =>
   unfold ansV at hC hRC hU hRU
   simp only at hC hRC hU hRU
   refine evFn (l := [(16, at1 _ (_, [])), (17, at1 _ (_, [])), (10, at1 _ (_, [])), (12, toldF), (18, at1 _ (_, [])), (19, at1 _ (_, []))]) (nv := nv0) (fz := fz0) (dr := dr4) (dd := dd4) (lam := []) (ms := ms0) ⟨at1_snd hC, at1_snd hU, at1_snd hB, told_snd hJ, at1_snd hRC, at1_snd hRU, trivial⟩ hJ trivial ms0_ok Tryz.func4 rfl rfl (Nat.le_of_ble_eq_true rfl) (Nat.le_of_ble_eq_true rfl) drOk4 ?_
   dsimp only [Tryz.f4, dr4, dd4, Option.getD_some]
   refine ev_start ?_
   simp (disch := omega) only [at1_eq, tz, t1, go_sem, evPd, evDg, evDc, evDz, evDn]
  | some p =>
   obtain ⟨E2, n2⟩ := p
   have t2 := tb E2 n2 e2
   unfold ansV at hC hRC hU hRU
   simp only at hC hRC hU hRU
   refine evFn (l := [(16, at1 _ (_, [])), (17, at1 _ (_, [])), (10, at1 _ (_, [])), (12, toldF), (18, at1 _ (_, [])), (19, at1 _ (_, []))]) (nv := nv0) (fz := fz0) (dr := dr4) (dd := dd4) (lam := []) (ms := ms0) ⟨at1_snd hC, at1_snd hU, at1_snd hB, told_snd hJ, at1_snd hRC, at1_snd hRU, trivial⟩ hJ trivial ms0_ok Tryz.func4 rfl rfl (Nat.le_of_ble_eq_true rfl) (Nat.le_of_ble_eq_true rfl) drOk4 ?_
   dsimp only [Tryz.f4, dr4, dd4, Option.getD_some]
   refine ev_start ?_
   simp (disch := omega) only [at1_eq, t1, t2, go_sem, evPd, evDg, evDc, evDz, evDn]
end Go.Proofs.YtdmkmbaaemhhhaaGreatDoor
end
section
namespace Go.Proofs.YtdmkmbaaemhhhaaGreatDoor
open Go Go.Ev Go.RowKit Go.Acc
set_option maxRecDepth 100000 in
theorem walkClosingSays (c0 : V) (h0 : TyV Tryz.prog 9 25 c0) (c1 : V) (h1 : TyV Tryz.prog 9 9 c1) (c2 : V) (h2 : TyV Tryz.prog 9 9 c2) (c3 : V) (h3 : TyV Tryz.prog 9 3 c3) (c4 : V) (h4 : TyV Tryz.prog 9 9 c4) :
  SoundAt Tryz.prog J0 4 [c0, c1, c2, c3, c4] (.bool true) [] := by
 obtain ⟨A, E, s, rfl, hE⟩ := ty_book (m := 3) h0
 obtain ⟨k, rfl, hk⟩ := ty_str (m := 8) h1 Tryz.underlying9
 obtain ⟨b, rfl, hb⟩ := ty_str (m := 8) h2 Tryz.underlying9
 obtain ⟨n, rfl, _⟩ := ty_int (m := 8) h3 Tryz.underlying3
 obtain ⟨c, rfl, _⟩ := ty_str (m := 8) h4 Tryz.underlying9
 exact closing_law stable0 A E s k b n c hE hk hb
end Go.Proofs.YtdmkmbaaemhhhaaGreatDoor
end
