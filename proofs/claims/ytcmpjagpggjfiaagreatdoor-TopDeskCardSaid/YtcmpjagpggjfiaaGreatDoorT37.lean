/-
  Books are closed, by the machine: the program.
-/
import Derived.Test.YtcmpjagpggjfiaaGreatDoorT36
import Derived.Test.YtcmpjagpggjfiaaGreatDoorT21
set_option linter.unusedVariables false
set_option linter.unusedSimpArgs false
namespace Go.Acc
open Go.Proofs.YtcmpjagpggjfiaaGreatDoor
open Go Go.Ev
def clE (A : List (ByteArray × Int)) (E : List En) (s : Int) (key : ByteArray) (day : Int) (code : ByteArray) : Int :=
 if bkChk A E s ≠ 0 then bkChk A E s else if ¬ (0 ≤ day ∧ day ≤ 292193) then 1 else if (kindR code A).2 ≠ 0 then (kindR code A).2 else if (kindR code A).1 ≠ 2 then 3 else
 if clsL E day A = [] then 4 else if postE A E s (clsX key E day code A) ≠ 0 then postE A E s (clsX key E day code A) else if day < s then 9 else 0
theorem clsL_succ {E : List En} {day : Int} {A : List (ByteArray × Int)} {k : Nat} {a : ByteArray × Int} (h : A[k]? = some a) : clsL E day (A.take (k + 1)) = clsL E day (A.take k) ++ if clsB E day a = true then [(a.1, -(ofB a.1 0 day E))] else [] := by
 obtain ⟨hk, rfl⟩ := List.getElem?_eq_some_iff.1 h
 unfold clsL
 rw [List.take_succ_eq_append_getElem hk, List.filter_append, List.map_append, List.filter_cons]
 split <;> simp
theorem clsS_succ {E : List En} {day : Int} {A : List (ByteArray × Int)} {k : Nat} {a : ByteArray × Int} (h : A[k]? = some a) : clsS E day (A.take (k + 1)) = clsS E day (A.take k) + if clsB E day a = true then ofB a.1 0 day E else 0 := by
 obtain ⟨hk, rfl⟩ := List.getElem?_eq_some_iff.1 h
 unfold clsS
 rw [List.take_succ_eq_append_getElem hk, List.filter_append, List.map_append, List.sum_append, List.filter_cons]
 split <;> simp
theorem clsL_len (E : List En) (day : Int) (A : List (ByteArray × Int)) (k : Nat) : (clsL E day (A.take k)).length ≤ A.length := by
 unfold clsL
 rw [List.length_map]
 exact Nat.le_trans (List.length_filter_le _ _) (by rw [List.length_take]; omega)
theorem clsS_bd {E : List En} (hE : ∀ x ∈ E, enX x = 0) (hl : E.length ≤ 60) (day : Int) : ∀ (A : List (ByteArray × Int)), -(720000000000000 * (A.length : Int)) ≤ clsS E day A ∧ clsS E day A ≤ 720000000000000 * (A.length : Int)
 | [] => by simp [clsS]
 | a :: A => by
  have ih := clsS_bd hE hl day A
  have ho := ofB_bd a.1 0 day hE hl
  unfold clsS at ih ⊢
  rw [List.filter_cons, List.length_cons]
  split
  ·rw [List.map_cons, List.sum_cons]
   omega
  ·omega
end Go.Acc
namespace Go.Proofs.YtcmpjagpggjfiaaGreatDoor
open Go Go.Ev Go.RowKit Go.Acc
set_option maxHeartbeats 4000000
theorem ofC_ex {J : World → Prop} (hJ : Stable J) (A : List (ByteArray × Int)) (E : List En) (s : Int) (f t : Int) (hE : ∀ x ∈ E, enX x = 0) (hl : E.length ≤ 60) :
  ∃ F : List V → Option (V × List Ev.Blk), (∀ c : ByteArray, F [.agg [.row 2 (A.map acV), .row 3 (E.map enW), .int .i64 s], .str c, .int .i64 f, .int .i64 t] = some (.int .i64 (ofB c f t E), [])) ∧ Snd Tryz.prog J 39 F :=
 fam_ex (fun c : ByteArray => [bkV A E s, .str c, .int .i64 f, .int .i64 t]) (fun c => (.int .i64 (ofB c f t E), [])) (fun i j h => by
  simp only [List.cons.injEq, V.str.injEq, true_and, and_true] at h
  rw [h]) fun c => of_sound hJ A E s c f t hE hl
def clSt (A : List (ByteArray × Int)) (E : List En) (s : Int) (key : ByteArray) (day : Int) (code : ByteArray) (k : Nat) : List (ByteArray × Int) → St
 | [] => ⟨[(2, .int .i64 day), (3, .str code), (4, .ptr 32 0), (8, .ptr 64 0), (13, .ptr 104 0), (14, .int .i64 (clsS E day (A.take k))), (47, .row 2 (A.map acV)), (48, .int .i64 A.length), (49, .int .i64 k)],
   [(32, .box (.agg [.row 2 (A.map acV), .row 3 (E.map enW), .int .i64 s])), (64, .box (.agg [.zero, .zero, .int .i64 0])), (104, .box (.agg [.str key, .int .i64 day, .zero]))]⟩
 | p :: r => ⟨[(2, .int .i64 day), (3, .str code), (4, .ptr 32 0), (8, .ptr 64 0), (13, .ptr 104 0), (14, .int .i64 (clsS E day (A.take k))), (47, .row 2 (A.map acV)), (48, .int .i64 A.length), (49, .int .i64 k)],
   [(32, .box (.agg [.row 2 (A.map acV), .row 3 (E.map enW), .int .i64 s])), (64, .box (.agg [.zero, .zero, .int .i64 0])), (104, .box (.agg [.str key, .int .i64 day, .vec 624])), (624, .vec 85 2 ((p :: r).map acV))]⟩
def clV (A : List (ByteArray × Int)) (E : List En) (s : Int) (key : ByteArray) (day : Int) (code : ByteArray) : V := .tup [if clE A E s key day code = 0 then bkV A (postB E (clsX key E day code A)) day else zbV, .int .i64 (clE A E s key day code)]
set_option maxRecDepth 20000 in
set_option maxHeartbeats 16000000 in
theorem close_sound {J : World → Prop} (hJ : Stable J) (A : List (ByteArray × Int)) (E : List En) (s : Int) (key : ByteArray) (day : Int) (code : ByteArray) (hE : E.length ≤ maxLen) :
  SoundAt Tryz.prog J 85 [bkV A E s, .str key, .int .i64 day, .str code] (clV A E s key day code) [] := by
 have hB := bcheck_sound hJ A E s hE
 have hK := kind_sound hJ A code
 unfold bkV at hB ⊢
 by_cases hz : bkChk A E s = 0
 case neg =>
  have e1 : clE A E s key day code = bkChk A E s := if_pos hz
  have eR : clV A E s key day code = .tup [.agg [.zero, .zero, .int .i64 0], .int .i64 (bkChk A E s)] := by unfold clV; rw [e1, if_neg hz]; rfl
  rw [eR]
  generalize bkChk A E s = q at *
  refine evFn (l := [(26, at1 _ (_, []))]) (nv := nv0) (fz := fz0) (dr := dr85) (dd := dd85) (lam := []) (ms := ms0) ⟨at1_snd hB, trivial⟩ hJ trivial ms0_ok Tryz.func85 rfl rfl (Nat.le_of_ble_eq_true rfl) (Nat.le_of_ble_eq_true rfl) drOk85 ?_
  dsimp only [Tryz.f85, dr85, dd85, Option.getD_some]
  refine ev_start ?_
  simp (disch := omega) only [at1_eq, hz, go_sem, evP_D, evD_guard, evD_cons, evD_zero, evD_nil]
 by_cases hd : 0 ≤ day ∧ day ≤ 292193
 case neg =>
  have e1 : clE A E s key day code = 1 := by unfold clE; rw [if_neg (fun h => h hz), if_pos hd]
  have eR : clV A E s key day code = .tup [.agg [.zero, .zero, .int .i64 0], .int .i64 1] := by unfold clV; rw [e1]; rfl
  have hd' := decide_eq_false hd
  rw [eR]
  refine evFn (l := [(26, at1 _ (_, [])), (38, dayF)]) (nv := nv0) (fz := fz0) (dr := dr85) (dd := dd85) (lam := []) (ms := ms0) ⟨at1_snd hB, is_snd hJ, trivial⟩ hJ trivial ms0_ok Tryz.func85 rfl rfl (Nat.le_of_ble_eq_true rfl) (Nat.le_of_ble_eq_true rfl) drOk85 ?_
  dsimp only [Tryz.f85, dr85, dd85, Option.getD_some]
  refine ev_start ?_
  simp (disch := omega) only [at1_eq, dayF_eq, hz, hd', go_sem, evP_D, evD_guard, evD_cons, evD_zero, evD_nil]
 have hd' := decide_eq_true hd
 by_cases hk0 : (kindR code A).2 = 0
 case neg =>
  have e1 : clE A E s key day code = (kindR code A).2 := by unfold clE; rw [if_neg (fun h => h hz), if_neg (fun h => h hd), if_pos hk0]
  have eR : clV A E s key day code = .tup [.agg [.zero, .zero, .int .i64 0], .int .i64 (kindR code A).2] := by unfold clV; rw [e1, if_neg hk0]; rfl
  rw [eR]
  generalize kindR code A = kr at *
  refine evFn (l := [(26, at1 _ (_, [])), (38, dayF), (136, at1 _ (_, []))]) (nv := nv0) (fz := fz0) (dr := dr85) (dd := dd85) (lam := []) (ms := ms0) ⟨at1_snd hB, is_snd hJ, at1_snd hK, trivial⟩ hJ trivial ms0_ok Tryz.func85 rfl rfl (Nat.le_of_ble_eq_true rfl) (Nat.le_of_ble_eq_true rfl) drOk85 ?_
  dsimp only [Tryz.f85, dr85, dd85, Option.getD_some]
  refine ev_start ?_
  simp (disch := omega) only [at1_eq, dayF_eq, hz, hd', hk0, go_sem, evP_D, evD_guard, evD_cons, evD_zero, evD_nil]
 by_cases hk2 : (kindR code A).1 = 2
 case neg =>
  have e1 : clE A E s key day code = 3 := by unfold clE; rw [if_neg (fun h => h hz), if_neg (fun h => h hd), if_neg (fun h => h hk0), if_pos hk2]
  have eR : clV A E s key day code = .tup [.agg [.zero, .zero, .int .i64 0], .int .i64 3] := by unfold clV; rw [e1]; rfl
  rw [eR]
  generalize kindR code A = kr at *
  refine evFn (l := [(26, at1 _ (_, [])), (38, dayF), (136, at1 _ (_, []))]) (nv := nv0) (fz := fz0) (dr := dr85) (dd := dd85) (lam := []) (ms := ms0) ⟨at1_snd hB, is_snd hJ, at1_snd hK, trivial⟩ hJ trivial ms0_ok Tryz.func85 rfl rfl (Nat.le_of_ble_eq_true rfl) (Nat.le_of_ble_eq_true rfl) drOk85 ?_
  dsimp only [Tryz.f85, dr85, dd85, Option.getD_some]
  refine ev_start ?_
  simp (disch := omega) only [at1_eq, dayF_eq, hz, hd', hk0, hk2, go_sem, evP_D, evD_guard, evD_cons, evD_zero, evD_nil]
 rw [hk0, hk2] at hK
 have e0 : clE A E s key day code = if clsL E day A = [] then 4 else if postE A E s (clsX key E day code A) ≠ 0 then postE A E s (clsX key E day code A) else if day < s then 9 else 0 := by
  unfold clE
  rw [if_neg (fun h => h hz), if_neg (fun h => h hd), if_neg (fun h => h hk0), if_neg (fun h => h hk2)]
 obtain ⟨h1, _, h3, h4⟩ := bkChk_ok hz
 have hEn : ∀ x ∈ E, enX x = 0 := fun x hx => (h4 x hx).1
 have hA24 := (acChk_codes h1).1
 obtain ⟨OF, hOF, hOFs⟩ := ofC_ex hJ A E s 0 day hEn h3
 have hPo := post_sound hJ A E s (clsX key E day code A) hE
 have hS := clsS_bd hEn h3 day
 obtain ⟨X, hX⟩ : ∃ X, X = clsX key E day code A := ⟨_, rfl⟩
 rw [← hX] at hPo e0
 have hSh : postE A E s X = 0 → SoundAt Tryz.prog J 83 [bkV A (postB E X) s, .int .i64 day] (.tup [if day < s then zbV else bkV A (postB E X) day, .int .i64 (if day < s then 9 else 0)]) [] := fun h0 => by
  have hb2 := (postE_ok h0).2.2
  have h := shut_sound hJ A (postB E X) s day (by have := (bkChk_iff.1 hb2).2.2.1; simp only [maxLen]; omega)
  have e3 : shutE A (postB E X) s day = if day < s then 9 else 0 := by unfold shutE; rw [if_neg (fun h => h hb2), if_neg (fun h => h hd)]
  rw [e3] at h
  by_cases hs : day < s
  ·rw [if_pos hs] at h ⊢
   rw [if_pos hs]
   exact h
  ·rw [if_neg hs] at h ⊢
   rw [if_neg hs]
   exact h
 have hposE : ∀ q, postE A E s X = q → SoundAt Tryz.prog J 13 [.agg [.row 2 (A.map acV), .row 3 (E.map enW), .int .i64 s], .agg [.str key, .int .i64 day, .row 2 (X.2.2.map acV)]] (.tup [if q = 0 then bkV A (postB E X) s else zbV, .int .i64 q]) [] := fun q hq => by
  subst hq
  have e : enW X = .agg [.str key, .int .i64 day, .row 2 (X.2.2.map acV)] := by rw [hX]; rfl
  rw [e] at hPo
  exact hPo
 -- WAYS
 by_cases hnil : clsL E day A = []
 ·have e1 : clE A E s key day code = 4 := by rw [e0, if_pos hnil]
  have eR : clV A E s key day code = .tup [.agg [.zero, .zero, .int .i64 0], .int .i64 4] := by unfold clV; rw [e1]; rfl
  rw [eR]
  refine evFn (l := [(26, at1 _ (_, [])), (38, dayF), (136, at1 _ (_, [])), (39, OF)]) (nv := nv0) (fz := fz0) (dr := dr85) (dd := dd85) (lam := []) (ms := ms0) ⟨at1_snd hB, is_snd hJ, at1_snd hK, hOFs, trivial⟩ hJ trivial ms0_ok Tryz.func85 rfl rfl (Nat.le_of_ble_eq_true rfl) (Nat.le_of_ble_eq_true rfl) drOk85 ?_
  dsimp only [Tryz.f85, dr85, dd85, Option.getD_some]
  refine ev_start ?_
  simp (disch := omega) only [at1_eq, dayF_eq, hz, hd', List.length_map, go_sem, evP_D, evD_guard, evD_cons, evD_zero, evD_nil]
  refine evQ_loop [2, 3, 4, 8, 13, 14, 47, 48, 49] [32, 64, 104, 624] (fun σ => ∃ (k : Nat), k ≤ A.length ∧ σ = clSt A E s key day code k (clsL E day (A.take k)))
   (fun σ => A.length - (match Ev.look 49 σ.env with | some (.int _ n) => n.toNat | _ => 0)) ?_ ?_
  ·simp only [go_sem, evP_D, evD_guard, evD_cons, evD_zero, evD_nil]
   exact ⟨0, Nat.zero_le _, rfl⟩
  ·rintro σ ⟨k, hkl, rfl⟩
   by_cases hlt : k < A.length
   case neg =>
    have hk' : k = A.length := by omega
    subst hk'
    have hlt' : ¬ ((A.length : Int) < A.length) := by omega
    rw [List.take_length]
    rw [hnil]
    unfold clSt
    simp (disch := (first | omega | assumption)) only [hlt', go_sem, evP_D, evD_guard, evD_cons, evD_zero, evD_nil]
   have hlt' : (k : Int) < A.length := by omega
   obtain ⟨⟨c, kd⟩, hcn⟩ : ∃ p, A[k]? = some p := ⟨_, List.getElem?_eq_getElem hlt⟩
   have hg := acV_get hcn
   have hO := hOF c
   have hb := ofB_bd c 0 day hEn h3
   have hL1 := clsL_succ (E := E) (day := day) hcn
   have hS1 := clsS_succ (E := E) (day := day) hcn
   have hsb : -17280000000000000 ≤ clsS E day (A.take k) ∧ clsS E day (A.take k) ≤ 17280000000000000 := by
    have h1 := hS (A.take k)
    have h2 : (A.take k).length ≤ 24 := by rw [List.length_take]; omega
    omega
   have hll := clsL_len E day A k
   have hms : A.length - ((k : Int) + 1).toNat < A.length - (k : Int).toNat := by
    have e3 : ((k : Int) + 1).toNat = k + 1 := by omega
    rw [e3, Int.toNat_natCast]; exact Nat.sub_lt_sub_left hlt (Nat.lt_succ_self k)
   by_cases hn : ofB c 0 day E = 0
   ·have hcb : clsB E day (c, kd) = false := by simp [clsB, hn]
    rw [hcb] at hL1 hS1
    simp only [Bool.false_eq_true, if_false, List.append_nil, Int.add_zero] at hL1 hS1
    cases hL : clsL E day (A.take k) with
    | nil =>
     rw [hL] at hL1
     unfold clSt
     simp (disch := (first | omega | assumption)) only [hlt', idx_nat, List.length_map, hg, hO, hn, go_sem, evP_D, evD_guard, evD_cons, evD_zero, evD_nil]
     exact ⟨⟨k + 1, hlt, by rw [hL1]; simp only [clSt, hS1]; rfl⟩, hms⟩
    | cons p r =>
     rw [hL] at hL1
     unfold clSt
     simp (disch := (first | omega | assumption)) only [hlt', idx_nat, List.length_map, hg, hO, hn, go_sem, evP_D, evD_guard, evD_cons, evD_zero, evD_nil]
     exact ⟨⟨k + 1, hlt, by rw [hL1]; simp only [clSt, hS1]; rfl⟩, hms⟩
   by_cases hk34 : kd = 3 ∨ kd = 4
   ·have hcb : clsB E day (c, kd) = true := by
     unfold clsB
     rcases hk34 with rfl | rfl <;> simp [hn]
    rw [hcb] at hL1 hS1
    simp only [if_true] at hL1 hS1
    cases hL : clsL E day (A.take k) with
    | nil =>
     rw [hL] at hL1 hll
     unfold clSt
     rcases hk34 with rfl | rfl
     ·simp (disch := (first | omega | assumption)) only [hlt', idx_nat, List.length_map, hg, hO, hn, Int.zero_sub, go_sem, evP_D, evD_guard, evD_cons, evD_zero, evD_nil]
      exact ⟨⟨k + 1, hlt, by rw [hL1]; simp only [clSt, hS1]; rfl⟩, hms⟩
     ·simp (disch := (first | omega | assumption)) only [hlt', idx_nat, List.length_map, hg, hO, hn, Int.zero_sub, go_sem, evP_D, evD_guard, evD_cons, evD_zero, evD_nil]
      exact ⟨⟨k + 1, hlt, by rw [hL1]; simp only [clSt, hS1]; rfl⟩, hms⟩
    | cons p r =>
     rw [hL] at hL1 hll
     rw [List.length_cons] at hll
     unfold clSt
     rcases hk34 with rfl | rfl
     ·simp (disch := (first | omega | assumption)) only [hlt', idx_nat, List.length_map, List.length_append, List.length_cons, List.length_nil, hg, hO, hn, Int.zero_sub, go_sem, evP_D, evD_guard, evD_cons, evD_zero, evD_nil]
      exact ⟨⟨k + 1, hlt, by rw [hL1]; simp only [clSt, hS1, List.cons_append, List.map_cons, List.map_append]; rfl⟩, hms⟩
     ·simp (disch := (first | omega | assumption)) only [hlt', idx_nat, List.length_map, List.length_append, List.length_cons, List.length_nil, hg, hO, hn, Int.zero_sub, go_sem, evP_D, evD_guard, evD_cons, evD_zero, evD_nil]
      exact ⟨⟨k + 1, hlt, by rw [hL1]; simp only [clSt, hS1, List.cons_append, List.map_cons, List.map_append]; rfl⟩, hms⟩
   ·have hk3 : ¬ kd = 3 := fun h => hk34 (.inl h)
    have hk4 : ¬ kd = 4 := fun h => hk34 (.inr h)
    have hcb : clsB E day (c, kd) = false := by simp [clsB, hk3, hk4]
    rw [hcb] at hL1 hS1
    simp only [Bool.false_eq_true, if_false, List.append_nil, Int.add_zero] at hL1 hS1
    cases hL : clsL E day (A.take k) with
    | nil =>
     rw [hL] at hL1
     unfold clSt
     simp (disch := (first | omega | assumption)) only [hlt', idx_nat, List.length_map, hg, hO, hn, hk3, hk4, go_sem, evP_D, evD_guard, evD_cons, evD_zero, evD_nil]
     exact ⟨⟨k + 1, hlt, by rw [hL1]; simp only [clSt, hS1]; rfl⟩, hms⟩
    | cons p r =>
     rw [hL] at hL1
     unfold clSt
     simp (disch := (first | omega | assumption)) only [hlt', idx_nat, List.length_map, hg, hO, hn, hk3, hk4, go_sem, evP_D, evD_guard, evD_cons, evD_zero, evD_nil]
     exact ⟨⟨k + 1, hlt, by rw [hL1]; simp only [clSt, hS1]; rfl⟩, hms⟩
 rw [if_neg hnil] at e0
 by_cases hq : postE A E s X = 0
 case neg =>
  rw [if_pos hq] at e0
  have eR : clV A E s key day code = .tup [.agg [.zero, .zero, .int .i64 0], .int .i64 (postE A E s X)] := by unfold clV; rw [e0, if_neg hq]; rfl
  have hP := hposE _ rfl
  rw [if_neg hq] at hP
  unfold zbV at hP
  rw [eR]
  generalize postE A E s X = q at *
  refine evFn (l := [(26, at1 _ (_, [])), (38, dayF), (136, at1 _ (_, [])), (39, OF), (13, at1 _ (_, []))]) (nv := nv0) (fz := fzL [(102, [624])]) (dr := dr85) (dd := dd85) (lam := []) (ms := ms0) ⟨at1_snd hB, is_snd hJ, at1_snd hK, hOFs, at1_snd hP, trivial⟩ hJ trivial ms0_ok Tryz.func85 rfl rfl (Nat.le_of_ble_eq_true rfl) (Nat.le_of_ble_eq_true rfl) drOk85 ?_
  dsimp only [Tryz.f85, dr85, dd85, Option.getD_some]
  refine ev_start ?_
  simp (disch := omega) only [at1_eq, dayF_eq, hz, hd', List.length_map, go_sem, evP_D, evD_guard, evD_cons, evD_zero, evD_nil]
  refine evQ_loop [2, 3, 4, 8, 13, 14, 47, 48, 49] [32, 64, 104, 624] (fun σ => ∃ (k : Nat), k ≤ A.length ∧ σ = clSt A E s key day code k (clsL E day (A.take k)))
   (fun σ => A.length - (match Ev.look 49 σ.env with | some (.int _ n) => n.toNat | _ => 0)) ?_ ?_
  ·simp only [go_sem, evP_D, evD_guard, evD_cons, evD_zero, evD_nil]
   exact ⟨0, Nat.zero_le _, rfl⟩
  ·rintro σ ⟨k, hkl, rfl⟩
   by_cases hlt : k < A.length
   case neg =>
    have hk' : k = A.length := by omega
    subst hk'
    have hlt' : ¬ ((A.length : Int) < A.length) := by omega
    rw [List.take_length]
    obtain ⟨p, r, hpr⟩ : ∃ p r, clsL E day A = p :: r := by
     cases h : clsL E day A with
     | nil => exact absurd h hnil
     | cons p r => exact ⟨p, r, rfl⟩
    have hll : r.length ≤ 24 := by
     have := clsL_len E day A A.length
     rw [List.take_length, hpr, List.length_cons] at this
     omega
    have hXl : X.2.2 = clsL E day A ++ if clsS E day A ≠ 0 then [(code, clsS E day A)] else [] := by rw [hX]; rfl
    have hsb : -17280000000000000 ≤ clsS E day A ∧ clsS E day A ≤ 17280000000000000 := by
     have h1 := hS A
     omega
    have hrl : ¬ (((r.length + 1 : Nat) : Int) = 0) := by omega
    rw [hpr]
    unfold clSt
    rw [List.take_length]
    by_cases hs0 : clsS E day A = 0
    ·have hX2 : X.2.2.map acV = (p :: r).map acV := by rw [hXl, hpr, if_neg (fun h => h hs0), List.append_nil]
     simp (disch := (first | omega | assumption)) only [at1_eq, hlt', hX2, hs0, hrl, List.length_map, List.length_append, List.length_cons, List.length_nil, freezeL, St.freeze, List.filter_cons, List.filter_nil, bne, hq, go_sem, evP_D, evD_guard, evD_cons, evD_zero, evD_nil]
    ·have hX2 : X.2.2.map acV = acV p :: (r.map acV ++ [.agg [.str code, .int .i64 (clsS E day A)]]) := by rw [hXl, hpr, if_pos hs0, List.map_append]; rfl
     simp (disch := (first | omega | assumption)) only [at1_eq, hlt', hX2, hs0, hrl, List.length_map, List.length_append, List.length_cons, List.length_nil, freezeL, St.freeze, List.filter_cons, List.filter_nil, bne, hq, go_sem, evP_D, evD_guard, evD_cons, evD_zero, evD_nil]
   have hlt' : (k : Int) < A.length := by omega
   obtain ⟨⟨c, kd⟩, hcn⟩ : ∃ p, A[k]? = some p := ⟨_, List.getElem?_eq_getElem hlt⟩
   have hg := acV_get hcn
   have hO := hOF c
   have hb := ofB_bd c 0 day hEn h3
   have hL1 := clsL_succ (E := E) (day := day) hcn
   have hS1 := clsS_succ (E := E) (day := day) hcn
   have hsb : -17280000000000000 ≤ clsS E day (A.take k) ∧ clsS E day (A.take k) ≤ 17280000000000000 := by
    have h1 := hS (A.take k)
    have h2 : (A.take k).length ≤ 24 := by rw [List.length_take]; omega
    omega
   have hll := clsL_len E day A k
   have hms : A.length - ((k : Int) + 1).toNat < A.length - (k : Int).toNat := by
    have e3 : ((k : Int) + 1).toNat = k + 1 := by omega
    rw [e3, Int.toNat_natCast]; exact Nat.sub_lt_sub_left hlt (Nat.lt_succ_self k)
   by_cases hn : ofB c 0 day E = 0
   ·have hcb : clsB E day (c, kd) = false := by simp [clsB, hn]
    rw [hcb] at hL1 hS1
    simp only [Bool.false_eq_true, if_false, List.append_nil, Int.add_zero] at hL1 hS1
    cases hL : clsL E day (A.take k) with
    | nil =>
     rw [hL] at hL1
     unfold clSt
     simp (disch := (first | omega | assumption)) only [hlt', idx_nat, List.length_map, hg, hO, hn, go_sem, evP_D, evD_guard, evD_cons, evD_zero, evD_nil]
     exact ⟨⟨k + 1, hlt, by rw [hL1]; simp only [clSt, hS1]; rfl⟩, hms⟩
    | cons p r =>
     rw [hL] at hL1
     unfold clSt
     simp (disch := (first | omega | assumption)) only [hlt', idx_nat, List.length_map, hg, hO, hn, go_sem, evP_D, evD_guard, evD_cons, evD_zero, evD_nil]
     exact ⟨⟨k + 1, hlt, by rw [hL1]; simp only [clSt, hS1]; rfl⟩, hms⟩
   by_cases hk34 : kd = 3 ∨ kd = 4
   ·have hcb : clsB E day (c, kd) = true := by
     unfold clsB
     rcases hk34 with rfl | rfl <;> simp [hn]
    rw [hcb] at hL1 hS1
    simp only [if_true] at hL1 hS1
    cases hL : clsL E day (A.take k) with
    | nil =>
     rw [hL] at hL1 hll
     unfold clSt
     rcases hk34 with rfl | rfl
     ·simp (disch := (first | omega | assumption)) only [hlt', idx_nat, List.length_map, hg, hO, hn, Int.zero_sub, go_sem, evP_D, evD_guard, evD_cons, evD_zero, evD_nil]
      exact ⟨⟨k + 1, hlt, by rw [hL1]; simp only [clSt, hS1]; rfl⟩, hms⟩
     ·simp (disch := (first | omega | assumption)) only [hlt', idx_nat, List.length_map, hg, hO, hn, Int.zero_sub, go_sem, evP_D, evD_guard, evD_cons, evD_zero, evD_nil]
      exact ⟨⟨k + 1, hlt, by rw [hL1]; simp only [clSt, hS1]; rfl⟩, hms⟩
    | cons p r =>
     rw [hL] at hL1 hll
     rw [List.length_cons] at hll
     unfold clSt
     rcases hk34 with rfl | rfl
     ·simp (disch := (first | omega | assumption)) only [hlt', idx_nat, List.length_map, List.length_append, List.length_cons, List.length_nil, hg, hO, hn, Int.zero_sub, go_sem, evP_D, evD_guard, evD_cons, evD_zero, evD_nil]
      exact ⟨⟨k + 1, hlt, by rw [hL1]; simp only [clSt, hS1, List.cons_append, List.map_cons, List.map_append]; rfl⟩, hms⟩
     ·simp (disch := (first | omega | assumption)) only [hlt', idx_nat, List.length_map, List.length_append, List.length_cons, List.length_nil, hg, hO, hn, Int.zero_sub, go_sem, evP_D, evD_guard, evD_cons, evD_zero, evD_nil]
      exact ⟨⟨k + 1, hlt, by rw [hL1]; simp only [clSt, hS1, List.cons_append, List.map_cons, List.map_append]; rfl⟩, hms⟩
   ·have hk3 : ¬ kd = 3 := fun h => hk34 (.inl h)
    have hk4 : ¬ kd = 4 := fun h => hk34 (.inr h)
    have hcb : clsB E day (c, kd) = false := by simp [clsB, hk3, hk4]
    rw [hcb] at hL1 hS1
    simp only [Bool.false_eq_true, if_false, List.append_nil, Int.add_zero] at hL1 hS1
    cases hL : clsL E day (A.take k) with
    | nil =>
     rw [hL] at hL1
     unfold clSt
     simp (disch := (first | omega | assumption)) only [hlt', idx_nat, List.length_map, hg, hO, hn, hk3, hk4, go_sem, evP_D, evD_guard, evD_cons, evD_zero, evD_nil]
     exact ⟨⟨k + 1, hlt, by rw [hL1]; simp only [clSt, hS1]; rfl⟩, hms⟩
    | cons p r =>
     rw [hL] at hL1
     unfold clSt
     simp (disch := (first | omega | assumption)) only [hlt', idx_nat, List.length_map, hg, hO, hn, hk3, hk4, go_sem, evP_D, evD_guard, evD_cons, evD_zero, evD_nil]
     exact ⟨⟨k + 1, hlt, by rw [hL1]; simp only [clSt, hS1]; rfl⟩, hms⟩
 rw [if_neg (fun h => h hq)] at e0
 have hP := hposE 0 hq
 rw [if_pos rfl] at hP
 have hSh := hSh hq
 by_cases hds : day < s
 ·rw [if_pos hds] at e0
  have eR : clV A E s key day code = .tup [.agg [.zero, .zero, .int .i64 0], .int .i64 9] := by unfold clV; rw [e0]; rfl
  rw [if_pos hds, if_pos hds] at hSh
  unfold zbV at hSh
  unfold bkV at hSh hP
  rw [eR]
  refine evFn (l := [(26, at1 _ (_, [])), (38, dayF), (136, at1 _ (_, [])), (39, OF), (13, at1 _ (_, [])), (83, at1 _ (_, []))]) (nv := nv0) (fz := fzL [(102, [624])]) (dr := dr85) (dd := dd85) (lam := []) (ms := ms0) ⟨at1_snd hB, is_snd hJ, at1_snd hK, hOFs, at1_snd hP, at1_snd hSh, trivial⟩ hJ trivial ms0_ok Tryz.func85 rfl rfl (Nat.le_of_ble_eq_true rfl) (Nat.le_of_ble_eq_true rfl) drOk85 ?_
  dsimp only [Tryz.f85, dr85, dd85, Option.getD_some]
  refine ev_start ?_
  simp (disch := omega) only [at1_eq, dayF_eq, hz, hd', List.length_map, go_sem, evP_D, evD_guard, evD_cons, evD_zero, evD_nil]
  refine evQ_loop [2, 3, 4, 8, 13, 14, 47, 48, 49] [32, 64, 104, 624] (fun σ => ∃ (k : Nat), k ≤ A.length ∧ σ = clSt A E s key day code k (clsL E day (A.take k)))
   (fun σ => A.length - (match Ev.look 49 σ.env with | some (.int _ n) => n.toNat | _ => 0)) ?_ ?_
  ·simp only [go_sem, evP_D, evD_guard, evD_cons, evD_zero, evD_nil]
   exact ⟨0, Nat.zero_le _, rfl⟩
  ·rintro σ ⟨k, hkl, rfl⟩
   by_cases hlt : k < A.length
   case neg =>
    have hk' : k = A.length := by omega
    subst hk'
    have hlt' : ¬ ((A.length : Int) < A.length) := by omega
    rw [List.take_length]
    obtain ⟨p, r, hpr⟩ : ∃ p r, clsL E day A = p :: r := by
     cases h : clsL E day A with
     | nil => exact absurd h hnil
     | cons p r => exact ⟨p, r, rfl⟩
    have hll : r.length ≤ 24 := by
     have := clsL_len E day A A.length
     rw [List.take_length, hpr, List.length_cons] at this
     omega
    have hXl : X.2.2 = clsL E day A ++ if clsS E day A ≠ 0 then [(code, clsS E day A)] else [] := by rw [hX]; rfl
    have hsb : -17280000000000000 ≤ clsS E day A ∧ clsS E day A ≤ 17280000000000000 := by
     have h1 := hS A
     omega
    have hrl : ¬ (((r.length + 1 : Nat) : Int) = 0) := by omega
    rw [hpr]
    unfold clSt
    rw [List.take_length]
    by_cases hs0 : clsS E day A = 0
    ·have hX2 : X.2.2.map acV = (p :: r).map acV := by rw [hXl, hpr, if_neg (fun h => h hs0), List.append_nil]
     simp (disch := (first | omega | assumption)) only [at1_eq, hlt', hX2, hs0, hrl, List.length_map, List.length_append, List.length_cons, List.length_nil, freezeL, St.freeze, List.filter_cons, List.filter_nil, bne, hz, go_sem, evP_D, evD_guard, evD_cons, evD_zero, evD_nil]
    ·have hX2 : X.2.2.map acV = acV p :: (r.map acV ++ [.agg [.str code, .int .i64 (clsS E day A)]]) := by rw [hXl, hpr, if_pos hs0, List.map_append]; rfl
     simp (disch := (first | omega | assumption)) only [at1_eq, hlt', hX2, hs0, hrl, List.length_map, List.length_append, List.length_cons, List.length_nil, freezeL, St.freeze, List.filter_cons, List.filter_nil, bne, hz, go_sem, evP_D, evD_guard, evD_cons, evD_zero, evD_nil]
   have hlt' : (k : Int) < A.length := by omega
   obtain ⟨⟨c, kd⟩, hcn⟩ : ∃ p, A[k]? = some p := ⟨_, List.getElem?_eq_getElem hlt⟩
   have hg := acV_get hcn
   have hO := hOF c
   have hb := ofB_bd c 0 day hEn h3
   have hL1 := clsL_succ (E := E) (day := day) hcn
   have hS1 := clsS_succ (E := E) (day := day) hcn
   have hsb : -17280000000000000 ≤ clsS E day (A.take k) ∧ clsS E day (A.take k) ≤ 17280000000000000 := by
    have h1 := hS (A.take k)
    have h2 : (A.take k).length ≤ 24 := by rw [List.length_take]; omega
    omega
   have hll := clsL_len E day A k
   have hms : A.length - ((k : Int) + 1).toNat < A.length - (k : Int).toNat := by
    have e3 : ((k : Int) + 1).toNat = k + 1 := by omega
    rw [e3, Int.toNat_natCast]; exact Nat.sub_lt_sub_left hlt (Nat.lt_succ_self k)
   by_cases hn : ofB c 0 day E = 0
   ·have hcb : clsB E day (c, kd) = false := by simp [clsB, hn]
    rw [hcb] at hL1 hS1
    simp only [Bool.false_eq_true, if_false, List.append_nil, Int.add_zero] at hL1 hS1
    cases hL : clsL E day (A.take k) with
    | nil =>
     rw [hL] at hL1
     unfold clSt
     simp (disch := (first | omega | assumption)) only [hlt', idx_nat, List.length_map, hg, hO, hn, go_sem, evP_D, evD_guard, evD_cons, evD_zero, evD_nil]
     exact ⟨⟨k + 1, hlt, by rw [hL1]; simp only [clSt, hS1]; rfl⟩, hms⟩
    | cons p r =>
     rw [hL] at hL1
     unfold clSt
     simp (disch := (first | omega | assumption)) only [hlt', idx_nat, List.length_map, hg, hO, hn, go_sem, evP_D, evD_guard, evD_cons, evD_zero, evD_nil]
     exact ⟨⟨k + 1, hlt, by rw [hL1]; simp only [clSt, hS1]; rfl⟩, hms⟩
   by_cases hk34 : kd = 3 ∨ kd = 4
   ·have hcb : clsB E day (c, kd) = true := by
     unfold clsB
     rcases hk34 with rfl | rfl <;> simp [hn]
    rw [hcb] at hL1 hS1
    simp only [if_true] at hL1 hS1
    cases hL : clsL E day (A.take k) with
    | nil =>
     rw [hL] at hL1 hll
     unfold clSt
     rcases hk34 with rfl | rfl
     ·simp (disch := (first | omega | assumption)) only [hlt', idx_nat, List.length_map, hg, hO, hn, Int.zero_sub, go_sem, evP_D, evD_guard, evD_cons, evD_zero, evD_nil]
      exact ⟨⟨k + 1, hlt, by rw [hL1]; simp only [clSt, hS1]; rfl⟩, hms⟩
     ·simp (disch := (first | omega | assumption)) only [hlt', idx_nat, List.length_map, hg, hO, hn, Int.zero_sub, go_sem, evP_D, evD_guard, evD_cons, evD_zero, evD_nil]
      exact ⟨⟨k + 1, hlt, by rw [hL1]; simp only [clSt, hS1]; rfl⟩, hms⟩
    | cons p r =>
     rw [hL] at hL1 hll
     rw [List.length_cons] at hll
     unfold clSt
     rcases hk34 with rfl | rfl
     ·simp (disch := (first | omega | assumption)) only [hlt', idx_nat, List.length_map, List.length_append, List.length_cons, List.length_nil, hg, hO, hn, Int.zero_sub, go_sem, evP_D, evD_guard, evD_cons, evD_zero, evD_nil]
      exact ⟨⟨k + 1, hlt, by rw [hL1]; simp only [clSt, hS1, List.cons_append, List.map_cons, List.map_append]; rfl⟩, hms⟩
     ·simp (disch := (first | omega | assumption)) only [hlt', idx_nat, List.length_map, List.length_append, List.length_cons, List.length_nil, hg, hO, hn, Int.zero_sub, go_sem, evP_D, evD_guard, evD_cons, evD_zero, evD_nil]
      exact ⟨⟨k + 1, hlt, by rw [hL1]; simp only [clSt, hS1, List.cons_append, List.map_cons, List.map_append]; rfl⟩, hms⟩
   ·have hk3 : ¬ kd = 3 := fun h => hk34 (.inl h)
    have hk4 : ¬ kd = 4 := fun h => hk34 (.inr h)
    have hcb : clsB E day (c, kd) = false := by simp [clsB, hk3, hk4]
    rw [hcb] at hL1 hS1
    simp only [Bool.false_eq_true, if_false, List.append_nil, Int.add_zero] at hL1 hS1
    cases hL : clsL E day (A.take k) with
    | nil =>
     rw [hL] at hL1
     unfold clSt
     simp (disch := (first | omega | assumption)) only [hlt', idx_nat, List.length_map, hg, hO, hn, hk3, hk4, go_sem, evP_D, evD_guard, evD_cons, evD_zero, evD_nil]
     exact ⟨⟨k + 1, hlt, by rw [hL1]; simp only [clSt, hS1]; rfl⟩, hms⟩
    | cons p r =>
     rw [hL] at hL1
     unfold clSt
     simp (disch := (first | omega | assumption)) only [hlt', idx_nat, List.length_map, hg, hO, hn, hk3, hk4, go_sem, evP_D, evD_guard, evD_cons, evD_zero, evD_nil]
     exact ⟨⟨k + 1, hlt, by rw [hL1]; simp only [clSt, hS1]; rfl⟩, hms⟩
 ·rw [if_neg hds] at e0
  have eR : clV A E s key day code = .tup [.agg [.row 2 (A.map acV), .row 3 ((postB E X).map enW), .int .i64 day], .int .i64 0] := by unfold clV; rw [e0, if_pos rfl, ← hX]; rfl
  rw [if_neg hds, if_neg hds] at hSh
  unfold bkV at hSh hP
  rw [eR]
  refine evFn (l := [(26, at1 _ (_, [])), (38, dayF), (136, at1 _ (_, [])), (39, OF), (13, at1 _ (_, [])), (83, at1 _ (_, []))]) (nv := nv0) (fz := fzL [(102, [624])]) (dr := dr85) (dd := dd85) (lam := []) (ms := ms0) ⟨at1_snd hB, is_snd hJ, at1_snd hK, hOFs, at1_snd hP, at1_snd hSh, trivial⟩ hJ trivial ms0_ok Tryz.func85 rfl rfl (Nat.le_of_ble_eq_true rfl) (Nat.le_of_ble_eq_true rfl) drOk85 ?_
  dsimp only [Tryz.f85, dr85, dd85, Option.getD_some]
  refine ev_start ?_
  simp (disch := omega) only [at1_eq, dayF_eq, hz, hd', List.length_map, go_sem, evP_D, evD_guard, evD_cons, evD_zero, evD_nil]
  refine evQ_loop [2, 3, 4, 8, 13, 14, 47, 48, 49] [32, 64, 104, 624] (fun σ => ∃ (k : Nat), k ≤ A.length ∧ σ = clSt A E s key day code k (clsL E day (A.take k)))
   (fun σ => A.length - (match Ev.look 49 σ.env with | some (.int _ n) => n.toNat | _ => 0)) ?_ ?_
  ·simp only [go_sem, evP_D, evD_guard, evD_cons, evD_zero, evD_nil]
   exact ⟨0, Nat.zero_le _, rfl⟩
  ·rintro σ ⟨k, hkl, rfl⟩
   by_cases hlt : k < A.length
   case neg =>
    have hk' : k = A.length := by omega
    subst hk'
    have hlt' : ¬ ((A.length : Int) < A.length) := by omega
    rw [List.take_length]
    obtain ⟨p, r, hpr⟩ : ∃ p r, clsL E day A = p :: r := by
     cases h : clsL E day A with
     | nil => exact absurd h hnil
     | cons p r => exact ⟨p, r, rfl⟩
    have hll : r.length ≤ 24 := by
     have := clsL_len E day A A.length
     rw [List.take_length, hpr, List.length_cons] at this
     omega
    have hXl : X.2.2 = clsL E day A ++ if clsS E day A ≠ 0 then [(code, clsS E day A)] else [] := by rw [hX]; rfl
    have hsb : -17280000000000000 ≤ clsS E day A ∧ clsS E day A ≤ 17280000000000000 := by
     have h1 := hS A
     omega
    have hrl : ¬ (((r.length + 1 : Nat) : Int) = 0) := by omega
    rw [hpr]
    unfold clSt
    rw [List.take_length]
    by_cases hs0 : clsS E day A = 0
    ·have hX2 : X.2.2.map acV = (p :: r).map acV := by rw [hXl, hpr, if_neg (fun h => h hs0), List.append_nil]
     simp (disch := (first | omega | assumption)) only [at1_eq, hlt', hX2, hs0, hrl, List.length_map, List.length_append, List.length_cons, List.length_nil, freezeL, St.freeze, List.filter_cons, List.filter_nil, bne, hz, go_sem, evP_D, evD_guard, evD_cons, evD_zero, evD_nil]
    ·have hX2 : X.2.2.map acV = acV p :: (r.map acV ++ [.agg [.str code, .int .i64 (clsS E day A)]]) := by rw [hXl, hpr, if_pos hs0, List.map_append]; rfl
     simp (disch := (first | omega | assumption)) only [at1_eq, hlt', hX2, hs0, hrl, List.length_map, List.length_append, List.length_cons, List.length_nil, freezeL, St.freeze, List.filter_cons, List.filter_nil, bne, hz, go_sem, evP_D, evD_guard, evD_cons, evD_zero, evD_nil]
   have hlt' : (k : Int) < A.length := by omega
   obtain ⟨⟨c, kd⟩, hcn⟩ : ∃ p, A[k]? = some p := ⟨_, List.getElem?_eq_getElem hlt⟩
   have hg := acV_get hcn
   have hO := hOF c
   have hb := ofB_bd c 0 day hEn h3
   have hL1 := clsL_succ (E := E) (day := day) hcn
   have hS1 := clsS_succ (E := E) (day := day) hcn
   have hsb : -17280000000000000 ≤ clsS E day (A.take k) ∧ clsS E day (A.take k) ≤ 17280000000000000 := by
    have h1 := hS (A.take k)
    have h2 : (A.take k).length ≤ 24 := by rw [List.length_take]; omega
    omega
   have hll := clsL_len E day A k
   have hms : A.length - ((k : Int) + 1).toNat < A.length - (k : Int).toNat := by
    have e3 : ((k : Int) + 1).toNat = k + 1 := by omega
    rw [e3, Int.toNat_natCast]; exact Nat.sub_lt_sub_left hlt (Nat.lt_succ_self k)
   by_cases hn : ofB c 0 day E = 0
   ·have hcb : clsB E day (c, kd) = false := by simp [clsB, hn]
    rw [hcb] at hL1 hS1
    simp only [Bool.false_eq_true, if_false, List.append_nil, Int.add_zero] at hL1 hS1
    cases hL : clsL E day (A.take k) with
    | nil =>
     rw [hL] at hL1
     unfold clSt
     simp (disch := (first | omega | assumption)) only [hlt', idx_nat, List.length_map, hg, hO, hn, go_sem, evP_D, evD_guard, evD_cons, evD_zero, evD_nil]
     exact ⟨⟨k + 1, hlt, by rw [hL1]; simp only [clSt, hS1]; rfl⟩, hms⟩
    | cons p r =>
     rw [hL] at hL1
     unfold clSt
     simp (disch := (first | omega | assumption)) only [hlt', idx_nat, List.length_map, hg, hO, hn, go_sem, evP_D, evD_guard, evD_cons, evD_zero, evD_nil]
     exact ⟨⟨k + 1, hlt, by rw [hL1]; simp only [clSt, hS1]; rfl⟩, hms⟩
   by_cases hk34 : kd = 3 ∨ kd = 4
   ·have hcb : clsB E day (c, kd) = true := by
     unfold clsB
     rcases hk34 with rfl | rfl <;> simp [hn]
    rw [hcb] at hL1 hS1
    simp only [if_true] at hL1 hS1
    cases hL : clsL E day (A.take k) with
    | nil =>
     rw [hL] at hL1 hll
     unfold clSt
     rcases hk34 with rfl | rfl
     ·simp (disch := (first | omega | assumption)) only [hlt', idx_nat, List.length_map, hg, hO, hn, Int.zero_sub, go_sem, evP_D, evD_guard, evD_cons, evD_zero, evD_nil]
      exact ⟨⟨k + 1, hlt, by rw [hL1]; simp only [clSt, hS1]; rfl⟩, hms⟩
     ·simp (disch := (first | omega | assumption)) only [hlt', idx_nat, List.length_map, hg, hO, hn, Int.zero_sub, go_sem, evP_D, evD_guard, evD_cons, evD_zero, evD_nil]
      exact ⟨⟨k + 1, hlt, by rw [hL1]; simp only [clSt, hS1]; rfl⟩, hms⟩
    | cons p r =>
     rw [hL] at hL1 hll
     rw [List.length_cons] at hll
     unfold clSt
     rcases hk34 with rfl | rfl
     ·simp (disch := (first | omega | assumption)) only [hlt', idx_nat, List.length_map, List.length_append, List.length_cons, List.length_nil, hg, hO, hn, Int.zero_sub, go_sem, evP_D, evD_guard, evD_cons, evD_zero, evD_nil]
      exact ⟨⟨k + 1, hlt, by rw [hL1]; simp only [clSt, hS1, List.cons_append, List.map_cons, List.map_append]; rfl⟩, hms⟩
     ·simp (disch := (first | omega | assumption)) only [hlt', idx_nat, List.length_map, List.length_append, List.length_cons, List.length_nil, hg, hO, hn, Int.zero_sub, go_sem, evP_D, evD_guard, evD_cons, evD_zero, evD_nil]
      exact ⟨⟨k + 1, hlt, by rw [hL1]; simp only [clSt, hS1, List.cons_append, List.map_cons, List.map_append]; rfl⟩, hms⟩
   ·have hk3 : ¬ kd = 3 := fun h => hk34 (.inl h)
    have hk4 : ¬ kd = 4 := fun h => hk34 (.inr h)
    have hcb : clsB E day (c, kd) = false := by simp [clsB, hk3, hk4]
    rw [hcb] at hL1 hS1
    simp only [Bool.false_eq_true, if_false, List.append_nil, Int.add_zero] at hL1 hS1
    cases hL : clsL E day (A.take k) with
    | nil =>
     rw [hL] at hL1
     unfold clSt
     simp (disch := (first | omega | assumption)) only [hlt', idx_nat, List.length_map, hg, hO, hn, hk3, hk4, go_sem, evP_D, evD_guard, evD_cons, evD_zero, evD_nil]
     exact ⟨⟨k + 1, hlt, by rw [hL1]; simp only [clSt, hS1]; rfl⟩, hms⟩
    | cons p r =>
     rw [hL] at hL1
     unfold clSt
     simp (disch := (first | omega | assumption)) only [hlt', idx_nat, List.length_map, hg, hO, hn, hk3, hk4, go_sem, evP_D, evD_guard, evD_cons, evD_zero, evD_nil]
     exact ⟨⟨k + 1, hlt, by rw [hL1]; simp only [clSt, hS1]; rfl⟩, hms⟩
 -- END OF WAYS
end Go.Proofs.YtcmpjagpggjfiaaGreatDoor
