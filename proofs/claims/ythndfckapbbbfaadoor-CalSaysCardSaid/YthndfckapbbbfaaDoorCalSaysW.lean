/-
  The walk of CalSays: it returns true. Condition: the table of the months' lengths reads as laid ('Tab').
-/
import Derived.Test.YthndfckapbbbfaaDoorCalB
import Derived.Test.YthndfckapbbbfaaDoorCalT
import Derived.IntWalk
namespace Go.Proofs.YthndfckapbbbfaaDoor
open Go.RowKit
set_option linter.unusedVariables false
theorem wd0 (n : Int) (h0 : 0 ≤ n) : (n + 6) % 7 = (n % 7 + 6) % 7 := by omega
set_option maxHeartbeats 1600000 in
theorem cs_ok_day (y m d n : Int) (w : World) (ht : Tab w) (hv : Cal.vld y m d) (h0 : 0 ≤ n) (h1 : n ≤ 292193) :
    Calls Tryd.prog 4 #[.agg #[.int .i64 y, .int .i64 m, .int .i64 d], .int .i64 n] w fun e w' => e = .returned (.bool true) ∧ Below w.heap.size w w' := by
  have e1 := inB_t h0 h1
  have W0 := wd0 n h0
  have nb := Cal.num_bd y m d hv
  have V := Lib.hid hv
  have T := Lib.hid (ht.alloc (.cells #[.int .i64 y, .int .i64 m, .int .i64 d] 31))
  clear ht hv
  have wd := fun w => weekday_ok n w h0 h1
  rw [W0] at wd
  have WD := Lib.hid wd
  clear wd W0
  go_enter Tryd.func4, Tryd.ntmps4
  go_wp2_with (first
    | (go_at_call 10; refine (cof_ok _ _ _ _ T.out V.out).mono ?_; rintro e v1 ⟨rfl, hw1⟩; have k0 : v1.cell? ⟨w.heap.size, 0, none⟩ = some (.int .i64 y) := (hw1.cell (p := ⟨w.heap.size, 0, none⟩) (by simp)).trans (by simp); have k1 : v1.cell? ⟨w.heap.size, 1, none⟩ = some (.int .i64 m) := (hw1.cell (p := ⟨w.heap.size, 1, none⟩) (by simp)).trans (by simp); have k2 : v1.cell? ⟨w.heap.size, 2, none⟩ = some (.int .i64 d) := (hw1.cell (p := ⟨w.heap.size, 2, none⟩) (by simp)).trans (by simp); have z1 := hw1.size; simp only [World.size_alloc] at z1)
    | (go_at_call 11; refine (date_ok _ _ (T.out.below hw1) h0 h1).mono ?_; rintro e v2 ⟨rfl, hw2⟩; have z2 := hw2.size; have hz2 : w.heap.size < v2.heap.size := (by omega); have j0 : v2.cell? ⟨w.heap.size, 0, none⟩ = some (.int .i64 y) := (hw2.cell (p := ⟨w.heap.size, 0, none⟩) (by show w.heap.size < _; omega)).trans k0; have j1 : v2.cell? ⟨w.heap.size, 1, none⟩ = some (.int .i64 m) := (hw2.cell (p := ⟨w.heap.size, 1, none⟩) (by show w.heap.size < _; omega)).trans k1; have j2 : v2.cell? ⟨w.heap.size, 2, none⟩ = some (.int .i64 d) := (hw2.cell (p := ⟨w.heap.size, 2, none⟩) (by show w.heap.size < _; omega)).trans k2)
    | (go_at_call_of 12 (Value.int IntKind.i64 n); refine (WD.out _).mono ?_; rintro e w' ⟨rfl, rfl⟩)
    | (go_at_call_of 12 (Value.int IntKind.i64 0); refine (weekday_ok 0 _ (by omega) (by omega)).mono ?_; rintro e w' ⟨rfl, rfl⟩)
    | (go_at_call 13; refine (rof_ok _ _ _ _ V.out).mono ?_; rintro e v3 ⟨rfl, hw3⟩; have hB : Below w.heap.size w v3 := below_via (Below.alloc (below_via (below_via ((Below.refl _ _).alloc (Nat.le_refl _) _) (by simp) hw1) (by omega) hw2) (by omega) _) (by simp; omega) hw3; have q0 : v3.cell? ⟨v2.heap.size, 0, none⟩ = some (.int .i64 (Cal.dY n)) := (hw3.cell (p := ⟨v2.heap.size, 0, none⟩) (by simp)).trans (by simp); have q1 : v3.cell? ⟨v2.heap.size, 1, none⟩ = some (.int .i64 (Cal.dM n)) := (hw3.cell (p := ⟨v2.heap.size, 1, none⟩) (by simp)).trans (by simp); have q2 : v3.cell? ⟨v2.heap.size, 2, none⟩ = some (.int .i64 (Cal.dD n)) := (hw3.cell (p := ⟨v2.heap.size, 2, none⟩) (by simp)).trans (by simp))
    | (go_at_call 8; refine (rday_any _ _).mono ?_; rintro e w' ⟨rfl, rfl⟩))
  have z3 := hw3.size
  simp only [World.size_alloc] at z3
  have hz3 : v2.heap.size < v3.heap.size := by omega
  clear hw1 hw2 hw3 k0 k1 k2 j0 j1 j2
  go_region_held3 (fun w' => w'.cell? ⟨v2.heap.size, 0, none⟩ = some (.int .i64 (Cal.dY n)) ∧ w'.cell? ⟨v2.heap.size, 1, none⟩ = some (.int .i64 (Cal.dM n)) ∧ w'.cell? ⟨v2.heap.size, 2, none⟩ = some (.int .i64 (Cal.dD n)))
    (first
      | (go_keep; done)
      | (go_split_ands; refine ⟨?_, ?_, ?_⟩ <;> first
        | (go_keep; done)
        | (rw [hc4 _ _ ?_]; (focus (go_keep; done)); (focus go_size))))
    (first
      | (go_at_call 14; with_reducible refine (rdate_any _ _ h0 h1).mono ?_; rintro e v4 ⟨rfl, hw4⟩; obtain ⟨hc4, hf4⟩ := bcell hw4))
  go_wp2
  go_ret
  refine ⟨ret_bool ?_, below_via (Below.drew hB) (by simp; omega) hw4⟩
  rw [show n.tmod 7 = n % 7 from Int.tmod_eq_emod_of_nonneg h0, show IntKind.i64.wrap (n % 7 + 6) = n % 7 + 6 from IntWalk.i64_in _ (by omega), Int.tmod_eq_emod_of_nonneg (by omega)]
  simp
set_option maxHeartbeats 1600000 in
theorem cs_ok_no (y m d n : Int) (w : World) (ht : Tab w) (hv : Cal.vld y m d) (hn : n < 0 ∨ 292193 < n) :
    Calls Tryd.prog 4 #[.agg #[.int .i64 y, .int .i64 m, .int .i64 d], .int .i64 n] w fun e w' => e = .returned (.bool true) ∧ Below w.heap.size w w' := by
  have e1 := inB_f hn
  have HN := Lib.hid hn
  have nb := Cal.num_bd y m d hv
  have V := Lib.hid hv
  have T := Lib.hid (ht.alloc (.cells #[.int .i64 y, .int .i64 m, .int .i64 d] 31))
  clear ht hv
  have WD := Lib.hid (fun w => weekday_bad n w hn)
  clear hn
  go_enter Tryd.func4, Tryd.ntmps4
  go_wp2_with (first
    | (go_at_call 10; refine (cof_ok _ _ _ _ T.out V.out).mono ?_; rintro e v1 ⟨rfl, hw1⟩; have k0 : v1.cell? ⟨w.heap.size, 0, none⟩ = some (.int .i64 y) := (hw1.cell (p := ⟨w.heap.size, 0, none⟩) (by simp)).trans (by simp); have k1 : v1.cell? ⟨w.heap.size, 1, none⟩ = some (.int .i64 m) := (hw1.cell (p := ⟨w.heap.size, 1, none⟩) (by simp)).trans (by simp); have k2 : v1.cell? ⟨w.heap.size, 2, none⟩ = some (.int .i64 d) := (hw1.cell (p := ⟨w.heap.size, 2, none⟩) (by simp)).trans (by simp); have z1 := hw1.size; simp only [World.size_alloc] at z1)
    | (go_at_call 11; refine (date_bad _ _ HN.out).mono ?_; rintro e v2 ⟨rfl, hw2⟩; have z2 := hw2.size; have hz2 : w.heap.size < v2.heap.size := (by omega); have j0 : v2.cell? ⟨w.heap.size, 0, none⟩ = some (.int .i64 y) := (hw2.cell (p := ⟨w.heap.size, 0, none⟩) (by show w.heap.size < _; omega)).trans k0; have j1 : v2.cell? ⟨w.heap.size, 1, none⟩ = some (.int .i64 m) := (hw2.cell (p := ⟨w.heap.size, 1, none⟩) (by show w.heap.size < _; omega)).trans k1; have j2 : v2.cell? ⟨w.heap.size, 2, none⟩ = some (.int .i64 d) := (hw2.cell (p := ⟨w.heap.size, 2, none⟩) (by show w.heap.size < _; omega)).trans k2)
    | (go_at_call_of 12 (Value.int IntKind.i64 n); refine (WD.out _).mono ?_; rintro e w' ⟨rfl, rfl⟩)
    | (go_at_call_of 12 (Value.int IntKind.i64 0); refine (weekday_ok 0 _ (by omega) (by omega)).mono ?_; rintro e w' ⟨rfl, rfl⟩)
    | (go_at_call 13; refine (rof_ok _ _ _ _ V.out).mono ?_; rintro e v3 ⟨rfl, hw3⟩; have hB : Below w.heap.size w v3 := below_via (Below.alloc (below_via (below_via ((Below.refl _ _).alloc (Nat.le_refl _) _) (by simp) hw1) (by omega) hw2) (by omega) _) (by simp; omega) hw3; have q0 : v3.cell? ⟨v2.heap.size, 0, none⟩ = some (.int .i64 0) := (hw3.cell (p := ⟨v2.heap.size, 0, none⟩) (by simp)).trans (by simp); have q1 : v3.cell? ⟨v2.heap.size, 1, none⟩ = some (.int .i64 0) := (hw3.cell (p := ⟨v2.heap.size, 1, none⟩) (by simp)).trans (by simp); have q2 : v3.cell? ⟨v2.heap.size, 2, none⟩ = some (.int .i64 0) := (hw3.cell (p := ⟨v2.heap.size, 2, none⟩) (by simp)).trans (by simp))
    | (go_at_call 8; refine (rday_any _ _).mono ?_; rintro e w' ⟨rfl, rfl⟩))
  go_ret
  exact ⟨rfl, hB⟩
set_option maxHeartbeats 1600000 in
theorem cs_bad_day (y m d n : Int) (w : World) (ht : Tab w) (hv : ¬ Cal.vld y m d) (h0 : 0 ≤ n) (h1 : n ≤ 292193) :
    Calls Tryd.prog 4 #[.agg #[.int .i64 y, .int .i64 m, .int .i64 d], .int .i64 n] w fun e w' => e = .returned (.bool true) ∧ Below w.heap.size w w' := by
  have e1 := inB_t h0 h1
  have W0 := wd0 n h0
  have V := Lib.hid hv
  have T := Lib.hid (ht.alloc (.cells #[.int .i64 y, .int .i64 m, .int .i64 d] 31))
  clear ht hv
  have wd := fun w => weekday_ok n w h0 h1
  rw [W0] at wd
  have WD := Lib.hid wd
  clear wd W0
  go_enter Tryd.func4, Tryd.ntmps4
  go_wp2_with (first
    | (go_at_call 10; refine (cof_bad _ _ _ _ T.out V.out).mono ?_; rintro e v1 ⟨rfl, hw1⟩; have k0 : v1.cell? ⟨w.heap.size, 0, none⟩ = some (.int .i64 y) := (hw1.cell (p := ⟨w.heap.size, 0, none⟩) (by simp)).trans (by simp); have k1 : v1.cell? ⟨w.heap.size, 1, none⟩ = some (.int .i64 m) := (hw1.cell (p := ⟨w.heap.size, 1, none⟩) (by simp)).trans (by simp); have k2 : v1.cell? ⟨w.heap.size, 2, none⟩ = some (.int .i64 d) := (hw1.cell (p := ⟨w.heap.size, 2, none⟩) (by simp)).trans (by simp); have z1 := hw1.size; simp only [World.size_alloc] at z1)
    | (go_at_call 11; refine (date_ok _ _ (T.out.below hw1) h0 h1).mono ?_; rintro e v2 ⟨rfl, hw2⟩; have z2 := hw2.size; have hz2 : w.heap.size < v2.heap.size := (by omega); have j0 : v2.cell? ⟨w.heap.size, 0, none⟩ = some (.int .i64 y) := (hw2.cell (p := ⟨w.heap.size, 0, none⟩) (by show w.heap.size < _; omega)).trans k0; have j1 : v2.cell? ⟨w.heap.size, 1, none⟩ = some (.int .i64 m) := (hw2.cell (p := ⟨w.heap.size, 1, none⟩) (by show w.heap.size < _; omega)).trans k1; have j2 : v2.cell? ⟨w.heap.size, 2, none⟩ = some (.int .i64 d) := (hw2.cell (p := ⟨w.heap.size, 2, none⟩) (by show w.heap.size < _; omega)).trans k2)
    | (go_at_call_of 12 (Value.int IntKind.i64 n); refine (WD.out _).mono ?_; rintro e w' ⟨rfl, rfl⟩)
    | (go_at_call_of 12 (Value.int IntKind.i64 0); refine (weekday_ok 0 _ (by omega) (by omega)).mono ?_; rintro e w' ⟨rfl, rfl⟩)
    | (go_at_call 13; refine (rof_bad _ _ _ _ V.out).mono ?_; rintro e v3 ⟨rfl, hw3⟩; have hB : Below w.heap.size w v3 := below_via (Below.alloc (below_via (below_via ((Below.refl _ _).alloc (Nat.le_refl _) _) (by simp) hw1) (by omega) hw2) (by omega) _) (by simp; omega) hw3; have q0 : v3.cell? ⟨v2.heap.size, 0, none⟩ = some (.int .i64 (Cal.dY n)) := (hw3.cell (p := ⟨v2.heap.size, 0, none⟩) (by simp)).trans (by simp); have q1 : v3.cell? ⟨v2.heap.size, 1, none⟩ = some (.int .i64 (Cal.dM n)) := (hw3.cell (p := ⟨v2.heap.size, 1, none⟩) (by simp)).trans (by simp); have q2 : v3.cell? ⟨v2.heap.size, 2, none⟩ = some (.int .i64 (Cal.dD n)) := (hw3.cell (p := ⟨v2.heap.size, 2, none⟩) (by simp)).trans (by simp))
    | (go_at_call 8; refine (rday_any _ _).mono ?_; rintro e w' ⟨rfl, rfl⟩))
  have z3 := hw3.size
  simp only [World.size_alloc] at z3
  have hz3 : v2.heap.size < v3.heap.size := by omega
  clear hw1 hw2 hw3 k0 k1 k2 j0 j1 j2
  go_region_held3 (fun w' => w'.cell? ⟨v2.heap.size, 0, none⟩ = some (.int .i64 (Cal.dY n)) ∧ w'.cell? ⟨v2.heap.size, 1, none⟩ = some (.int .i64 (Cal.dM n)) ∧ w'.cell? ⟨v2.heap.size, 2, none⟩ = some (.int .i64 (Cal.dD n)))
    (first
      | (go_keep; done)
      | (go_split_ands; refine ⟨?_, ?_, ?_⟩ <;> first
        | (go_keep; done)
        | (rw [hc4 _ _ ?_]; (focus (go_keep; done)); (focus go_size))))
    (first
      | (go_at_call 14; with_reducible refine (rdate_any _ _ h0 h1).mono ?_; rintro e v4 ⟨rfl, hw4⟩; obtain ⟨hc4, hf4⟩ := bcell hw4))
  go_wp2
  go_ret
  refine ⟨ret_bool ?_, below_via (Below.drew hB) (by simp; omega) hw4⟩
  rw [show n.tmod 7 = n % 7 from Int.tmod_eq_emod_of_nonneg h0, show IntKind.i64.wrap (n % 7 + 6) = n % 7 + 6 from IntWalk.i64_in _ (by omega), Int.tmod_eq_emod_of_nonneg (by omega)]
  simp
set_option maxHeartbeats 1600000 in
theorem cs_bad_no (y m d n : Int) (w : World) (ht : Tab w) (hv : ¬ Cal.vld y m d) (hn : n < 0 ∨ 292193 < n) :
    Calls Tryd.prog 4 #[.agg #[.int .i64 y, .int .i64 m, .int .i64 d], .int .i64 n] w fun e w' => e = .returned (.bool true) ∧ Below w.heap.size w w' := by
  have e1 := inB_f hn
  have HN := Lib.hid hn
  have V := Lib.hid hv
  have T := Lib.hid (ht.alloc (.cells #[.int .i64 y, .int .i64 m, .int .i64 d] 31))
  clear ht hv
  have WD := Lib.hid (fun w => weekday_bad n w hn)
  clear hn
  go_enter Tryd.func4, Tryd.ntmps4
  go_wp2_with (first
    | (go_at_call 10; refine (cof_bad _ _ _ _ T.out V.out).mono ?_; rintro e v1 ⟨rfl, hw1⟩; have k0 : v1.cell? ⟨w.heap.size, 0, none⟩ = some (.int .i64 y) := (hw1.cell (p := ⟨w.heap.size, 0, none⟩) (by simp)).trans (by simp); have k1 : v1.cell? ⟨w.heap.size, 1, none⟩ = some (.int .i64 m) := (hw1.cell (p := ⟨w.heap.size, 1, none⟩) (by simp)).trans (by simp); have k2 : v1.cell? ⟨w.heap.size, 2, none⟩ = some (.int .i64 d) := (hw1.cell (p := ⟨w.heap.size, 2, none⟩) (by simp)).trans (by simp); have z1 := hw1.size; simp only [World.size_alloc] at z1)
    | (go_at_call 11; refine (date_bad _ _ HN.out).mono ?_; rintro e v2 ⟨rfl, hw2⟩; have z2 := hw2.size; have hz2 : w.heap.size < v2.heap.size := (by omega); have j0 : v2.cell? ⟨w.heap.size, 0, none⟩ = some (.int .i64 y) := (hw2.cell (p := ⟨w.heap.size, 0, none⟩) (by show w.heap.size < _; omega)).trans k0; have j1 : v2.cell? ⟨w.heap.size, 1, none⟩ = some (.int .i64 m) := (hw2.cell (p := ⟨w.heap.size, 1, none⟩) (by show w.heap.size < _; omega)).trans k1; have j2 : v2.cell? ⟨w.heap.size, 2, none⟩ = some (.int .i64 d) := (hw2.cell (p := ⟨w.heap.size, 2, none⟩) (by show w.heap.size < _; omega)).trans k2)
    | (go_at_call_of 12 (Value.int IntKind.i64 n); refine (WD.out _).mono ?_; rintro e w' ⟨rfl, rfl⟩)
    | (go_at_call_of 12 (Value.int IntKind.i64 0); refine (weekday_ok 0 _ (by omega) (by omega)).mono ?_; rintro e w' ⟨rfl, rfl⟩)
    | (go_at_call 13; refine (rof_bad _ _ _ _ V.out).mono ?_; rintro e v3 ⟨rfl, hw3⟩; have hB : Below w.heap.size w v3 := below_via (Below.alloc (below_via (below_via ((Below.refl _ _).alloc (Nat.le_refl _) _) (by simp) hw1) (by omega) hw2) (by omega) _) (by simp; omega) hw3; have q0 : v3.cell? ⟨v2.heap.size, 0, none⟩ = some (.int .i64 0) := (hw3.cell (p := ⟨v2.heap.size, 0, none⟩) (by simp)).trans (by simp); have q1 : v3.cell? ⟨v2.heap.size, 1, none⟩ = some (.int .i64 0) := (hw3.cell (p := ⟨v2.heap.size, 1, none⟩) (by simp)).trans (by simp); have q2 : v3.cell? ⟨v2.heap.size, 2, none⟩ = some (.int .i64 0) := (hw3.cell (p := ⟨v2.heap.size, 2, none⟩) (by simp)).trans (by simp))
    | (go_at_call 8; refine (rday_any _ _).mono ?_; rintro e w' ⟨rfl, rfl⟩))
  go_ret
  exact ⟨rfl, hB⟩
theorem walkCalSays (y m d : Int) (_w0 : (Lit.int .i64 y).wf = true) (_w1 : (Lit.int .i64 m).wf = true) (_w2 : (Lit.int .i64 d).wf = true) (n : Int) (_w3 : (Lit.int .i64 n).wf = true) (w : World) (ht : Tab w) :
    Calls Tryd.prog 4 #[.agg #[.int .i64 y, .int .i64 m, .int .i64 d], .int .i64 n] w fun e w' => e = .returned (.bool true) ∧ Below w.heap.size w w' := by
  by_cases hv : Cal.vld y m d
  · by_cases hn : 0 ≤ n ∧ n ≤ 292193
    · exact cs_ok_day y m d n w ht hv hn.1 hn.2
    · exact cs_ok_no y m d n w ht hv (by omega)
  · by_cases hn : 0 ≤ n ∧ n ≤ 292193
    · exact cs_bad_day y m d n w ht hv hn.1 hn.2
    · exact cs_bad_no y m d n w ht hv (by omega)
end Go.Proofs.YthndfckapbbbfaaDoor
