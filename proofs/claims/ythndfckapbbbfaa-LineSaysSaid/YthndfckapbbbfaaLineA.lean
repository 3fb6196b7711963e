/-
  Contracts: line.parts (over whatever function value), slices.Equal of two rows of the call's own.
-/
import Derived.Test.YthndfckapbbbfaaBase
import Derived.Test.YthndfckapbbbfaaRounded
import Derived.OwnWalk
import Derived.Laws.MakeOwn
import Derived.Laws.OwnMore
import Derived.Lib.Walk
import Derived.Shelf.Abstract
namespace Go.Proofs.Ythndfckapbbbfaa
open Go.RowKit
set_option linter.unusedVariables false
/-- the ints of a slice of the call's own, from block 'base' on -/
abbrev OwnI (w : World) (base : Nat) (v : Value) (xs : List Int) : Prop := w.ownsRow base 3 1 v xs.length (xs.map (Value.int .i64))
/-- F's steps -/
def steps (F : Int → Int) (n : Nat) : List Int := (List.range n).map fun k : Nat => F ((k : Int) + 1) - F (k : Int)
def stepsTo (F : Int → Int) (n k : Nat) : List Int := (List.range n).map fun i : Nat => if i < k then F ((i : Int) + 1) - F (i : Int) else 0
theorem len_stepsTo (F : Int → Int) (n k : Nat) : (stepsTo F n k).length = n := by simp [stepsTo]
theorem stepsTo_set (F : Int → Int) (n k : Nat) (h : k < n) : ((stepsTo F n k).map (Value.int .i64)).set k (.int .i64 (F ((k : Int) + 1) - F (k : Int))) = (stepsTo F n (k + 1)).map (Value.int .i64) := by
  apply List.ext_getElem?
  intro i
  by_cases hi : i < n
  · by_cases e : i = k
    · subst e; simp [stepsTo, hi]
    · have : ¬ k = i := fun h => e h.symm
      simp [stepsTo, hi, this, show (i < k + 1) = (i < k) by simp; omega]
  · have hn : n ≤ i := by omega
    rw [List.getElem?_eq_none (by simp [stepsTo]; exact hn), List.getElem?_eq_none (by simp [stepsTo]; exact hn)]
theorem stepsTo_0 (F : Int → Int) (n : Nat) : (stepsTo F n 0).map (Value.int .i64) = List.replicate n (Value.int .i64 0) := by
  apply List.ext_getElem?
  intro i
  by_cases hi : i < n <;> simp [stepsTo, hi]
theorem stepsTo_n (F : Int → Int) (n : Nat) : stepsTo F n n = steps F n := by
  unfold stepsTo steps
  apply List.map_congr_left
  intro i hi
  simp at hi
  simp [hi]
theorem int_info : (Try.prog.info? 3).map (fun i => (i.zero, i.size, i.bytes)) = some (some (.int .i64 0), 1, 8) := by kernel_rfl
set_option maxHeartbeats 1600000 in
theorem parts_any (n : Nat) (f : FuncId) (caps : Array Value) (F : Int → Int) (w : World) (hn : 1 ≤ n) (hn2 : n ≤ 40) (hb : ∀ k : Nat, k ≤ n → -10000000000000000 ≤ F k ∧ F k ≤ 10000000000000000)
    (eg : ∀ args w, (callFunc f args).run Try.prog w = .ok (.enter f args) w)
    (hF : ∀ (k : Int) (w' : World), 0 ≤ k → k ≤ n → Below w.heap.size w w' → Calls Try.prog f (#[.int .i64 k] ++ caps) w' fun e w'' => e = .returned (.int .i64 (F k)) ∧ ∃ j, w'' = w'.drewN j) :
    Calls Try.prog 67 #[.int .i64 n, .func (.func f) #[] caps] w fun e w' => ∃ v, e = .returned v ∧ OwnI w' w.heap.size v (steps F n) ∧ Below w.heap.size w w' := by
  obtain ⟨i0, hi, hz0, hz1, hz2⟩ := info_parts int_info
  have hmk := run_make (P := Try.prog) w 38 3 i0 (.int .i64 0) Try.underlying38 hi hz0 .i64 .i64 n n (by omega) (by omega) (by rw [hz2]; omega) (by omega)
  simp only [Int.toNat_natCast, hz1, Nat.mul_one] at hmk
  have H := Lib.hid hF
  have HB := Lib.hid hb
  clear hF hb
  go_enter Try.func67, Try.ntmps67
  go_wp2
  go_loopw [11] (fun i wr => ∃ k : Nat, i = .int .i64 k ∧ k ≤ n ∧ wr.ownsRow w.heap.size 3 1 (.slice (some ⟨w.heap.size, 0, none⟩) n n) n ((stepsTo F n k).map (Value.int .i64)) ∧ Below w.heap.size w wr) (fun i _ => n - (intOf i).toNat)
  case atStart => exact ⟨0, rfl, by omega, by rw [stepsTo_0]; exact ⟨by simp, .inr ⟨_, n, _, rfl, Nat.le_refl _, heap_alloc_new _ _, Nat.le_refl _, by unfold maxLen; omega, by simp [madeCells], by rw [Nat.mul_one, toList_madeCells_one]; simp⟩⟩, (Below.refl _ _).alloc (Nat.le_refl _) _⟩
  case round =>
    obtain ⟨k, rfl, hk, hown, hB⟩ := hrel
    have HO := Lib.hid hown
    have BB := Lib.hid hB
    clear hown hB hmk hi hz0 hz1 hz2
    by_cases hlt : k < n
    · have b1 := HB.out k (by omega)
      have b2 := HB.out (k + 1) (by omega)
      simp only [Int.natCast_add, Int.natCast_one] at b2
      obtain ⟨b11, b12⟩ := b1
      obtain ⟨b21, b22⟩ := b2
      go_wp2_with fail
      refine (H.out ((k : Int) + 1) _ (by omega) (by omega) BB.out).mono ?_
      rintro e w1 ⟨rfl, j1, rfl⟩
      go_wp2_with fail
      refine (H.out (k : Int) _ (by omega) (by omega) (below_drewN BB.out _)).mono ?_
      rintro e w2 ⟨rfl, j2, rfl⟩
      have fr := HO.out.frozenAt k
      have ce := HO.out.cellAt k (by omega)
      simp only [stepsTo, List.map_map, List.getElem?_map, List.getElem?_range hlt, Option.map_some, Function.comp] at ce
      have sto := HO.out.stored k (.int .i64 (F ((k : Int) + 1) - F (k : Int)))
      have STO := Lib.hid sto
      clear sto
      go_wp2
      go_roundw
      case rel =>
        refine ⟨k + 1, by go_num, by omega, ?_, Below.setCell (p := ⟨w.heap.size, k, none⟩) (below_drewN BB.out _) (Nat.le_refl _) _⟩
        have e := STO.out.1
        rw [stepsTo_set F n k hlt] at e
        exact e
      case measure => simp [intOf]; omega
    · obtain rfl : k = n := by omega
      go_wp2
      go_ret
      refine ⟨_, rfl, ?_, BB.out⟩
      have e := HO.out
      rw [stepsTo_n] at e
      have hl : (steps F k).length = k := by simp [steps]
      unfold OwnI
      rw [hl]
      exact e
theorem ownsRow_below {w w' : World} {base : Nat} {e : TypeId} {size n : Nat} {v : Value} {xs : List Value} (h : w.ownsRow base e size v n xs) (hb : Below w.heap.size w w') : w'.ownsRow base e size v n xs := by
  rcases h with ⟨h1, h2 | ⟨g, cap, cur, hv, hg, hh, r⟩⟩
  · exact ⟨h1, .inl h2⟩
  · have hlt : g < w.heap.size := by
      rcases Nat.lt_or_ge g w.heap.size with h | h
      · exact h
      · rw [Array.getElem?_eq_none h] at hh; cases hh
    exact ⟨h1, .inr ⟨g, cap, cur, hv, hg, by rw [hb.block g hlt]; exact hh, r⟩⟩
theorem steps_succ (F : Int → Int) (k : Nat) : steps F (k + 1) = steps F k ++ [F ((k : Int) + 1) - F (k : Int)] := by
  simp [steps, List.range_succ]
set_option maxHeartbeats 1600000 in
theorem parted_any (n : Nat) (f : FuncId) (caps : Array Value) (F : Int → Int) (w : World) (hn2 : n ≤ 1000) (hb : ∀ k : Nat, k ≤ n → -10000000000000000 ≤ F k ∧ F k ≤ 10000000000000000)
    (eg : ∀ args w, (callFunc f args).run Try.prog w = .ok (.enter f args) w)
    (hF : ∀ (k : Int) (w' : World), 0 ≤ k → k ≤ n → Below w.heap.size w w' → Calls Try.prog f (#[.int .i64 k] ++ caps) w' fun e w'' => e = .returned (.int .i64 (F k)) ∧ Below w'.heap.size w' w'') :
    Calls Try.prog 39 #[.int .i64 n, .func (.func f) #[] caps] w fun e w' => ∃ v, e = .returned v ∧ OwnI w' w.heap.size v (steps F n) ∧ Below w.heap.size w w' := by
  have H := Lib.hid hF
  have HB := Lib.hid hb
  clear hF hb
  go_enter Try.func39, Try.ntmps39
  go_wp2_with fail
  refine (H.out 0 _ (by omega) (by omega) (Below.refl _ _)).mono ?_
  rintro e w0 ⟨rfl, hw0⟩
  go_wp2_with fail
  go_loopw [5, 6, 7] (fun v was i wr => ∃ k : Nat, i = .int .i64 ((k : Int) + 1) ∧ k ≤ n ∧ was = .int .i64 (F k) ∧ wr.ownsRow w.heap.size 3 1 v k ((steps F k).map (Value.int .i64)) ∧ Below w.heap.size w wr) (fun _ _ i _ => n + 1 - (intOf i).toNat)
  case atStart => exact ⟨0, rfl, by omega, rfl, ⟨by simp [steps], .inl ⟨rfl, rfl⟩⟩, hw0⟩
  case round =>
    obtain ⟨k, rfl, hk, rfl, hown, hB⟩ := hrel
    have HO := Lib.hid hown
    have BB := Lib.hid hB
    clear hown hB
    by_cases hlt : k < n
    · have b1 := HB.out k (by omega)
      have b2 := HB.out (k + 1) (by omega)
      simp only [Int.natCast_add, Int.natCast_one] at b2
      obtain ⟨b11, b12⟩ := b1
      obtain ⟨b21, b22⟩ := b2
      go_wp2_with fail
      refine (H.out ((k : Int) + 1) _ (by omega) (by omega) BB.out).mono ?_
      rintro e w1 ⟨rfl, hw1⟩
      obtain ⟨i0, hi, hz0, hz1, hz2⟩ := info_parts int_info
      have hsz := hw1.size
      have hsz0 := BB.out.size
      go_wp2_with (first
        | (at_builtin; refine wpList_append_own _ rfl _ _ 38 rfl w.heap.size 3 i0 (.int .i64 0) 1 8 Try.underlying38 hi hz0 hz1 hz2 rfl (by decide) _ _ _ rfl ((ownsRow_below HO.out hw1).alloc _) ⟨w1.heap.size, 0, none⟩ 1 1 [.int .i64 (F ((k : Int) + 1) - F (k : Int))] rfl rfl (cell_one_new _ _ _) (fun x hx => by simp at hx; subst hx; rfl) (by unfold maxLen; omega) (by omega) (by simp; omega) ?_; intro v' w3 hown' hgrow3 hnil3))
      have hB3 : Below w.heap.size w w3 := Below.grown (Below.alloc (below_via BB.out hsz0 hw1) (by omega) _) hgrow3 (by simp; omega) (fun q e => (World.ownsRow.lt HO.out q e).1)
      have HN := Lib.hid hown'
      clear hown' hgrow3 hnil3 hi hz0 hz1 hz2
      refine (H.out ((k : Int) + 1) _ (by omega) (by omega) hB3).mono ?_
      rintro e w4 ⟨rfl, hw4⟩
      go_wp2_with fail
      go_roundw
      case rel =>
        refine ⟨k + 1, by go_num, by omega, rfl, ?_, below_via hB3 hB3.size hw4⟩
        have e := ownsRow_below HN.out hw4
        rw [steps_succ]
        simpa using e
      case measure => simp [intOf]; omega
    · obtain rfl : k = n := by omega
      go_wp2
      go_ret
      refine ⟨_, rfl, ?_, BB.out⟩
      have hl : (steps F k).length = k := by simp [steps]
      unfold OwnI
      rw [hl]
      exact HO.out
end Go.Proofs.Ythndfckapbbbfaa
