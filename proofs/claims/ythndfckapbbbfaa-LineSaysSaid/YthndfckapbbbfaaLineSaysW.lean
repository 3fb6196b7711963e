/-
  The walk of LineSays: it returns true.
-/
import Derived.Test.YthndfckapbbbfaaLineD
import Derived.Test.YthndfckapbbbfaaEqI
namespace Go.Proofs.Ythndfckapbbbfaa
open Go.RowKit
theorem own_below {w w' : World} {b : Nat} {v : Value} {xs : List Int} (h : OwnI w b v xs) (hb : Below w.heap.size w w') : OwnI w' b v xs := ownsRow_below h hb
theorem own_drewN {w : World} {b : Nat} {v : Value} {xs : List Int} (h : OwnI w b v xs) (k : Nat) : OwnI (w.drewN k) b v xs := ownsRow_below h (below_drewN (Below.refl _ _) k)
theorem steps_FP0 (a n : Int) (m : Nat) : steps (FP 0 a n) m = steps (FS a n) m := by
  have : FP 0 a n = FS a n := by funext k; unfold FP; rw [if_neg (by omega)]
  rw [this]
theorem steps_FP1 (a n : Int) (m : Nat) : steps (FP 1 a n) m = steps (FD a n) m := by
  have : FP 1 a n = FD a n := by funext k; unfold FP; rw [if_pos rfl]
  rw [this]
theorem len_steps (F : Int → Int) (n : Nat) : (steps F n).length = n := by simp [steps]
set_option maxHeartbeats 1600000 in
theorem walkLineSays (a0 : Int) (_w0 : (Lit.int .i64 a0).wf = true) (a1 : Int) (_w1 : (Lit.int .i64 a1).wf = true) (a2 : Int) (_w2 : (Lit.int .i64 a2).wf = true) (w : World) :
    Calls Try.prog 6 #[.int .i64 a0, .int .i64 a1, .int .i64 a2] w fun e w' => e = .returned (.bool true) ∧ Below w.heap.size w w' := by
  by_cases hv : okL a0 a1 a2
  · obtain ⟨m, rfl⟩ := Int.eq_ofNat_of_zero_le (show 0 ≤ a2 by obtain ⟨_, _, _, _, h4, _⟩ := hv; omega)
    have lk := off_any a0 a1 m
    rw [lookE_t hv] at lk
    have LK := Lib.hid lk
    have OK := Lib.hid hv
    clear lk hv
    obtain ⟨h0, h1, h2, h3, h4, h5⟩ := OK.out
    go_enter Try.func6, Try.ntmps6
    go_wp2_with fail
    refine (straight_ok a0 a1 m _ OK.out).mono ?_
    rintro e w1 ⟨v1, rfl, o1, hb1⟩
    have O1 := Lib.hid o1
    have s1 := hb1.size
    clear o1
    go_wp2_with fail
    refine (digits_ok a0 a1 m _ OK.out).mono ?_
    rintro e w2 ⟨v2, rfl, o2, hb2⟩
    have O2 := Lib.hid o2
    have s2 := hb2.size
    clear o2
    go_wp2_with fail
    refine (LK.out _).mono ?_
    rintro e w' ⟨rfl, rfl⟩
    go_wp2_with fail
    refine (rparts_any _ 0 0 (a0 - a1) m _ _ _ (by omega) (by omega) (by omega) (by omega)).mono ?_
    rintro e w3 ⟨v3, rfl, o3, hb3⟩
    have O3 := Lib.hid o3
    have s3 := hb3.size
    clear o3
    go_wp2_with fail
    rw [steps_FP0] at O3
    refine (eqI_same (steps (FS (a0 - a1) m) m) v1 v3 _ _ _ (own_below (own_below O1.out hb2) hb3) O3.out (by rw [len_steps]; omega)).mono ?_
    rintro e w4 ⟨rfl, k4, rfl⟩
    go_wp2_with fail
    refine (rparts_any _ 1 0 (a0 - a1) m _ _ _ (by omega) (by omega) (by omega) (by omega)).mono ?_
    rintro e w5 ⟨v5, rfl, o5, hb5⟩
    have O5 := Lib.hid o5
    have s5 := hb5.size
    clear o5
    go_wp2_with fail
    rw [steps_FP1] at O5
    refine (eqI_same (steps (FD (a0 - a1) m) m) v2 v5 _ _ _ (own_below (own_drewN (own_below O2.out hb3) _) hb5) O5.out (by rw [len_steps]; omega)).mono ?_
    rintro e w6 ⟨rfl, k6, rfl⟩
    go_wp2
    go_ret
    refine ⟨rfl, below_drewN (below_via (below_drewN (below_via (below_via hb1 s1 hb2) (by omega) hb3) _) ?_ hb5) _⟩
    go_size
  · have lk := off_any a0 a1 a2
    rw [lookE_f hv] at lk
    have LK := Lib.hid lk
    have H := Lib.hid hv
    clear lk hv
    go_enter Try.func6, Try.ntmps6
    go_wp2_with fail
    refine (straight_bad a0 a1 a2 _ H.out).mono ?_
    rintro e w1 ⟨rfl, hb1⟩
    have s1 := hb1.size
    go_wp2_with fail
    refine (digits_bad a0 a1 a2 _ H.out).mono ?_
    rintro e w2 ⟨rfl, hb2⟩
    go_wp2_with fail
    refine (LK.out _).mono ?_
    rintro e w' ⟨rfl, rfl⟩
    go_wp2
    go_ret
    exact ⟨rfl, below_via hb1 s1 hb2⟩
end Go.Proofs.Ythndfckapbbbfaa
