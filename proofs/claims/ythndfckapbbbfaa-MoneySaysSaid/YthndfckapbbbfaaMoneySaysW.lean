/-
  The walk of MoneySays: it returns true.
-/
import Derived.Test.YthndfckapbbbfaaMoney
namespace Go.Proofs.Ythndfckapbbbfaa
open Go.RowKit
theorem below_drewN {B : Nat} {a w : World} (h : Below B a w) (n : Nat) : Below B a (w.drewN n) := ⟨h.os, h.tape, h.output, h.size, h.block⟩
set_option maxHeartbeats 800000 in
theorem walkMoneySays (a0 : Int) (_w0 : (Lit.int .i64 a0).wf = true) (a1 : Int) (_w1 : (Lit.int .i64 a1).wf = true) (a2 : Int) (_w2 : (Lit.int .i64 a2).wf = true) (w : World) :
    Calls Try.prog 4 #[.int .i64 a0, .int .i64 a1, .int .i64 a2] w fun e w' => e = .returned (.bool true) ∧ Below w.heap.size w w' := by
  by_cases hv : okM a0 a1 a2
  · obtain ⟨h0, h1, h2, h3, h4, h5⟩ := hv
    have b1 := inB_t h0 h1
    have b2 := inB_t h2 h3
    obtain ⟨p0, p1⟩ := mul_bd h0 h1 h2 h3
    obtain ⟨n0, n1⟩ := Rnd.near (a0 * a1) 1000000 a2
    have h8 : -2000000000000 ≤ Rnd.rnd (a0 * a1) 1000000 a2 := by omega
    have h9 : Rnd.rnd (a0 * a1) 1000000 a2 ≤ 2000000000000 := by omega
    obtain ⟨q0, q1⟩ := Rnd.div_bd (M := 1000000000000000000) (a0 * 1000000) (d := 1000000 + a1) (by omega) (by omega) (by omega) (by omega)
    obtain ⟨m0, m1⟩ := Rnd.near (a0 * 1000000) (1000000 + a1) a2
    have h10 : -1000000000000000000 ≤ Rnd.rnd (a0 * 1000000) (1000000 + a1) a2 := by omega
    have h11 : Rnd.rnd (a0 * 1000000) (1000000 + a1) a2 ≤ 1000000000000000001 := by omega
    clear n0 n1 q0 q1 m0 m1
    by_cases hs : -1000000000000 ≤ a0 + Rnd.rnd (a0 * a1) 1000000 a2 ∧ a0 + Rnd.rnd (a0 * a1) 1000000 a2 ≤ 1000000000000
    · obtain ⟨s0, s1⟩ := hs
      have b3 := inB_t s0 s1
      go_enter Try.func4, Try.ntmps4
      go_wp2_with (first
        | (go_at_call 13; refine (share_ok _ _ _ _ h0 h1 h2 h3 h4 h5).mono ?_; rintro e w' ⟨rfl, k1, rfl⟩)
        | (go_at_call 14; refine (with_ok _ _ _ _ h0 h1 h2 h3 h4 h5 s0 s1).mono ?_; rintro e w' ⟨rfl, k2, rfl⟩)
        | (go_at_call 15; refine (within_ok _ _ _ _ h0 h1 h2 h3 h4 h5).mono ?_; rintro e w' ⟨rfl, k3, rfl⟩)
        | (go_at_call 16; refine (rmoney_any _ _).mono ?_; rintro e w' ⟨rfl, rfl⟩)
        | (go_at_call 17; refine (rrate_any _ _).mono ?_; rintro e w' ⟨rfl, rfl⟩)
        | (go_at_call 18; refine (rround_any _ _ _ _ (by omega) (by omega) (by omega) (by omega) h4 h5).mono ?_; rintro e w' ⟨rfl, rfl⟩))
      go_ret
      exact ⟨rfl, below_drewN (Below.refl _ _) _⟩
    · have b3 : inB (a0 + Rnd.rnd (a0 * a1) 1000000 a2) (-1000000000000) 1000000000000 = false := inB_f (by omega)
      go_enter Try.func4, Try.ntmps4
      go_wp2_with (first
        | (go_at_call 13; refine (share_ok _ _ _ _ h0 h1 h2 h3 h4 h5).mono ?_; rintro e w' ⟨rfl, k1, rfl⟩)
        | (go_at_call 14; refine (with_large _ _ _ _ h0 h1 h2 h3 h4 h5 hs).mono ?_; rintro e w' ⟨rfl, k2, rfl⟩)
        | (go_at_call 15; refine (within_ok _ _ _ _ h0 h1 h2 h3 h4 h5).mono ?_; rintro e w' ⟨rfl, k3, rfl⟩)
        | (go_at_call 16; refine (rmoney_any _ _).mono ?_; rintro e w' ⟨rfl, rfl⟩)
        | (go_at_call 17; refine (rrate_any _ _).mono ?_; rintro e w' ⟨rfl, rfl⟩)
        | (go_at_call 18; refine (rround_any _ _ _ _ (by omega) (by omega) (by omega) (by omega) h4 h5).mono ?_; rintro e w' ⟨rfl, rfl⟩))
      go_ret
      exact ⟨rfl, below_drewN (Below.refl _ _) _⟩
  · have H := Lib.hid hv
    clear hv
    go_enter Try.func4, Try.ntmps4
    go_wp2_with (first
      | (go_at_call 13; refine (share_bad _ _ _ _ H.out).mono ?_; rintro e w' ⟨rfl, rfl⟩)
      | (go_at_call 14; refine (with_bad _ _ _ _ H.out).mono ?_; rintro e w' ⟨rfl, rfl⟩)
      | (go_at_call 15; refine (within_bad _ _ _ _ H.out).mono ?_; rintro e w' ⟨rfl, rfl⟩)
      | (go_at_call 18; exfalso; refine H.out ?_; unfold okM; omega)
      | go_in)
    all_goals
      go_ret
      exact ⟨rfl, Below.refl _ _⟩
end Go.Proofs.Ythndfckapbbbfaa
