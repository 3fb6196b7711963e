/-
  Contracts: line.Look, Straight, Digits; talref.Off, Digits, Parts.
-/
import Derived.Test.YthndfckapbbbfaaLineA
import Derived.Test.YthndfckapbbbfaaMoney
namespace Go.Proofs.Ythndfckapbbbfaa
open Go.RowKit
set_option linter.unusedVariables false
/-- P19 -/
def okL (c r n : Int) : Prop := 0 ≤ c ∧ c ≤ 1000000000000 ∧ 0 ≤ r ∧ r ≤ c ∧ 1 ≤ n ∧ n ≤ 40
instance (c r n : Int) : Decidable (okL c r n) := by unfold okL; infer_instance
def lookE (c r n : Int) : Int := if okL c r n then 0 else 1
theorem lookE_t {c r n : Int} (h : okL c r n) : lookE c r n = 0 := by unfold lookE; rw [if_pos h]
theorem lookE_f {c r n : Int} (h : ¬ okL c r n) : lookE c r n = 1 := by unfold lookE; rw [if_neg h]
set_option maxHeartbeats 800000 in
theorem look_any (c r n : Int) (w : World) :
    Calls Try.prog 66 #[.int .i64 c, .int .i64 r, .int .i64 n] w fun e w' => e = .returned (.int .i64 (lookE c r n)) ∧ w = w' := by
  by_cases h : okL c r n
  · rw [lookE_t h]
    obtain ⟨h0, h1, h2, h3, h4, h5⟩ := h
    go_enter Try.func66, Try.ntmps66
    go_wp2
    go_ret
    exact ⟨rfl, rfl⟩
  · rw [lookE_f h]
    have H := Lib.hid h
    clear h
    go_enter Try.func66, Try.ntmps66
    go_wp2
    all_goals first
      | (exfalso; refine H.out ?_; unfold okL; omega)
      | (go_ret; exact ⟨rfl, rfl⟩)
set_option maxHeartbeats 800000 in
theorem off_any (c r n : Int) (w : World) :
    Calls Try.prog 24 #[.int .i64 c, .int .i64 r, .int .i64 n] w fun e w' => e = .returned (.int .i64 (lookE c r n)) ∧ w = w' := by
  by_cases h1 : 0 ≤ c ∧ c ≤ 1000000000000
  · have b1 := inB_t h1.1 h1.2
    by_cases h2 : 0 ≤ r ∧ r ≤ c
    · have b2 := inB_t h2.1 h2.2
      by_cases h3 : 1 ≤ n ∧ n ≤ 40
      · have b3 := inB_t h3.1 h3.2
        rw [lookE_t ⟨h1.1, h1.2, h2.1, h2.2, h3.1, h3.2⟩]
        clear h1 h2 h3
        go_enter Try.func24, Try.ntmps24
        go_wp2_with (go_at_call 64; refine (rwithin_any _ _ _ _).mono ?_; rintro e w' ⟨rfl, rfl⟩)
        go_ret
        exact ⟨rfl, rfl⟩
      · have b3 : inB n 1 40 = false := inB_f (by omega)
        rw [lookE_f (by unfold okL; omega)]
        clear h1 h2 h3
        go_enter Try.func24, Try.ntmps24
        go_wp2_with (go_at_call 64; refine (rwithin_any _ _ _ _).mono ?_; rintro e w' ⟨rfl, rfl⟩)
        go_ret
        exact ⟨rfl, rfl⟩
    · have b2 : inB r 0 c = false := inB_f (by omega)
      rw [lookE_f (by unfold okL; omega)]
      clear h1 h2
      go_enter Try.func24, Try.ntmps24
      go_wp2_with (go_at_call 64; refine (rwithin_any _ _ _ _).mono ?_; rintro e w' ⟨rfl, rfl⟩)
      go_ret
      exact ⟨rfl, rfl⟩
  · have b1 : inB c 0 1000000000000 = false := inB_f (by omega)
    rw [lookE_f (by unfold okL; omega)]
    clear h1
    go_enter Try.func24, Try.ntmps24
    go_wp2_with (go_at_call 64; refine (rwithin_any _ _ _ _).mono ?_; rintro e w' ⟨rfl, rfl⟩)
    go_ret
    exact ⟨rfl, rfl⟩
/-- the sum of the k greatest of 1 to n -/
def dg (n k : Int) : Int := k * n - k * (k - 1) / 2
theorem dg_fin : ∀ n : Fin 41, ∀ k : Fin 41, k.1 ≤ n.1 → 0 ≤ dg n.1 k.1 ∧ dg n.1 k.1 ≤ 1600 ∧ (k.1 < n.1 → dg n.1 ((k.1 : Int) + 1) = dg n.1 k.1 + (n.1 - k.1)) ∧ dg n.1 0 = 0 ∧ dg n.1 n.1 = (n.1 : Int) * ((n.1 : Int) + 1) / 2 ∧ 0 ≤ (k.1 : Int) * n.1 ∧ (k.1 : Int) * n.1 ≤ 1600 ∧ 0 ≤ (k.1 : Int) * ((k.1 : Int) - 1) ∧ (k.1 : Int) * ((k.1 : Int) - 1) ≤ 1600 ∧ (n.1 : Int) * ((n.1 : Int) + 1) ≤ 1640 ∧ (1 ≤ n.1 → 1 ≤ dg n.1 n.1) := by decide +kernel
theorem dg_all (n k : Int) (h0 : 0 ≤ k) (h1 : k ≤ n) (h2 : n ≤ 40) : 0 ≤ dg n k ∧ dg n k ≤ 1600 ∧ (k < n → dg n (k + 1) = dg n k + (n - k)) ∧ dg n 0 = 0 ∧ dg n n = n * (n + 1) / 2 ∧ 0 ≤ k * n ∧ k * n ≤ 1600 ∧ 0 ≤ k * (k - 1) ∧ k * (k - 1) ≤ 1600 ∧ n * (n + 1) ≤ 1640 ∧ (1 ≤ n → 1 ≤ dg n n) := by
  obtain ⟨a, rfl⟩ := Int.eq_ofNat_of_zero_le h0
  obtain ⟨b, rfl⟩ := Int.eq_ofNat_of_zero_le (show 0 ≤ n by omega)
  have := dg_fin ⟨b, by omega⟩ ⟨a, by omega⟩ (by simp; omega)
  simp only at this
  refine ⟨this.1, this.2.1, fun h => this.2.2.1 (by omega), this.2.2.2.1, this.2.2.2.2.1, this.2.2.2.2.2.1, this.2.2.2.2.2.2.1, this.2.2.2.2.2.2.2.1, this.2.2.2.2.2.2.2.2.1, this.2.2.2.2.2.2.2.2.2.1, fun h => this.2.2.2.2.2.2.2.2.2.2 (by omega)⟩
/-- accumulated depreciation -/
def FS (a n k : Int) : Int := Rnd.rnd (a * k) n 2
def FD (a n k : Int) : Int := Rnd.rnd (a * dg n k) (dg n n) 2
theorem amt_bd {a x : Int} (h0 : 0 ≤ a) (h1 : a ≤ 1000000000000) (h2 : 0 ≤ x) (h3 : x ≤ 1640) : 0 ≤ a * x ∧ a * x ≤ 1640000000000000 := by
  refine ⟨Int.mul_nonneg h0 h2, ?_⟩
  have k1 : a * x ≤ 1000000000000 * x := Int.mul_le_mul_of_nonneg_right h1 h2
  omega
theorem rnd_bd {x d M : Int} (way : Int) (hd : 1 ≤ d) (h0 : -M ≤ x) (h1 : x ≤ M) (hM : 0 ≤ M) : -M ≤ Rnd.rnd x d way ∧ Rnd.rnd x d way ≤ M + 1 := by
  have := Rnd.div_bd x hd h0 h1 hM
  have := Rnd.near x d way
  omega
set_option maxHeartbeats 800000 in
theorem rdigits_any (n k : Int) (w : World) (h0 : 0 ≤ k) (h1 : k ≤ n) (h2 : n ≤ 40) :
    Calls Try.prog 71 #[.int .i64 n, .int .i64 k] w fun e w' => e = .returned (.int .i64 (dg n k)) ∧ w = w' := by
  have D := Lib.hid (fun j h h' => dg_all n j h h' h2)
  go_enter Try.func71, Try.ntmps71
  go_wp2
  go_loop [5, 6] (fun s i => ∃ j : Int, 0 ≤ j ∧ j ≤ k ∧ i = .int .i64 (n - j) ∧ s = .int .i64 (dg n j)) (fun _ i => (intOf i).toNat)
  case atStart => exact ⟨0, by omega, h0, by simp, by rw [(D.out 0 (by omega) (by omega)).2.2.2.1]⟩
  case round =>
    obtain ⟨j, j0, j1, rfl, rfl⟩ := hrel
    obtain ⟨d0, d1, _⟩ := D.out j j0 (by omega)
    by_cases hlt : j < k
    · have E := Lib.hid ((D.out j j0 (by omega)).2.2.1 (by omega))
      go_wp2
      go_round
      case rel => exact ⟨j + 1, by omega, by omega, by rw [show n - (j + 1) = n - j - 1 by omega], by rw [E.out]⟩
      case measure => simp [intOf]; omega
    · obtain rfl : j = k := by omega
      go_wp2
      go_ret
      exact ⟨rfl, rfl⟩
set_option maxHeartbeats 800000 in
/-- Straight's closure, over its variables' blocks -/
theorem straight1_any (c r n k : Int) (g : Nat) (w : World) (h : okL c r n) (k0 : 0 ≤ k) (k1 : k ≤ n)
    (c0 : w.cell? ⟨g, 0, none⟩ = some (.int .i64 c)) (c1 : w.cell? ⟨g + 1, 0, none⟩ = some (.int .i64 r)) (c2 : w.cell? ⟨g + 2, 0, none⟩ = some (.int .i64 n)) :
    Calls Try.prog 68 #[.int .i64 k, .pointer (some ⟨g, 0, none⟩), .pointer (some ⟨g + 1, 0, none⟩), .pointer (some ⟨g + 2, 0, none⟩)] w fun e w' => e = .returned (.int .i64 (FS (c - r) n k)) ∧ ∃ j, w' = w.drewN j := by
  obtain ⟨h0, h1, h2, h3, h4, h5⟩ := h
  obtain ⟨a0, a1⟩ := amt_bd (a := c - r) (x := k) (by omega) (by omega) k0 (by omega)
  go_enter Try.func68, Try.ntmps68
  go_wp2_with (go_at_call 62; refine (rounded_any _ _ _ _ (by omega) (by omega) (by omega) (by omega) (by omega) (by omega)).mono ?_; rintro e w' ⟨rfl, q, rfl⟩)
  go_ret
  exact ⟨rfl, _, rfl⟩
set_option maxHeartbeats 800000 in
theorem digits1_any (c r n k : Int) (g : Nat) (w : World) (h : okL c r n) (k0 : 0 ≤ k) (k1 : k ≤ n)
    (c0 : w.cell? ⟨g, 0, none⟩ = some (.int .i64 c)) (c1 : w.cell? ⟨g + 1, 0, none⟩ = some (.int .i64 r)) (c2 : w.cell? ⟨g + 2, 0, none⟩ = some (.int .i64 n)) (g3 : Nat) (c3 : w.cell? ⟨g3, 0, none⟩ = some (.int .i64 (dg n n))) :
    Calls Try.prog 69 #[.int .i64 k, .pointer (some ⟨g, 0, none⟩), .pointer (some ⟨g + 1, 0, none⟩), .pointer (some ⟨g + 2, 0, none⟩), .pointer (some ⟨g3, 0, none⟩)] w fun e w' => e = .returned (.int .i64 (FD (c - r) n k)) ∧ ∃ j, w' = w.drewN j := by
  obtain ⟨h0, h1, h2, h3, h4, h5⟩ := h
  obtain ⟨d0, d1, _, _, _, d5, d6, d7, d8, _, _⟩ := dg_all n k k0 k1 h5
  obtain ⟨f0, f1, _, _, _, _, _, _, _, _, f10⟩ := dg_all n n (by omega) (by omega) h5
  have f11 := f10 h4
  have U : dg n k = k * n - k * (k - 1) / 2 := rfl
  rw [U] at d0 d1
  obtain ⟨a0, a1⟩ := amt_bd (a := c - r) (x := k * n - k * (k - 1) / 2) (by omega) (by omega) d0 (by omega)
  have UU := Lib.hid U
  clear U f10
  go_enter Try.func69, Try.ntmps69
  go_wp2_with (go_at_call 62; refine (rounded_any _ _ _ _ (by omega) (by omega) (by omega) (by omega) (by omega) (by omega)).mono ?_; rintro e w' ⟨rfl, q, rfl⟩)
  go_ret
  exact ⟨ret_int (by unfold FD; rw [UU.out, (dg_all n n (by omega) (by omega) h5).2.2.2.2.1]), _, rfl⟩
end Go.Proofs.Ythndfckapbbbfaa
