/-
  Contract: talref.Parts.
-/
import Derived.Test.YthndfckapbbbfaaLineC
namespace Go.Proofs.Ythndfckapbbbfaa
open Go.RowKit
set_option linter.unusedVariables false
/-- what Parts' closure answers: a amount, n number -/
def FP (kind a n : Int) (k : Int) : Int := if kind = 1 then FD a n k else FS a n k
theorem amt_bd2 {a x : Int} (h0 : -1000000000000 ≤ a) (h1 : a ≤ 1000000000000) (h2 : 0 ≤ x) (h3 : x ≤ 1640) : -1640000000000000 ≤ a * x ∧ a * x ≤ 1640000000000000 := by
  have k1 : a * x ≤ 1000000000000 * x := Int.mul_le_mul_of_nonneg_right h1 h2
  have k2 : -1000000000000 * x ≤ a * x := Int.mul_le_mul_of_nonneg_right h0 h2
  omega
/-- a plan, as the model holds it -/
abbrev planV (key : ByteArray) (kind day amt num : Int) (deb cre : ByteArray) : Value := .agg #[.string key, .int .i64 kind, .int .i64 day, .int .i64 amt, .int .i64 num, .string deb, .string cre]
set_option maxHeartbeats 1600000 in
theorem rparts1_any (kind a k : Int) (n : Nat) (g : Nat) (w : World) (ha : -1000000000000 ≤ a) (ha' : a ≤ 1000000000000) (hn : 1 ≤ n) (hn2 : n ≤ 40) (k0 : 0 ≤ k) (k1 : k ≤ n)
    (c1 : w.cell? ⟨g, 1, none⟩ = some (.int .i64 kind)) (c3 : w.cell? ⟨g, 3, none⟩ = some (.int .i64 a)) (c4 : w.cell? ⟨g, 4, none⟩ = some (.int .i64 n)) :
    Calls Try.prog 70 #[.int .i64 k, .pointer (some ⟨g, 0, none⟩)] w fun e w' => e = .returned (.int .i64 (FP kind a n k)) ∧ ∃ j, w' = w.drewN j := by
  by_cases hk : kind = 1
  · subst hk
    obtain ⟨d0, d1, -⟩ := dg_all n k k0 k1 (by omega)
    obtain ⟨f0, f1, -, -, -, -, -, -, -, -, f10⟩ := dg_all n n (by omega) (by omega) (by omega)
    have f11 := f10 (by omega)
    clear f10
    obtain ⟨a0, a1⟩ := amt_bd2 (a := a) (x := dg n k) ha ha' d0 (by omega)
    go_enter Try.func70, Try.ntmps70
    go_wp2_with fail
    go_quiet ((first | (go_at_call 71; exact quiet_left (rdigits_any _ _ _ (by omega) (by omega) (by omega))) | (go_at_call 18; exact quiet_left (rround_any _ _ _ _ (by omega) (by omega) (by omega) (by omega) (by omega) (by omega)))))
    go_wp2
    go_ret
    exact ⟨ret_int (by unfold FP; rw [if_pos rfl]; rfl), _, rfl⟩
  · obtain ⟨a0, a1⟩ := amt_bd2 (a := a) (x := k) ha ha' k0 (by omega)
    go_enter Try.func70, Try.ntmps70
    go_wp2_with (go_at_call 18; refine (rround_any _ _ _ _ (by omega) (by omega) (by omega) (by omega) (by omega) (by omega)).mono ?_; rintro e w' ⟨rfl, rfl⟩)
    go_ret
    exact ⟨ret_int (by unfold FP; rw [if_neg hk]; rfl), 0, rfl⟩
theorem FP_bd (kind a : Int) (n : Nat) (ha : -1000000000000 ≤ a) (ha' : a ≤ 1000000000000) (hn : 1 ≤ n) (hn2 : n ≤ 40) (k : Nat) (k1 : k ≤ n) : -10000000000000000 ≤ FP kind a n k ∧ FP kind a n k ≤ 10000000000000000 := by
  unfold FP
  split
  · obtain ⟨d0, d1, -⟩ := dg_all n k (by omega) (by omega) (by omega)
    have d2 := (dg_all n n (by omega) (by omega) (by omega)).2.2.2.2.2.2.2.2.2.2 (by omega)
    obtain ⟨a0, a1⟩ := amt_bd2 (a := a) (x := dg n k) (by omega) (by omega) d0 (by omega)
    have := rnd_bd (M := 1640000000000000) (x := a * dg n k) (d := dg n n) 2 d2 (by omega) (by omega) (by omega)
    unfold FD
    omega
  · obtain ⟨a0, a1⟩ := amt_bd2 (a := a) (x := k) (by omega) (by omega) (by omega) (by omega)
    have := rnd_bd (M := 1640000000000000) (x := a * k) (d := n) 2 (by omega) (by omega) (by omega) (by omega)
    unfold FS
    omega
theorem eg_parts1 : ∀ args w, (callFunc 70 args).run Try.prog w = .ok (.enter 70 args) w := enters_of Try.func70 (by kernel_rfl) rfl
set_option maxHeartbeats 1600000 in
theorem rparts_any (key : ByteArray) (kind day amt : Int) (n : Nat) (deb cre : ByteArray) (w : World) (ha : -1000000000000 ≤ amt) (ha' : amt ≤ 1000000000000) (hn : 1 ≤ n) (hn2 : n ≤ 40) :
    Calls Try.prog 26 #[planV key kind day amt n deb cre] w fun e w' => ∃ v, e = .returned v ∧ OwnI w' w.heap.size v (steps (FP kind amt n) n) ∧ Below w.heap.size w w' := by
  have hmf := hmf_
  go_enter Try.func26, Try.ntmps26
  go_wp2_with fail
  refine (parted_any n 70 _ (FP kind amt n) _ (by omega) (fun k hk => FP_bd kind amt n ha ha' hn hn2 k hk) eg_parts1 (fun k w' k0 k1 hb => ?_)).mono ?_
  · refine (rparts1_any kind amt k n w.heap.size w' ha ha' hn hn2 k0 k1 ?_ ?_ ?_).mono ?_
    · rw [hb.cell (p := ⟨w.heap.size, 1, none⟩) (by simp)]; simp
    · rw [hb.cell (p := ⟨w.heap.size, 3, none⟩) (by simp)]; simp
    · rw [hb.cell (p := ⟨w.heap.size, 4, none⟩) (by simp)]; simp
    · rintro e w'' ⟨rfl, j, rfl⟩
      exact ⟨rfl, below_drewN (Below.refl _ _) j⟩
  · rintro e w1 ⟨v, rfl, hown, hB⟩
    have HO := Lib.hid hown
    have BB := Lib.hid hB
    clear hown hB
    go_wp2
    go_ret
    refine ⟨v, rfl, own_mono HO.out (by simp), below_via ?_ (by simp) BB.out⟩
    go_grown
end Go.Proofs.Ythndfckapbbbfaa
