/-
  Contracts: norm and Lowest; told and Told; Norm, Add.
-/
import Derived.Test.YthndfckapbbbfaaFracG
import Derived.StillTailTactics
namespace Go.Proofs.Ythndfckapbbbfaa
open Go.RowKit
set_option linter.unusedVariables false
/-- two ints, as the model holds them -/
abbrev fr (n d : Int) : Value := .agg #[.int .i64 n, .int .i64 d]
theorem qgcd_any (a b : Int) (w : World) (n : Nat) (ha : 0 ≤ a) (hb : 0 ≤ b) (ha' : a ≤ 4000000000000000000) (hb' : b ≤ 4000000000000000000) :
    Calls Try.prog 76 #[.int .i64 a, .int .i64 b] (w.drewN n) fun e w' => e = .returned (.int .i64 (Gcd.g a b)) ∧ ∃ m, w' = w.drewN m :=
  quiet_left (rgcd_any (a + b + 1).toNat a b _ ha hb ha' hb' (by omega))
set_option maxHeartbeats 800000 in
theorem norm_any (n d : Int) (w : World) (h0 : -4000000000000000000 ≤ n) (h1 : n ≤ 4000000000000000000) (h2 : 1 ≤ d) (h3 : d ≤ 4000000000000000000) :
    Calls Try.prog 72 #[fr n d] w fun e w' => e = .returned (fr (Gcd.ln n d) (Gcd.ld n d)) ∧ Below w.heap.size w w' := by
  have g1 := Gcd.g_pos (n := n) h2
  have g2 := Gcd.g_le (n := n) h2
  have ga : Gcd.g n.natAbs d = Gcd.g n d := Gcd.g_abs n d
  have q1 := Gcd.ln_bd (n := n) (d := d) (M := 4000000000000000000) h2 h0 h1
  have q2 := Gcd.ld_bd (n := n) h2
  have L1 := Lib.hid (show n.tdiv (Gcd.g n d) = Gcd.ln n d from rfl)
  have L2 := Lib.hid (show d / (Gcd.g n d) = Gcd.ld n d from rfl)
  go_enter Try.func72, Try.ntmps72
  go_wp2_with fail
  go_quiet ((first
    | (go_at_call 74; exact quiet_left (abs_any _ _ (by omega) (by omega)))
    | (go_at_call 98; exact quiet_drew (gcd_any _ _ _ (by omega) (by omega) (by omega) (by omega)))))
  go_wp2
  rw [ga]
  go_region
  go_wp2
  refine bodyPost_ret (v := fr (Gcd.ln n d) (Gcd.ld n d)) ?_ rfl ⟨rfl, ?_⟩
  · simp [results, Try.results72, go_sem]
    exact ⟨L1.out, L2.out⟩
  · (repeat' (first | (with_reducible exact Below.refl _ _) | (with_reducible assumption) | (with_reducible refine Below.alloc ?_ ?_ _) | (with_reducible refine Below.drew ?_) | (with_reducible refine below_drewN ?_ _) | (with_reducible refine Below.setCell ?_ ?_ _) | go_size))
set_option maxHeartbeats 800000 in
theorem lowest_any (n d : Int) (w : World) (h0 : -4000000000000000000 ≤ n) (h1 : n ≤ 4000000000000000000) (h2 : 1 ≤ d) (h3 : d ≤ 4000000000000000000) :
    Calls Try.prog 31 #[fr n d] w fun e w' => e = .returned (fr (Gcd.ln n d) (Gcd.ld n d)) ∧ Below w.heap.size w w' := by
  have g1 := Gcd.g_pos (n := n) h2
  have g2 := Gcd.g_le (n := n) h2
  have ga : Gcd.g n.natAbs d = Gcd.g n d := Gcd.g_abs n d
  have q1 := Gcd.ln_bd (n := n) (d := d) (M := 4000000000000000000) h2 h0 h1
  have q2 := Gcd.ld_bd (n := n) h2
  have L1 := Lib.hid (show n.tdiv (Gcd.g n d) = Gcd.ln n d from rfl)
  have L2 := Lib.hid (show d / (Gcd.g n d) = Gcd.ld n d from rfl)
  go_enter Try.func31, Try.ntmps31
  go_wp2_with fail
  go_quiet ((first
    | (go_at_call 77; exact quiet_left (rabs_any _ _ (by omega) (by omega)))
    | (go_at_call 76; exact (qgcd_any _ _ _ _ (by omega) (by omega) (by omega) (by omega)))))
  go_wp2
  rw [ga]
  go_region
  go_wp2
  refine bodyPost_ret (v := fr (Gcd.ln n d) (Gcd.ld n d)) ?_ rfl ⟨rfl, ?_⟩
  · simp [results, Try.results31, go_sem]
    exact ⟨L1.out, L2.out⟩
  · (repeat' (first | (with_reducible exact Below.refl _ _) | (with_reducible assumption) | (with_reducible refine Below.alloc ?_ ?_ _) | (with_reducible refine Below.drew ?_) | (with_reducible refine below_drewN ?_ _) | (with_reducible refine Below.setCell ?_ ?_ _) | go_size))
theorem cells22 {w w1 : World} {a b c d : Value} {t t' : TypeId} (hb : Below ((w.alloc (.cells #[a, b] t)).alloc (.cells #[c, d] t')).heap.size ((w.alloc (.cells #[a, b] t)).alloc (.cells #[c, d] t')) w1) :
    (w1.cell? ⟨w.heap.size, 0, none⟩ = some a ∧ w1.cell? ⟨w.heap.size, 1, none⟩ = some b ∧ w1.cell? ⟨w.heap.size + 1, 0, none⟩ = some c ∧ w1.cell? ⟨w.heap.size + 1, 1, none⟩ = some d) ∧
    w1.frozen? ⟨w.heap.size, 0, none⟩ = false ∧ w1.frozen? ⟨w.heap.size, 1, none⟩ = false ∧ w1.frozen? ⟨w.heap.size + 1, 0, none⟩ = false ∧ w1.frozen? ⟨w.heap.size + 1, 1, none⟩ = false := by
  obtain ⟨hc, hf⟩ := bcell hb
  refine ⟨⟨?_, ?_, ?_, ?_⟩, ?_, ?_, ?_, ?_⟩
  · rw [hc _ _ (by simp; omega)]; simp
  · rw [hc _ _ (by simp; omega)]; simp
  · rw [hc _ _ (by simp)]; simp
  · rw [hc _ _ (by simp)]; simp
  · rw [hf _ _ (by simp; omega)]; simp
  · rw [hf _ _ (by simp; omega)]; simp
  · rw [hf _ _ (by simp)]; simp
  · rw [hf _ _ (by simp)]; simp
/-- what told answers -/
def tl (n d : Int) : Int × Int × Int := if chk (Gcd.ln n d) (Gcd.ld n d) = 0 then (Gcd.ln n d, Gcd.ld n d, 0) else (0, 0, 2)
abbrev told3 (t : Int × Int × Int) : Value := .tuple #[fr t.1 t.2.1, .int .i64 t.2.2]
set_option maxHeartbeats 800000 in
theorem told_any (n d : Int) (w : World) (h0 : -4000000000000000000 ≤ n) (h1 : n ≤ 4000000000000000000) (h2 : 1 ≤ d) (h3 : d ≤ 4000000000000000000) :
    Calls Try.prog 73 #[fr n d] w fun e w' => e = .returned (told3 (tl n d)) ∧ Below w.heap.size w w' := by
  obtain ⟨q1, q2⟩ := Gcd.ln_bd (n := n) (d := d) (M := 4000000000000000000) h2 h0 h1
  obtain ⟨q3, q4⟩ := Gcd.ld_bd (n := n) h2
  by_cases hc : chk (Gcd.ln n d) (Gcd.ld n d) = 0
  · have T := Lib.hid (show tl n d = (Gcd.ln n d, Gcd.ld n d, 0) from by unfold tl; rw [if_pos hc])
    obtain ⟨c0, c1, c2, c3⟩ := of_chk hc
    have b := inB_t c0 c1
    rw [T.out]
    clear hc
    go_enter Try.func73, Try.ntmps73
    go_wp2_with (first
      | (go_at_call 72; refine (norm_any _ _ _ h0 h1 h2 h3).mono ?_; rintro e w1 ⟨rfl, hb⟩; obtain ⟨⟨k0, k1, k2, k3⟩, f0, f1, f2, f3⟩ := cells22 hb; have BB := Lib.hid hb; have z1 := hb.size; clear hb; simp only [World.size_alloc] at z1)
      | (go_at_call 75; refine (bounded_any _ _).mono ?_; rintro e w' ⟨rfl, rfl⟩))
    all_goals
      have hB : Below w.heap.size w w1 := below_via (by (repeat' (first | (with_reducible exact Below.refl _ _) | (with_reducible assumption) | (with_reducible refine Below.alloc ?_ ?_ _) | (with_reducible refine Below.drew ?_) | (with_reducible refine below_drewN ?_ _) | (with_reducible refine Below.setCell ?_ ?_ _) | go_size))) (by go_size) BB.out
      refine bodyPost_ret (v := told3 (Gcd.ln n d, Gcd.ld n d, 0)) (by simp [results, Try.results73, go_sem, *]) rfl ⟨rfl, ?_⟩
      (repeat' (first | (with_reducible exact Below.refl _ _) | (with_reducible assumption) | (with_reducible refine Below.alloc ?_ ?_ _) | (with_reducible refine Below.drew ?_) | (with_reducible refine below_drewN ?_ _) | (with_reducible refine Below.setCell ?_ ?_ _) | go_size))
  · have T := Lib.hid (show tl n d = (0, 0, 2) from by unfold tl; rw [if_neg hc])
    rw [T.out]
    by_cases hi : -1000000000000 ≤ Gcd.ln n d ∧ Gcd.ln n d ≤ 1000000000000
    · have b := inB_t hi.1 hi.2
      have c3 : 1000000 < Gcd.ld n d := by
        by_cases h : 1000000 < Gcd.ld n d
        · exact h
        · exact absurd (chk_ok hi.1 hi.2 q3 (by omega)) hc
      have c4 : decide (Gcd.ld n d > 1000000) = true := by simp; omega
      clear hc hi
      go_enter Try.func73, Try.ntmps73
      go_wp2_with (first
        | (go_at_call 72; refine (norm_any _ _ _ h0 h1 h2 h3).mono ?_; rintro e w1 ⟨rfl, hb⟩; obtain ⟨⟨k0, k1, k2, k3⟩, f0, f1, f2, f3⟩ := cells22 hb; have BB := Lib.hid hb; have z1 := hb.size; clear hb; simp only [World.size_alloc] at z1)
        | (go_at_call 75; refine (bounded_any _ _).mono ?_; rintro e w' ⟨rfl, rfl⟩))
      all_goals
        have hB : Below w.heap.size w w1 := below_via (by (repeat' (first | (with_reducible exact Below.refl _ _) | (with_reducible assumption) | (with_reducible refine Below.alloc ?_ ?_ _) | (with_reducible refine Below.drew ?_) | (with_reducible refine below_drewN ?_ _) | (with_reducible refine Below.setCell ?_ ?_ _) | go_size))) (by go_size) BB.out
        refine bodyPost_ret (v := told3 (0, 0, 2)) (by simp [results, Try.results73, go_sem, *]) rfl ⟨rfl, ?_⟩
        (repeat' (first | (with_reducible exact Below.refl _ _) | (with_reducible assumption) | (with_reducible refine Below.alloc ?_ ?_ _) | (with_reducible refine Below.drew ?_) | (with_reducible refine below_drewN ?_ _) | (with_reducible refine Below.setCell ?_ ?_ _) | go_size))

    · have b : inB (Gcd.ln n d) (-1000000000000) 1000000000000 = false := inB_f (by omega)
      clear hc hi
      go_enter Try.func73, Try.ntmps73
      go_wp2_with (first
        | (go_at_call 72; refine (norm_any _ _ _ h0 h1 h2 h3).mono ?_; rintro e w1 ⟨rfl, hb⟩; obtain ⟨⟨k0, k1, k2, k3⟩, f0, f1, f2, f3⟩ := cells22 hb; have BB := Lib.hid hb; have z1 := hb.size; clear hb; simp only [World.size_alloc] at z1)
        | (go_at_call 75; refine (bounded_any _ _).mono ?_; rintro e w' ⟨rfl, rfl⟩))
      all_goals
        have hB : Below w.heap.size w w1 := below_via (by (repeat' (first | (with_reducible exact Below.refl _ _) | (with_reducible assumption) | (with_reducible refine Below.alloc ?_ ?_ _) | (with_reducible refine Below.drew ?_) | (with_reducible refine below_drewN ?_ _) | (with_reducible refine Below.setCell ?_ ?_ _) | go_size))) (by go_size) BB.out
        refine bodyPost_ret (v := told3 (0, 0, 2)) (by simp [results, Try.results73, go_sem, *]) rfl ⟨rfl, ?_⟩
        (repeat' (first | (with_reducible exact Below.refl _ _) | (with_reducible assumption) | (with_reducible refine Below.alloc ?_ ?_ _) | (with_reducible refine Below.drew ?_) | (with_reducible refine below_drewN ?_ _) | (with_reducible refine Below.setCell ?_ ?_ _) | go_size))
end Go.Proofs.Ythndfckapbbbfaa
