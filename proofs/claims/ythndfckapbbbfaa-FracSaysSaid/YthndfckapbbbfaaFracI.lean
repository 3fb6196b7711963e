/-
  Contracts: talref.Told; frac.Norm, frac.Add.
-/
import Derived.Test.YthndfckapbbbfaaFracH
import Derived.Test.YthndfckapbbbfaaCell
namespace Go.Proofs.Ythndfckapbbbfaa
open Go.RowKit
set_option linter.unusedVariables false
set_option maxHeartbeats 800000 in
theorem rtold_any (n d : Int) (w : World) (h0 : -4000000000000000000 ≤ n) (h1 : n ≤ 4000000000000000000) (h2 : 1 ≤ d) (h3 : d ≤ 4000000000000000000) :
    Calls Try.prog 32 #[fr n d] w fun e w' => e = .returned (told3 (tl n d)) ∧ Below w.heap.size w w' := by
  by_cases hc : chk (Gcd.ln n d) (Gcd.ld n d) = 0
  · have T := Lib.hid (show tl n d = (Gcd.ln n d, Gcd.ld n d, 0) from by unfold tl; rw [if_pos hc])
    have R := rfrac1 (Gcd.ln n d) (Gcd.ld n d)
    rw [hc] at R
    have RR := Lib.hid R
    rw [T.out]
    clear hc R
    go_enter Try.func32, Try.ntmps32
    go_wp2_with (go_at_call 31; refine (lowest_any _ _ _ h0 h1 h2 h3).mono ?_; rintro e w1 ⟨rfl, hb⟩; obtain ⟨⟨k0, k1, k2, k3⟩, f0, f1, f2, f3⟩ := cells22 hb; have BB := Lib.hid hb; have z1 := hb.size; clear hb; simp only [World.size_alloc] at z1)
    refine (RR.out _ _ (by go_size) (by go_side) (by go_side)).mono ?_
    rintro e w2 ⟨rfl, hb2⟩
    obtain ⟨hc2, hf2⟩ := bcell hb2
    have m0 : w2.cell? ⟨w.heap.size, 0, none⟩ = some (.int .i64 (Gcd.ln n d)) := by rw [hc2 _ _ (by go_size), cellO _ (by go_size)]; go_side
    have m1 : w2.cell? ⟨w.heap.size, 1, none⟩ = some (.int .i64 (Gcd.ld n d)) := by rw [hc2 _ _ (by go_size), cellO _ (by go_size)]; go_side
    have m2 : w2.cell? ⟨w.heap.size + 1, 0, none⟩ = some (.int .i64 0) := by rw [hc2 _ _ (by go_size), cellO _ (by go_size)]; go_side
    have m3 : w2.cell? ⟨w.heap.size + 1, 1, none⟩ = some (.int .i64 0) := by rw [hc2 _ _ (by go_size), cellO _ (by go_size)]; go_side
    have n2 : w2.frozen? ⟨w.heap.size + 1, 0, none⟩ = false := by rw [hf2 _ _ (by go_size), frozenO _ (by go_size)]; go_side
    have n3 : w2.frozen? ⟨w.heap.size + 1, 1, none⟩ = false := by rw [hf2 _ _ (by go_size), frozenO _ (by go_size)]; go_side
    have hB : Below w.heap.size w w1 := below_via (by (repeat' (first | (with_reducible exact Below.refl _ _) | (with_reducible assumption) | (with_reducible refine Below.alloc ?_ ?_ _) | (with_reducible refine Below.drew ?_) | (with_reducible refine below_drewN ?_ _) | (with_reducible refine Below.setCell ?_ ?_ _) | go_size))) (by go_size) BB.out
    have hB2 : Below w.heap.size w w2 := below_via (by (repeat' (first | (with_reducible exact Below.refl _ _) | (with_reducible assumption) | (with_reducible refine Below.alloc ?_ ?_ _) | (with_reducible refine Below.drew ?_) | (with_reducible refine below_drewN ?_ _) | (with_reducible refine Below.setCell ?_ ?_ _) | go_size))) (by go_size) hb2
    clear hc2 hf2 hb2 k0 k1 k2 k3 f0 f1 f2 f3
    go_wp2
    refine bodyPost_ret (v := told3 (Gcd.ln n d, Gcd.ld n d, 0)) (by simp [results, Try.results32, go_sem, *]) rfl ⟨rfl, ?_⟩
    (repeat' (first | (with_reducible exact Below.refl _ _) | (with_reducible assumption) | (with_reducible refine Below.alloc ?_ ?_ _) | (with_reducible refine Below.drew ?_) | (with_reducible refine below_drewN ?_ _) | (with_reducible refine Below.setCell ?_ ?_ _) | go_size))
  · have T := Lib.hid (show tl n d = (0, 0, 2) from by unfold tl; rw [if_neg hc])
    have RR := Lib.hid (rfrac1 (Gcd.ln n d) (Gcd.ld n d))
    have z : (chk (Gcd.ln n d) (Gcd.ld n d) == 0) = false := by simpa using hc
    generalize chk (Gcd.ln n d) (Gcd.ld n d) = E at *
    rw [T.out]
    go_enter Try.func32, Try.ntmps32
    go_wp2_with (go_at_call 31; refine (lowest_any _ _ _ h0 h1 h2 h3).mono ?_; rintro e w1 ⟨rfl, hb⟩; obtain ⟨⟨k0, k1, k2, k3⟩, f0, f1, f2, f3⟩ := cells22 hb; have BB := Lib.hid hb; have z1 := hb.size; clear hb; simp only [World.size_alloc] at z1)
    refine (RR.out _ _ (by go_size) (by go_side) (by go_side)).mono ?_
    rintro e w2 ⟨rfl, hb2⟩
    obtain ⟨hc2, hf2⟩ := bcell hb2
    have m0 : w2.cell? ⟨w.heap.size, 0, none⟩ = some (.int .i64 (Gcd.ln n d)) := by rw [hc2 _ _ (by go_size), cellO _ (by go_size)]; go_side
    have m1 : w2.cell? ⟨w.heap.size, 1, none⟩ = some (.int .i64 (Gcd.ld n d)) := by rw [hc2 _ _ (by go_size), cellO _ (by go_size)]; go_side
    have m2 : w2.cell? ⟨w.heap.size + 1, 0, none⟩ = some (.int .i64 0) := by rw [hc2 _ _ (by go_size), cellO _ (by go_size)]; go_side
    have m3 : w2.cell? ⟨w.heap.size + 1, 1, none⟩ = some (.int .i64 0) := by rw [hc2 _ _ (by go_size), cellO _ (by go_size)]; go_side
    have n2 : w2.frozen? ⟨w.heap.size + 1, 0, none⟩ = false := by rw [hf2 _ _ (by go_size), frozenO _ (by go_size)]; go_side
    have n3 : w2.frozen? ⟨w.heap.size + 1, 1, none⟩ = false := by rw [hf2 _ _ (by go_size), frozenO _ (by go_size)]; go_side
    have hB : Below w.heap.size w w1 := below_via (by (repeat' (first | (with_reducible exact Below.refl _ _) | (with_reducible assumption) | (with_reducible refine Below.alloc ?_ ?_ _) | (with_reducible refine Below.drew ?_) | (with_reducible refine below_drewN ?_ _) | (with_reducible refine Below.setCell ?_ ?_ _) | go_size))) (by go_size) BB.out
    have hB2 : Below w.heap.size w w2 := below_via (by (repeat' (first | (with_reducible exact Below.refl _ _) | (with_reducible assumption) | (with_reducible refine Below.alloc ?_ ?_ _) | (with_reducible refine Below.drew ?_) | (with_reducible refine below_drewN ?_ _) | (with_reducible refine Below.setCell ?_ ?_ _) | go_size))) (by go_size) hb2
    clear hc2 hf2 hb2 k0 k1 k2 k3 f0 f1 f2 f3
    go_wp2
    refine bodyPost_ret (v := told3 (0, 0, 2)) (by simp [results, Try.results32, go_sem, *]) rfl ⟨rfl, ?_⟩
    (repeat' (first | (with_reducible exact Below.refl _ _) | (with_reducible assumption) | (with_reducible refine Below.alloc ?_ ?_ _) | (with_reducible refine Below.drew ?_) | (with_reducible refine below_drewN ?_ _) | (with_reducible refine Below.setCell ?_ ?_ _) | go_size))
end Go.Proofs.Ythndfckapbbbfaa
