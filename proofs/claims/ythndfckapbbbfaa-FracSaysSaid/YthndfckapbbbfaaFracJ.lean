/-
  Contracts: frac.Norm, frac.Add.
-/
import Derived.Test.YthndfckapbbbfaaFracI
namespace Go.Proofs.Ythndfckapbbbfaa
open Go.RowKit
set_option linter.unusedVariables false
set_option maxHeartbeats 800000 in
theorem fnorm_ok (n d : Int) (w : World) (h : chk n d = 0) :
    Calls Try.prog 27 #[fr n d] w fun e w' => e = .returned (.tuple #[fr (Gcd.ln n d) (Gcd.ld n d), .int .i64 0]) ∧ Below w.heap.size w w' := by
  obtain ⟨a0, a1, a2, a3⟩ := of_chk h
  have C := check_any n d
  rw [h] at C
  have CC := Lib.hid C
  clear C h
  go_enter Try.func27, Try.ntmps27
  go_wp2_with (first
    | (go_at_call 30; refine (CC.out _).mono ?_; rintro e w1 ⟨rfl, rfl⟩))
  refine (norm_any _ _ _ (by omega) (by omega) (by omega) (by omega)).mono ?_
  rintro e w2 ⟨rfl, hb2⟩
  obtain ⟨hc2, hf2⟩ := bcell hb2
  have m2 : w2.cell? ⟨w.heap.size + 1, 0, none⟩ = some (.int .i64 0) := by rw [hc2 _ _ (by go_size), cellO _ (by go_size)]; go_side
  have m3 : w2.cell? ⟨w.heap.size + 1, 1, none⟩ = some (.int .i64 0) := by rw [hc2 _ _ (by go_size), cellO _ (by go_size)]; go_side
  have n2 : w2.frozen? ⟨w.heap.size + 1, 0, none⟩ = false := by rw [hf2 _ _ (by go_size), frozenO _ (by go_size)]; go_side
  have n3 : w2.frozen? ⟨w.heap.size + 1, 1, none⟩ = false := by rw [hf2 _ _ (by go_size), frozenO _ (by go_size)]; go_side
  have hB2 : Below w.heap.size w w2 := below_via (by (repeat' (first | (with_reducible exact Below.refl _ _) | (with_reducible assumption) | (with_reducible refine Below.alloc ?_ ?_ _) | (with_reducible refine Below.drew ?_) | (with_reducible refine below_drewN ?_ _) | (with_reducible refine Below.setCell ?_ ?_ _) | go_size))) (by go_size) hb2
  clear hc2 hf2 hb2
  go_wp2
  refine bodyPost_ret (v := .tuple #[fr (Gcd.ln n d) (Gcd.ld n d), .int .i64 0]) (by simp [results, Try.results27, go_sem, *]) rfl ⟨rfl, ?_⟩
  (repeat' (first | (with_reducible exact Below.refl _ _) | (with_reducible assumption) | (with_reducible refine Below.alloc ?_ ?_ _) | (with_reducible refine Below.drew ?_) | (with_reducible refine below_drewN ?_ _) | (with_reducible refine Below.setCell ?_ ?_ _) | go_size))
set_option maxHeartbeats 800000 in
theorem fnorm_bad (n d E : Int) (w : World) (hE : chk n d = E) (h : E ≠ 0) :
    Calls Try.prog 27 #[fr n d] w fun e w' => e = .returned (.tuple #[fr 0 0, .int .i64 E]) ∧ Below w.heap.size w w' := by
  have z : (E == 0) = false := by simpa using h
  have C := check_any n d
  rw [hE] at C
  have CC := Lib.hid C
  clear C hE
  go_enter Try.func27, Try.ntmps27
  go_wp2_with (first
    | (go_at_call 30; refine (CC.out _).mono ?_; rintro e w1 ⟨rfl, rfl⟩))
  refine bodyPost_ret (v := .tuple #[fr 0 0, .int .i64 E]) (by simp [results, Try.results27, go_sem, *]) rfl ⟨rfl, ?_⟩
  (repeat' (first | (with_reducible exact Below.refl _ _) | (with_reducible assumption) | (with_reducible refine Below.alloc ?_ ?_ _) | (with_reducible refine Below.drew ?_) | (with_reducible refine below_drewN ?_ _) | (with_reducible refine Below.setCell ?_ ?_ _) | go_size))
theorem prod_bd {a x : Int} (h0 : -1000000000000 ≤ a) (h1 : a ≤ 1000000000000) (h2 : 1 ≤ x) (h3 : x ≤ 1000000) : -1000000000000000000 ≤ a * x ∧ a * x ≤ 1000000000000000000 := by
  have k1 : a * x ≤ 1000000000000 * x := Int.mul_le_mul_of_nonneg_right h1 (by omega)
  have k2 : -1000000000000 * x ≤ a * x := Int.mul_le_mul_of_nonneg_right h0 (by omega)
  omega
theorem den_bd {d c : Int} (h0 : 1 ≤ d) (h1 : d ≤ 1000000) (h2 : 1 ≤ c) (h3 : c ≤ 1000000) : 1 ≤ d * c ∧ d * c ≤ 1000000000000 := by
  have k1 : d * c ≤ 1000000 * c := Int.mul_le_mul_of_nonneg_right h1 (by omega)
  have k2 : 1 * c ≤ d * c := Int.mul_le_mul_of_nonneg_right h0 (by omega)
  omega
set_option maxHeartbeats 1600000 in
theorem fadd_ok (n d m c : Int) (w : World) (h1 : chk n d = 0) (h2 : chk m c = 0) :
    Calls Try.prog 28 #[fr n d, fr m c] w fun e w' => e = .returned (told3 (tl (n * c + m * d) (d * c))) ∧ Below w.heap.size w w' := by
  obtain ⟨a0, a1, a2, a3⟩ := of_chk h1
  obtain ⟨b0, b1, b2, b3⟩ := of_chk h2
  have C := two_any n d m c
  rw [chk2_t h1, h2] at C
  have CC := Lib.hid C
  clear C h1 h2
  obtain ⟨p0, p1⟩ := prod_bd a0 a1 b2 b3
  obtain ⟨p2, p3⟩ := prod_bd b0 b1 a2 a3
  obtain ⟨p4, p5⟩ := den_bd a2 a3 b2 b3
  have TT := Lib.hid (fun W => told_any (n * c + m * d) (d * c) W (by omega) (by omega) (by omega) (by omega))
  go_enter Try.func28, Try.ntmps28
  go_wp2_with fail
  refine (CC.out _).mono ?_
  rintro e w1 ⟨rfl, hb1⟩
  obtain ⟨hc1, hf1⟩ := bcell hb1
  have k0 : w1.cell? ⟨w.heap.size, 0, none⟩ = some (.int .i64 n) := by rw [hc1 _ _ (by go_size)]; go_side
  have k1 : w1.cell? ⟨w.heap.size, 1, none⟩ = some (.int .i64 d) := by rw [hc1 _ _ (by go_size)]; go_side
  have k2 : w1.cell? ⟨w.heap.size + 1, 0, none⟩ = some (.int .i64 m) := by rw [hc1 _ _ (by go_size)]; go_side
  have k3 : w1.cell? ⟨w.heap.size + 1, 1, none⟩ = some (.int .i64 c) := by rw [hc1 _ _ (by go_size)]; go_side
  have k4 : w1.cell? ⟨w.heap.size + 2, 0, none⟩ = some (.int .i64 0) := by rw [hc1 _ _ (by go_size)]; go_side
  have k5 : w1.cell? ⟨w.heap.size + 2, 1, none⟩ = some (.int .i64 0) := by rw [hc1 _ _ (by go_size)]; go_side
  have f4 : w1.frozen? ⟨w.heap.size + 2, 0, none⟩ = false := by rw [hf1 _ _ (by go_size)]; go_side
  have f5 : w1.frozen? ⟨w.heap.size + 2, 1, none⟩ = false := by rw [hf1 _ _ (by go_size)]; go_side
  have hB1 : Below w.heap.size w w1 := below_via (by (repeat' (first | (with_reducible exact Below.refl _ _) | (with_reducible assumption) | (with_reducible refine Below.alloc ?_ ?_ _) | (with_reducible refine Below.drew ?_) | (with_reducible refine below_drewN ?_ _) | (with_reducible refine Below.setCell ?_ ?_ _) | go_size))) (by go_size) hb1
  have z1 := hb1.size
  simp only [World.size_alloc] at z1
  clear hc1 hf1 hb1
  go_wp2_with fail
  refine (TT.out _).mono ?_
  rintro e w2 ⟨rfl, hb2⟩
  obtain ⟨hc2, hf2⟩ := bcell hb2
  have m2 : w2.cell? ⟨w.heap.size + 2, 0, none⟩ = some (.int .i64 0) := by rw [hc2 _ _ (by go_size)]; exact k4
  have m3 : w2.cell? ⟨w.heap.size + 2, 1, none⟩ = some (.int .i64 0) := by rw [hc2 _ _ (by go_size)]; exact k5
  have n2 : w2.frozen? ⟨w.heap.size + 2, 0, none⟩ = false := by rw [hf2 _ _ (by go_size)]; exact f4
  have n3 : w2.frozen? ⟨w.heap.size + 2, 1, none⟩ = false := by rw [hf2 _ _ (by go_size)]; exact f5
  have hB2 : Below w.heap.size w w2 := below_via hB1 (by go_size) hb2
  clear hc2 hf2 hb2
  go_wp2
  refine bodyPost_ret (v := told3 (tl (n * c + m * d) (d * c))) (by simp [results, Try.results28, go_sem, *]) rfl ⟨rfl, ?_⟩
  (repeat' (first | (with_reducible exact Below.refl _ _) | (with_reducible assumption) | (with_reducible refine Below.alloc ?_ ?_ _) | (with_reducible refine Below.drew ?_) | (with_reducible refine below_drewN ?_ _) | (with_reducible refine Below.setCell ?_ ?_ _) | go_size))
set_option maxHeartbeats 800000 in
theorem fadd_bad (n d m c E : Int) (w : World) (hE : chk2 n d m c = E) (h : E ≠ 0) :
    Calls Try.prog 28 #[fr n d, fr m c] w fun e w' => e = .returned (told3 (0, 0, E)) ∧ Below w.heap.size w w' := by
  have z : (E == 0) = false := by simpa using h
  have C := two_any n d m c
  rw [hE] at C
  have CC := Lib.hid C
  clear C hE
  go_enter Try.func28, Try.ntmps28
  go_wp2_with fail
  refine (CC.out _).mono ?_
  rintro e w1 ⟨rfl, hb1⟩
  obtain ⟨hc1, hf1⟩ := bcell hb1
  have k4 : w1.cell? ⟨w.heap.size + 2, 0, none⟩ = some (.int .i64 0) := by rw [hc1 _ _ (by go_size)]; go_side
  have k5 : w1.cell? ⟨w.heap.size + 2, 1, none⟩ = some (.int .i64 0) := by rw [hc1 _ _ (by go_size)]; go_side
  have f4 : w1.frozen? ⟨w.heap.size + 2, 0, none⟩ = false := by rw [hf1 _ _ (by go_size)]; go_side
  have f5 : w1.frozen? ⟨w.heap.size + 2, 1, none⟩ = false := by rw [hf1 _ _ (by go_size)]; go_side
  have hB1 : Below w.heap.size w w1 := below_via (by (repeat' (first | (with_reducible exact Below.refl _ _) | (with_reducible assumption) | (with_reducible refine Below.alloc ?_ ?_ _) | (with_reducible refine Below.drew ?_) | (with_reducible refine below_drewN ?_ _) | (with_reducible refine Below.setCell ?_ ?_ _) | go_size))) (by go_size) hb1
  clear hc1 hf1 hb1
  go_wp2_with fail
  refine bodyPost_ret (v := told3 (0, 0, E)) (by simp [results, Try.results28, go_sem, *]) rfl ⟨rfl, ?_⟩
  (repeat' (first | (with_reducible exact Below.refl _ _) | (with_reducible assumption) | (with_reducible refine Below.alloc ?_ ?_ _) | (with_reducible refine Below.drew ?_) | (with_reducible refine below_drewN ?_ _) | (with_reducible refine Below.setCell ?_ ?_ _) | go_size))
set_option maxHeartbeats 800000 in
theorem fmul_bad (n d m c E : Int) (w : World) (hE : chk2 n d m c = E) (h : E ≠ 0) :
    Calls Try.prog 29 #[fr n d, fr m c] w fun e w' => e = .returned (told3 (0, 0, E)) ∧ Below w.heap.size w w' := by
  have z : (E == 0) = false := by simpa using h
  have C := two_any n d m c
  rw [hE] at C
  have CC := Lib.hid C
  clear C hE
  go_enter Try.func29, Try.ntmps29
  go_wp2_with fail
  refine (CC.out _).mono ?_
  rintro e w1 ⟨rfl, hb1⟩
  obtain ⟨hc1, hf1⟩ := bcell hb1
  have k4 : w1.cell? ⟨w.heap.size + 2, 0, none⟩ = some (.int .i64 0) := by rw [hc1 _ _ (by go_size)]; go_side
  have k5 : w1.cell? ⟨w.heap.size + 2, 1, none⟩ = some (.int .i64 0) := by rw [hc1 _ _ (by go_size)]; go_side
  have f4 : w1.frozen? ⟨w.heap.size + 2, 0, none⟩ = false := by rw [hf1 _ _ (by go_size)]; go_side
  have f5 : w1.frozen? ⟨w.heap.size + 2, 1, none⟩ = false := by rw [hf1 _ _ (by go_size)]; go_side
  have hB1 : Below w.heap.size w w1 := below_via (by (repeat' (first | (with_reducible exact Below.refl _ _) | (with_reducible assumption) | (with_reducible refine Below.alloc ?_ ?_ _) | (with_reducible refine Below.drew ?_) | (with_reducible refine below_drewN ?_ _) | (with_reducible refine Below.setCell ?_ ?_ _) | go_size))) (by go_size) hb1
  clear hc1 hf1 hb1
  go_wp2_with fail
  refine bodyPost_ret (v := told3 (0, 0, E)) (by simp [results, Try.results29, go_sem, *]) rfl ⟨rfl, ?_⟩
  (repeat' (first | (with_reducible exact Below.refl _ _) | (with_reducible assumption) | (with_reducible refine Below.alloc ?_ ?_ _) | (with_reducible refine Below.drew ?_) | (with_reducible refine below_drewN ?_ _) | (with_reducible refine Below.setCell ?_ ?_ _) | go_size))
end Go.Proofs.Ythndfckapbbbfaa
