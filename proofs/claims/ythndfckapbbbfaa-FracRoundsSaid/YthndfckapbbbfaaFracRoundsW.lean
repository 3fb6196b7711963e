/-
  The walk of FracRounds: it returns true.
-/
import Derived.Test.YthndfckapbbbfaaFrac
namespace Go.Proofs.Ythndfckapbbbfaa
open Go.RowKit

set_option maxHeartbeats 1600000 in
theorem fr_ok_lt (n d m c way : Int) (w : World) (h1 : chk n d = 0) (hm : chk m c = 0) (hs : n * c < m * d) (h4 : 0 ≤ way) (h5 : way ≤ 3) :
    Calls Try.prog 5 #[.agg #[.int .i64 n, .int .i64 d], .agg #[.int .i64 m, .int .i64 c], .int .i64 way] w fun e w' => e = .returned (.bool true) ∧ Below w.heap.size w w' := by
  obtain ⟨a0, a1, a2, a3⟩ := of_chk h1
  obtain ⟨b0, b1, b2, b3⟩ := of_chk hm
  have h2 : chk2 n d m c = 0 := by rw [chk2_t h1, hm]
  have tc := fun w => cmp_ok n d m c w h1 hm
  rw [show cmp3 (n * c) (m * d) = -1 by unfold cmp3; rw [if_pos hs]] at tc
  obtain ⟨p0, p1⟩ := mul_bd a0 a1 (show 0 ≤ c by omega) b3
  obtain ⟨q0, q1⟩ := mul_bd b0 b1 (show 0 ≤ d by omega) a3
  have tr := fun w => fround_ok n d way w h1 h4 h5
  have t1 : ∀ (b : Nat) (w : World) (hb : b < w.heap.size) (c0 : w.cell? ⟨b, 0, none⟩ = some (.int .i64 n)) (c1 : w.cell? ⟨b, 1, none⟩ = some (.int .i64 d)),
    Calls Try.prog 21 #[.slice (some ⟨b, 0, none⟩) 1 1] w fun e w' => e = .returned (.int .i64 (0)) ∧ Below w.heap.size w w' := by
      intro b w hb c0 c1
      have := rfrac1 n d b w hb c0 c1
      rwa [h1] at this
  have t2 : ∀ (b : Nat) (w : World) (hb : b < w.heap.size) (c0 : w.cell? ⟨b, 0, none⟩ = some (.int .i64 n)) (c1 : w.cell? ⟨b, 1, none⟩ = some (.int .i64 d)) (c2 : w.cell? ⟨b, 2, none⟩ = some (.int .i64 m)) (c3 : w.cell? ⟨b, 3, none⟩ = some (.int .i64 c)),
    Calls Try.prog 21 #[.slice (some ⟨b, 0, none⟩) 2 2] w fun e w' => e = .returned (.int .i64 (0)) ∧ Below w.heap.size w w' := by
      intro b w hb c0 c1 c2 c3
      have := rfrac2 n d m c b w hb c0 c1 c2 c3
      rwa [h2] at this
  have T1 := Lib.hid t1
  have T2 := Lib.hid t2
  have C := Lib.hid tc
  have R := Lib.hid tr
  clear t1 t2 h1 h2 tc tr
  go_enter Try.func5, Try.ntmps5
  go_wp2_with (first
    | (go_at_call 19; refine (C.out _).mono ?_; rintro e w1 ⟨rfl, hb1⟩; obtain ⟨hc1, hf1⟩ := bcell hb1)
    | (go_at_call 20; refine (R.out _).mono ?_; rintro e w2 ⟨rfl, hb2⟩; obtain ⟨hc2, hf2⟩ := bcell hb2))
  have z1 := hb1.size
  have z2 := hb2.size
  simp only [World.size_alloc] at z1 z2
  have k0 : w2.cell? ⟨w.heap.size, 0, none⟩ = some (.int .i64 n) := by rw [hc2 _ _ (by omega), hc1 _ _ (by simp; omega)]; simp
  have k1 : w2.cell? ⟨w.heap.size, 1, none⟩ = some (.int .i64 d) := by rw [hc2 _ _ (by omega), hc1 _ _ (by simp; omega)]; simp
  have k2 : w2.cell? ⟨w.heap.size + 1, 0, none⟩ = some (.int .i64 m) := by rw [hc2 _ _ (by omega), hc1 _ _ (by simp)]; simp
  have k3 : w2.cell? ⟨w.heap.size + 1, 1, none⟩ = some (.int .i64 c) := by rw [hc2 _ _ (by omega), hc1 _ _ (by simp)]; simp
  have hB : Below w.heap.size w w2 := below_via (below_via (((Below.refl _ _).alloc (Nat.le_refl _) _).alloc (by simp) _) (by simp; omega) hb1) (by omega) hb2
  have hz : w.heap.size + 1 < w2.heap.size := by omega
  clear hb1 hb2 hc1 hf1 hc2 hf2 z1 z2
  go_region_held3 (fun w' => w'.cell? ⟨w.heap.size, 0, none⟩ = some (.int .i64 n) ∧ w'.cell? ⟨w.heap.size, 1, none⟩ = some (.int .i64 d) ∧ w'.cell? ⟨w.heap.size + 1, 0, none⟩ = some (.int .i64 m) ∧ w'.cell? ⟨w.heap.size + 1, 1, none⟩ = some (.int .i64 c))
    (first
      | (go_keep; done)
      | (go_split_ands; refine ⟨?_, ?_, ?_, ?_⟩ <;> first
        | (go_keep; done)
        | (rw [hc3 _ _ ?_]; (focus (go_keep; done)); (focus go_size))
        | (rw [hc4 _ _ ?_]; (focus (go_keep; done)); (focus go_size))))
    (first
      | (go_at_call 21; with_reducible refine (T1.out _ _ ?_ ?_ ?_).mono ?_; (focus go_side); (focus go_side); (focus go_side); rintro e w3 ⟨rfl, hb3⟩; obtain ⟨hc3, hf3⟩ := bcell hb3; have z3 := hb3.size; try simp at z3)
      | (go_at_call 21; with_reducible refine (T2.out _ _ ?_ ?_ ?_ ?_ ?_).mono ?_; (focus go_side); (focus go_side); (focus go_side); (focus go_side); (focus go_side); rintro e w4 ⟨rfl, hb4⟩; obtain ⟨hc4, hf4⟩ := bcell hb4; have z4 := hb4.size; try simp at z4))
  all_goals go_split_ands
  all_goals
      have hB4 : Below w.heap.size w w4 := by first
        | (refine below_via (Below.alloc (below_via (Below.drew (Below.alloc hB (by go_size) _)) (by go_size) hb3) (by go_size) _) (by go_size) hb4; done)
        | (refine below_via (below_via (Below.drew (Below.alloc (Below.alloc hB (by go_size) _) (by go_size) _)) (by go_size) hb3) (by go_size) hb4; done)
        | (refine below_via (Below.drew (below_via (Below.alloc (Below.alloc hB (by go_size) _) (by go_size) _) (by go_size) hb3)) (by go_size) hb4; done)
        | (repeat' (first | exact hB | (refine below_via ?_ ?_ hb4) | (refine below_via ?_ ?_ hb3) | refine Below.drew ?_ | refine Below.alloc ?_ ?_ _ | go_size); done)
      clear hc3 hf3 hc4 hf4 hb3 hb4 z3 z4 hB k0 k1 k2 k3
      go_wp2_with (first | (go_at_call 18; refine (rround_any _ _ _ _ (by omega) (by omega) (by omega) (by omega) h4 h5).mono ?_; rintro e w' ⟨rfl, rfl⟩))
      go_ret
      exact ⟨rfl, hB4⟩

set_option maxHeartbeats 1600000 in
theorem fr_way_lt (n d m c way : Int) (w : World) (h1 : chk n d = 0) (hm : chk m c = 0) (hs : n * c < m * d) (hw : way < 0 ∨ 3 < way) :
    Calls Try.prog 5 #[.agg #[.int .i64 n, .int .i64 d], .agg #[.int .i64 m, .int .i64 c], .int .i64 way] w fun e w' => e = .returned (.bool true) ∧ Below w.heap.size w w' := by
  obtain ⟨a0, a1, a2, a3⟩ := of_chk h1
  obtain ⟨b0, b1, b2, b3⟩ := of_chk hm
  have h2 : chk2 n d m c = 0 := by rw [chk2_t h1, hm]
  have tc := fun w => cmp_ok n d m c w h1 hm
  rw [show cmp3 (n * c) (m * d) = -1 by unfold cmp3; rw [if_pos hs]] at tc
  obtain ⟨p0, p1⟩ := mul_bd a0 a1 (show 0 ≤ c by omega) b3
  obtain ⟨q0, q1⟩ := mul_bd b0 b1 (show 0 ≤ d by omega) a3
  have tr := fun w => fround_way n d way w h1 hw
  rcases hw with hw | hw
  all_goals
    have t1 : ∀ (b : Nat) (w : World) (hb : b < w.heap.size) (c0 : w.cell? ⟨b, 0, none⟩ = some (.int .i64 n)) (c1 : w.cell? ⟨b, 1, none⟩ = some (.int .i64 d)),
      Calls Try.prog 21 #[.slice (some ⟨b, 0, none⟩) 1 1] w fun e w' => e = .returned (.int .i64 (0)) ∧ Below w.heap.size w w' := by
        intro b w hb c0 c1
        have := rfrac1 n d b w hb c0 c1
        rwa [h1] at this
    have t2 : ∀ (b : Nat) (w : World) (hb : b < w.heap.size) (c0 : w.cell? ⟨b, 0, none⟩ = some (.int .i64 n)) (c1 : w.cell? ⟨b, 1, none⟩ = some (.int .i64 d)) (c2 : w.cell? ⟨b, 2, none⟩ = some (.int .i64 m)) (c3 : w.cell? ⟨b, 3, none⟩ = some (.int .i64 c)),
      Calls Try.prog 21 #[.slice (some ⟨b, 0, none⟩) 2 2] w fun e w' => e = .returned (.int .i64 (0)) ∧ Below w.heap.size w w' := by
        intro b w hb c0 c1 c2 c3
        have := rfrac2 n d m c b w hb c0 c1 c2 c3
        rwa [h2] at this
    have T1 := Lib.hid t1
    have T2 := Lib.hid t2
    have C := Lib.hid tc
    have R := Lib.hid tr
    clear t1 t2 h1 h2 tc tr
    go_enter Try.func5, Try.ntmps5
    go_wp2_with (first
      | (go_at_call 19; refine (C.out _).mono ?_; rintro e w1 ⟨rfl, hb1⟩; obtain ⟨hc1, hf1⟩ := bcell hb1)
      | (go_at_call 20; refine (R.out _).mono ?_; rintro e w2 ⟨rfl, hb2⟩; obtain ⟨hc2, hf2⟩ := bcell hb2))
    have z1 := hb1.size
    have z2 := hb2.size
    simp only [World.size_alloc] at z1 z2
    have k0 : w2.cell? ⟨w.heap.size, 0, none⟩ = some (.int .i64 n) := by rw [hc2 _ _ (by omega), hc1 _ _ (by simp; omega)]; simp
    have k1 : w2.cell? ⟨w.heap.size, 1, none⟩ = some (.int .i64 d) := by rw [hc2 _ _ (by omega), hc1 _ _ (by simp; omega)]; simp
    have k2 : w2.cell? ⟨w.heap.size + 1, 0, none⟩ = some (.int .i64 m) := by rw [hc2 _ _ (by omega), hc1 _ _ (by simp)]; simp
    have k3 : w2.cell? ⟨w.heap.size + 1, 1, none⟩ = some (.int .i64 c) := by rw [hc2 _ _ (by omega), hc1 _ _ (by simp)]; simp
    have hB : Below w.heap.size w w2 := below_via (below_via (((Below.refl _ _).alloc (Nat.le_refl _) _).alloc (by simp) _) (by simp; omega) hb1) (by omega) hb2
    have hz : w.heap.size + 1 < w2.heap.size := by omega
    clear hb1 hb2 hc1 hf1 hc2 hf2 z1 z2
    go_region_held3 (fun w' => w'.cell? ⟨w.heap.size, 0, none⟩ = some (.int .i64 n) ∧ w'.cell? ⟨w.heap.size, 1, none⟩ = some (.int .i64 d) ∧ w'.cell? ⟨w.heap.size + 1, 0, none⟩ = some (.int .i64 m) ∧ w'.cell? ⟨w.heap.size + 1, 1, none⟩ = some (.int .i64 c))
      (first
        | (go_keep; done)
        | (go_split_ands; refine ⟨?_, ?_, ?_, ?_⟩ <;> first
          | (go_keep; done)
          | (rw [hc3 _ _ ?_]; (focus (go_keep; done)); (focus go_size))
          | (rw [hc4 _ _ ?_]; (focus (go_keep; done)); (focus go_size))))
      (first
        | (go_at_call 21; with_reducible refine (T1.out _ _ ?_ ?_ ?_).mono ?_; (focus go_side); (focus go_side); (focus go_side); rintro e w3 ⟨rfl, hb3⟩; obtain ⟨hc3, hf3⟩ := bcell hb3; have z3 := hb3.size; try simp at z3)
        | (go_at_call 21; with_reducible refine (T2.out _ _ ?_ ?_ ?_ ?_ ?_).mono ?_; (focus go_side); (focus go_side); (focus go_side); (focus go_side); (focus go_side); rintro e w4 ⟨rfl, hb4⟩; obtain ⟨hc4, hf4⟩ := bcell hb4; have z4 := hb4.size; try simp at z4))
    all_goals go_split_ands
    all_goals
      have hB4 : Below w.heap.size w w4 := by first
        | (refine below_via (Below.alloc (below_via (Below.drew (Below.alloc hB (by go_size) _)) (by go_size) hb3) (by go_size) _) (by go_size) hb4; done)
        | (refine below_via (below_via (Below.drew (Below.alloc (Below.alloc hB (by go_size) _) (by go_size) _)) (by go_size) hb3) (by go_size) hb4; done)
        | (refine below_via (Below.drew (below_via (Below.alloc (Below.alloc hB (by go_size) _) (by go_size) _) (by go_size) hb3)) (by go_size) hb4; done)
        | (repeat' (first | exact hB | (refine below_via ?_ ?_ hb4) | (refine below_via ?_ ?_ hb3) | refine Below.drew ?_ | refine Below.alloc ?_ ?_ _ | go_size); done)
      clear hc3 hf3 hc4 hf4 hb3 hb4 z3 z4 hB k0 k1 k2 k3
      go_wp2_with fail
      go_ret
      exact ⟨rfl, hB4⟩

set_option maxHeartbeats 1600000 in
theorem fr_ok_gt (n d m c way : Int) (w : World) (h1 : chk n d = 0) (hm : chk m c = 0) (hs : m * d < n * c) (h4 : 0 ≤ way) (h5 : way ≤ 3) :
    Calls Try.prog 5 #[.agg #[.int .i64 n, .int .i64 d], .agg #[.int .i64 m, .int .i64 c], .int .i64 way] w fun e w' => e = .returned (.bool true) ∧ Below w.heap.size w w' := by
  obtain ⟨a0, a1, a2, a3⟩ := of_chk h1
  obtain ⟨b0, b1, b2, b3⟩ := of_chk hm
  have h2 : chk2 n d m c = 0 := by rw [chk2_t h1, hm]
  have tc := fun w => cmp_ok n d m c w h1 hm
  rw [show cmp3 (n * c) (m * d) = 1 by unfold cmp3; rw [if_neg (by omega), if_pos hs]] at tc
  obtain ⟨p0, p1⟩ := mul_bd a0 a1 (show 0 ≤ c by omega) b3
  obtain ⟨q0, q1⟩ := mul_bd b0 b1 (show 0 ≤ d by omega) a3
  have tr := fun w => fround_ok n d way w h1 h4 h5
  have t1 : ∀ (b : Nat) (w : World) (hb : b < w.heap.size) (c0 : w.cell? ⟨b, 0, none⟩ = some (.int .i64 n)) (c1 : w.cell? ⟨b, 1, none⟩ = some (.int .i64 d)),
    Calls Try.prog 21 #[.slice (some ⟨b, 0, none⟩) 1 1] w fun e w' => e = .returned (.int .i64 (0)) ∧ Below w.heap.size w w' := by
      intro b w hb c0 c1
      have := rfrac1 n d b w hb c0 c1
      rwa [h1] at this
  have t2 : ∀ (b : Nat) (w : World) (hb : b < w.heap.size) (c0 : w.cell? ⟨b, 0, none⟩ = some (.int .i64 n)) (c1 : w.cell? ⟨b, 1, none⟩ = some (.int .i64 d)) (c2 : w.cell? ⟨b, 2, none⟩ = some (.int .i64 m)) (c3 : w.cell? ⟨b, 3, none⟩ = some (.int .i64 c)),
    Calls Try.prog 21 #[.slice (some ⟨b, 0, none⟩) 2 2] w fun e w' => e = .returned (.int .i64 (0)) ∧ Below w.heap.size w w' := by
      intro b w hb c0 c1 c2 c3
      have := rfrac2 n d m c b w hb c0 c1 c2 c3
      rwa [h2] at this
  have T1 := Lib.hid t1
  have T2 := Lib.hid t2
  have C := Lib.hid tc
  have R := Lib.hid tr
  clear t1 t2 h1 h2 tc tr
  go_enter Try.func5, Try.ntmps5
  go_wp2_with (first
    | (go_at_call 19; refine (C.out _).mono ?_; rintro e w1 ⟨rfl, hb1⟩; obtain ⟨hc1, hf1⟩ := bcell hb1)
    | (go_at_call 20; refine (R.out _).mono ?_; rintro e w2 ⟨rfl, hb2⟩; obtain ⟨hc2, hf2⟩ := bcell hb2))
  have z1 := hb1.size
  have z2 := hb2.size
  simp only [World.size_alloc] at z1 z2
  have k0 : w2.cell? ⟨w.heap.size, 0, none⟩ = some (.int .i64 n) := by rw [hc2 _ _ (by omega), hc1 _ _ (by simp; omega)]; simp
  have k1 : w2.cell? ⟨w.heap.size, 1, none⟩ = some (.int .i64 d) := by rw [hc2 _ _ (by omega), hc1 _ _ (by simp; omega)]; simp
  have k2 : w2.cell? ⟨w.heap.size + 1, 0, none⟩ = some (.int .i64 m) := by rw [hc2 _ _ (by omega), hc1 _ _ (by simp)]; simp
  have k3 : w2.cell? ⟨w.heap.size + 1, 1, none⟩ = some (.int .i64 c) := by rw [hc2 _ _ (by omega), hc1 _ _ (by simp)]; simp
  have hB : Below w.heap.size w w2 := below_via (below_via (((Below.refl _ _).alloc (Nat.le_refl _) _).alloc (by simp) _) (by simp; omega) hb1) (by omega) hb2
  have hz : w.heap.size + 1 < w2.heap.size := by omega
  clear hb1 hb2 hc1 hf1 hc2 hf2 z1 z2
  go_region_held3 (fun w' => w'.cell? ⟨w.heap.size, 0, none⟩ = some (.int .i64 n) ∧ w'.cell? ⟨w.heap.size, 1, none⟩ = some (.int .i64 d) ∧ w'.cell? ⟨w.heap.size + 1, 0, none⟩ = some (.int .i64 m) ∧ w'.cell? ⟨w.heap.size + 1, 1, none⟩ = some (.int .i64 c))
    (first
      | (go_keep; done)
      | (go_split_ands; refine ⟨?_, ?_, ?_, ?_⟩ <;> first
        | (go_keep; done)
        | (rw [hc3 _ _ ?_]; (focus (go_keep; done)); (focus go_size))
        | (rw [hc4 _ _ ?_]; (focus (go_keep; done)); (focus go_size))))
    (first
      | (go_at_call 21; with_reducible refine (T1.out _ _ ?_ ?_ ?_).mono ?_; (focus go_side); (focus go_side); (focus go_side); rintro e w3 ⟨rfl, hb3⟩; obtain ⟨hc3, hf3⟩ := bcell hb3; have z3 := hb3.size; try simp at z3)
      | (go_at_call 21; with_reducible refine (T2.out _ _ ?_ ?_ ?_ ?_ ?_).mono ?_; (focus go_side); (focus go_side); (focus go_side); (focus go_side); (focus go_side); rintro e w4 ⟨rfl, hb4⟩; obtain ⟨hc4, hf4⟩ := bcell hb4; have z4 := hb4.size; try simp at z4))
  all_goals go_split_ands
  all_goals
      have hB4 : Below w.heap.size w w4 := by first
        | (refine below_via (Below.alloc (below_via (Below.drew (Below.alloc hB (by go_size) _)) (by go_size) hb3) (by go_size) _) (by go_size) hb4; done)
        | (refine below_via (below_via (Below.drew (Below.alloc (Below.alloc hB (by go_size) _) (by go_size) _)) (by go_size) hb3) (by go_size) hb4; done)
        | (refine below_via (Below.drew (below_via (Below.alloc (Below.alloc hB (by go_size) _) (by go_size) _) (by go_size) hb3)) (by go_size) hb4; done)
        | (repeat' (first | exact hB | (refine below_via ?_ ?_ hb4) | (refine below_via ?_ ?_ hb3) | refine Below.drew ?_ | refine Below.alloc ?_ ?_ _ | go_size); done)
      clear hc3 hf3 hc4 hf4 hb3 hb4 z3 z4 hB k0 k1 k2 k3
      go_wp2_with (first | (go_at_call 18; refine (rround_any _ _ _ _ (by omega) (by omega) (by omega) (by omega) h4 h5).mono ?_; rintro e w' ⟨rfl, rfl⟩))
      go_ret
      exact ⟨rfl, hB4⟩

set_option maxHeartbeats 1600000 in
theorem fr_way_gt (n d m c way : Int) (w : World) (h1 : chk n d = 0) (hm : chk m c = 0) (hs : m * d < n * c) (hw : way < 0 ∨ 3 < way) :
    Calls Try.prog 5 #[.agg #[.int .i64 n, .int .i64 d], .agg #[.int .i64 m, .int .i64 c], .int .i64 way] w fun e w' => e = .returned (.bool true) ∧ Below w.heap.size w w' := by
  obtain ⟨a0, a1, a2, a3⟩ := of_chk h1
  obtain ⟨b0, b1, b2, b3⟩ := of_chk hm
  have h2 : chk2 n d m c = 0 := by rw [chk2_t h1, hm]
  have tc := fun w => cmp_ok n d m c w h1 hm
  rw [show cmp3 (n * c) (m * d) = 1 by unfold cmp3; rw [if_neg (by omega), if_pos hs]] at tc
  obtain ⟨p0, p1⟩ := mul_bd a0 a1 (show 0 ≤ c by omega) b3
  obtain ⟨q0, q1⟩ := mul_bd b0 b1 (show 0 ≤ d by omega) a3
  have tr := fun w => fround_way n d way w h1 hw
  rcases hw with hw | hw
  all_goals
    have t1 : ∀ (b : Nat) (w : World) (hb : b < w.heap.size) (c0 : w.cell? ⟨b, 0, none⟩ = some (.int .i64 n)) (c1 : w.cell? ⟨b, 1, none⟩ = some (.int .i64 d)),
      Calls Try.prog 21 #[.slice (some ⟨b, 0, none⟩) 1 1] w fun e w' => e = .returned (.int .i64 (0)) ∧ Below w.heap.size w w' := by
        intro b w hb c0 c1
        have := rfrac1 n d b w hb c0 c1
        rwa [h1] at this
    have t2 : ∀ (b : Nat) (w : World) (hb : b < w.heap.size) (c0 : w.cell? ⟨b, 0, none⟩ = some (.int .i64 n)) (c1 : w.cell? ⟨b, 1, none⟩ = some (.int .i64 d)) (c2 : w.cell? ⟨b, 2, none⟩ = some (.int .i64 m)) (c3 : w.cell? ⟨b, 3, none⟩ = some (.int .i64 c)),
      Calls Try.prog 21 #[.slice (some ⟨b, 0, none⟩) 2 2] w fun e w' => e = .returned (.int .i64 (0)) ∧ Below w.heap.size w w' := by
        intro b w hb c0 c1 c2 c3
        have := rfrac2 n d m c b w hb c0 c1 c2 c3
        rwa [h2] at this
    have T1 := Lib.hid t1
    have T2 := Lib.hid t2
    have C := Lib.hid tc
    have R := Lib.hid tr
    clear t1 t2 h1 h2 tc tr
    go_enter Try.func5, Try.ntmps5
    go_wp2_with (first
      | (go_at_call 19; refine (C.out _).mono ?_; rintro e w1 ⟨rfl, hb1⟩; obtain ⟨hc1, hf1⟩ := bcell hb1)
      | (go_at_call 20; refine (R.out _).mono ?_; rintro e w2 ⟨rfl, hb2⟩; obtain ⟨hc2, hf2⟩ := bcell hb2))
    have z1 := hb1.size
    have z2 := hb2.size
    simp only [World.size_alloc] at z1 z2
    have k0 : w2.cell? ⟨w.heap.size, 0, none⟩ = some (.int .i64 n) := by rw [hc2 _ _ (by omega), hc1 _ _ (by simp; omega)]; simp
    have k1 : w2.cell? ⟨w.heap.size, 1, none⟩ = some (.int .i64 d) := by rw [hc2 _ _ (by omega), hc1 _ _ (by simp; omega)]; simp
    have k2 : w2.cell? ⟨w.heap.size + 1, 0, none⟩ = some (.int .i64 m) := by rw [hc2 _ _ (by omega), hc1 _ _ (by simp)]; simp
    have k3 : w2.cell? ⟨w.heap.size + 1, 1, none⟩ = some (.int .i64 c) := by rw [hc2 _ _ (by omega), hc1 _ _ (by simp)]; simp
    have hB : Below w.heap.size w w2 := below_via (below_via (((Below.refl _ _).alloc (Nat.le_refl _) _).alloc (by simp) _) (by simp; omega) hb1) (by omega) hb2
    have hz : w.heap.size + 1 < w2.heap.size := by omega
    clear hb1 hb2 hc1 hf1 hc2 hf2 z1 z2
    go_region_held3 (fun w' => w'.cell? ⟨w.heap.size, 0, none⟩ = some (.int .i64 n) ∧ w'.cell? ⟨w.heap.size, 1, none⟩ = some (.int .i64 d) ∧ w'.cell? ⟨w.heap.size + 1, 0, none⟩ = some (.int .i64 m) ∧ w'.cell? ⟨w.heap.size + 1, 1, none⟩ = some (.int .i64 c))
      (first
        | (go_keep; done)
        | (go_split_ands; refine ⟨?_, ?_, ?_, ?_⟩ <;> first
          | (go_keep; done)
          | (rw [hc3 _ _ ?_]; (focus (go_keep; done)); (focus go_size))
          | (rw [hc4 _ _ ?_]; (focus (go_keep; done)); (focus go_size))))
      (first
        | (go_at_call 21; with_reducible refine (T1.out _ _ ?_ ?_ ?_).mono ?_; (focus go_side); (focus go_side); (focus go_side); rintro e w3 ⟨rfl, hb3⟩; obtain ⟨hc3, hf3⟩ := bcell hb3; have z3 := hb3.size; try simp at z3)
        | (go_at_call 21; with_reducible refine (T2.out _ _ ?_ ?_ ?_ ?_ ?_).mono ?_; (focus go_side); (focus go_side); (focus go_side); (focus go_side); (focus go_side); rintro e w4 ⟨rfl, hb4⟩; obtain ⟨hc4, hf4⟩ := bcell hb4; have z4 := hb4.size; try simp at z4))
    all_goals go_split_ands
    all_goals
      have hB4 : Below w.heap.size w w4 := by first
        | (refine below_via (Below.alloc (below_via (Below.drew (Below.alloc hB (by go_size) _)) (by go_size) hb3) (by go_size) _) (by go_size) hb4; done)
        | (refine below_via (below_via (Below.drew (Below.alloc (Below.alloc hB (by go_size) _) (by go_size) _)) (by go_size) hb3) (by go_size) hb4; done)
        | (refine below_via (Below.drew (below_via (Below.alloc (Below.alloc hB (by go_size) _) (by go_size) _) (by go_size) hb3)) (by go_size) hb4; done)
        | (repeat' (first | exact hB | (refine below_via ?_ ?_ hb4) | (refine below_via ?_ ?_ hb3) | refine Below.drew ?_ | refine Below.alloc ?_ ?_ _ | go_size); done)
      clear hc3 hf3 hc4 hf4 hb3 hb4 z3 z4 hB k0 k1 k2 k3
      go_wp2_with fail
      go_ret
      exact ⟨rfl, hB4⟩

set_option maxHeartbeats 1600000 in
theorem fr_ok_eq (n d m c way : Int) (w : World) (h1 : chk n d = 0) (hm : chk m c = 0) (hs : n * c - m * d = 0) (h4 : 0 ≤ way) (h5 : way ≤ 3) :
    Calls Try.prog 5 #[.agg #[.int .i64 n, .int .i64 d], .agg #[.int .i64 m, .int .i64 c], .int .i64 way] w fun e w' => e = .returned (.bool true) ∧ Below w.heap.size w w' := by
  obtain ⟨a0, a1, a2, a3⟩ := of_chk h1
  obtain ⟨b0, b1, b2, b3⟩ := of_chk hm
  have h2 : chk2 n d m c = 0 := by rw [chk2_t h1, hm]
  have tc := fun w => cmp_ok n d m c w h1 hm
  rw [show cmp3 (n * c) (m * d) = 0 by unfold cmp3; rw [if_neg (by omega), if_neg (by omega)]] at tc
  obtain ⟨p0, p1⟩ := mul_bd a0 a1 (show 0 ≤ c by omega) b3
  obtain ⟨q0, q1⟩ := mul_bd b0 b1 (show 0 ≤ d by omega) a3
  have tr := fun w => fround_ok n d way w h1 h4 h5
  have t1 : ∀ (b : Nat) (w : World) (hb : b < w.heap.size) (c0 : w.cell? ⟨b, 0, none⟩ = some (.int .i64 n)) (c1 : w.cell? ⟨b, 1, none⟩ = some (.int .i64 d)),
    Calls Try.prog 21 #[.slice (some ⟨b, 0, none⟩) 1 1] w fun e w' => e = .returned (.int .i64 (0)) ∧ Below w.heap.size w w' := by
      intro b w hb c0 c1
      have := rfrac1 n d b w hb c0 c1
      rwa [h1] at this
  have t2 : ∀ (b : Nat) (w : World) (hb : b < w.heap.size) (c0 : w.cell? ⟨b, 0, none⟩ = some (.int .i64 n)) (c1 : w.cell? ⟨b, 1, none⟩ = some (.int .i64 d)) (c2 : w.cell? ⟨b, 2, none⟩ = some (.int .i64 m)) (c3 : w.cell? ⟨b, 3, none⟩ = some (.int .i64 c)),
    Calls Try.prog 21 #[.slice (some ⟨b, 0, none⟩) 2 2] w fun e w' => e = .returned (.int .i64 (0)) ∧ Below w.heap.size w w' := by
      intro b w hb c0 c1 c2 c3
      have := rfrac2 n d m c b w hb c0 c1 c2 c3
      rwa [h2] at this
  have T1 := Lib.hid t1
  have T2 := Lib.hid t2
  have C := Lib.hid tc
  have R := Lib.hid tr
  clear t1 t2 h1 h2 tc tr
  go_enter Try.func5, Try.ntmps5
  go_wp2_with (first
    | (go_at_call 19; refine (C.out _).mono ?_; rintro e w1 ⟨rfl, hb1⟩; obtain ⟨hc1, hf1⟩ := bcell hb1)
    | (go_at_call 20; refine (R.out _).mono ?_; rintro e w2 ⟨rfl, hb2⟩; obtain ⟨hc2, hf2⟩ := bcell hb2))
  have z1 := hb1.size
  have z2 := hb2.size
  simp only [World.size_alloc] at z1 z2
  have k0 : w2.cell? ⟨w.heap.size, 0, none⟩ = some (.int .i64 n) := by rw [hc2 _ _ (by omega), hc1 _ _ (by simp; omega)]; simp
  have k1 : w2.cell? ⟨w.heap.size, 1, none⟩ = some (.int .i64 d) := by rw [hc2 _ _ (by omega), hc1 _ _ (by simp; omega)]; simp
  have k2 : w2.cell? ⟨w.heap.size + 1, 0, none⟩ = some (.int .i64 m) := by rw [hc2 _ _ (by omega), hc1 _ _ (by simp)]; simp
  have k3 : w2.cell? ⟨w.heap.size + 1, 1, none⟩ = some (.int .i64 c) := by rw [hc2 _ _ (by omega), hc1 _ _ (by simp)]; simp
  have hB : Below w.heap.size w w2 := below_via (below_via (((Below.refl _ _).alloc (Nat.le_refl _) _).alloc (by simp) _) (by simp; omega) hb1) (by omega) hb2
  have hz : w.heap.size + 1 < w2.heap.size := by omega
  clear hb1 hb2 hc1 hf1 hc2 hf2 z1 z2
  go_region_held3 (fun w' => w'.cell? ⟨w.heap.size, 0, none⟩ = some (.int .i64 n) ∧ w'.cell? ⟨w.heap.size, 1, none⟩ = some (.int .i64 d) ∧ w'.cell? ⟨w.heap.size + 1, 0, none⟩ = some (.int .i64 m) ∧ w'.cell? ⟨w.heap.size + 1, 1, none⟩ = some (.int .i64 c))
    (first
      | (go_keep; done)
      | (go_split_ands; refine ⟨?_, ?_, ?_, ?_⟩ <;> first
        | (go_keep; done)
        | (rw [hc3 _ _ ?_]; (focus (go_keep; done)); (focus go_size))
        | (rw [hc4 _ _ ?_]; (focus (go_keep; done)); (focus go_size))))
    (first
      | (go_at_call 21; with_reducible refine (T1.out _ _ ?_ ?_ ?_).mono ?_; (focus go_side); (focus go_side); (focus go_side); rintro e w3 ⟨rfl, hb3⟩; obtain ⟨hc3, hf3⟩ := bcell hb3; have z3 := hb3.size; try simp at z3)
      | (go_at_call 21; with_reducible refine (T2.out _ _ ?_ ?_ ?_ ?_ ?_).mono ?_; (focus go_side); (focus go_side); (focus go_side); (focus go_side); (focus go_side); rintro e w4 ⟨rfl, hb4⟩; obtain ⟨hc4, hf4⟩ := bcell hb4; have z4 := hb4.size; try simp at z4))
  all_goals go_split_ands
  all_goals
      have hB4 : Below w.heap.size w w4 := by first
        | (refine below_via (Below.alloc (below_via (Below.drew (Below.alloc hB (by go_size) _)) (by go_size) hb3) (by go_size) _) (by go_size) hb4; done)
        | (refine below_via (below_via (Below.drew (Below.alloc (Below.alloc hB (by go_size) _) (by go_size) _)) (by go_size) hb3) (by go_size) hb4; done)
        | (refine below_via (Below.drew (below_via (Below.alloc (Below.alloc hB (by go_size) _) (by go_size) _) (by go_size) hb3)) (by go_size) hb4; done)
        | (repeat' (first | exact hB | (refine below_via ?_ ?_ hb4) | (refine below_via ?_ ?_ hb3) | refine Below.drew ?_ | refine Below.alloc ?_ ?_ _ | go_size); done)
      clear hc3 hf3 hc4 hf4 hb3 hb4 z3 z4 hB k0 k1 k2 k3
      go_wp2_with (first | (go_at_call 18; refine (rround_any _ _ _ _ (by omega) (by omega) (by omega) (by omega) h4 h5).mono ?_; rintro e w' ⟨rfl, rfl⟩))
      go_ret
      exact ⟨rfl, hB4⟩

set_option maxHeartbeats 1600000 in
theorem fr_way_eq (n d m c way : Int) (w : World) (h1 : chk n d = 0) (hm : chk m c = 0) (hs : n * c - m * d = 0) (hw : way < 0 ∨ 3 < way) :
    Calls Try.prog 5 #[.agg #[.int .i64 n, .int .i64 d], .agg #[.int .i64 m, .int .i64 c], .int .i64 way] w fun e w' => e = .returned (.bool true) ∧ Below w.heap.size w w' := by
  obtain ⟨a0, a1, a2, a3⟩ := of_chk h1
  obtain ⟨b0, b1, b2, b3⟩ := of_chk hm
  have h2 : chk2 n d m c = 0 := by rw [chk2_t h1, hm]
  have tc := fun w => cmp_ok n d m c w h1 hm
  rw [show cmp3 (n * c) (m * d) = 0 by unfold cmp3; rw [if_neg (by omega), if_neg (by omega)]] at tc
  obtain ⟨p0, p1⟩ := mul_bd a0 a1 (show 0 ≤ c by omega) b3
  obtain ⟨q0, q1⟩ := mul_bd b0 b1 (show 0 ≤ d by omega) a3
  have tr := fun w => fround_way n d way w h1 hw
  rcases hw with hw | hw
  all_goals
    have t1 : ∀ (b : Nat) (w : World) (hb : b < w.heap.size) (c0 : w.cell? ⟨b, 0, none⟩ = some (.int .i64 n)) (c1 : w.cell? ⟨b, 1, none⟩ = some (.int .i64 d)),
      Calls Try.prog 21 #[.slice (some ⟨b, 0, none⟩) 1 1] w fun e w' => e = .returned (.int .i64 (0)) ∧ Below w.heap.size w w' := by
        intro b w hb c0 c1
        have := rfrac1 n d b w hb c0 c1
        rwa [h1] at this
    have t2 : ∀ (b : Nat) (w : World) (hb : b < w.heap.size) (c0 : w.cell? ⟨b, 0, none⟩ = some (.int .i64 n)) (c1 : w.cell? ⟨b, 1, none⟩ = some (.int .i64 d)) (c2 : w.cell? ⟨b, 2, none⟩ = some (.int .i64 m)) (c3 : w.cell? ⟨b, 3, none⟩ = some (.int .i64 c)),
      Calls Try.prog 21 #[.slice (some ⟨b, 0, none⟩) 2 2] w fun e w' => e = .returned (.int .i64 (0)) ∧ Below w.heap.size w w' := by
        intro b w hb c0 c1 c2 c3
        have := rfrac2 n d m c b w hb c0 c1 c2 c3
        rwa [h2] at this
    have T1 := Lib.hid t1
    have T2 := Lib.hid t2
    have C := Lib.hid tc
    have R := Lib.hid tr
    clear t1 t2 h1 h2 tc tr
    go_enter Try.func5, Try.ntmps5
    go_wp2_with (first
      | (go_at_call 19; refine (C.out _).mono ?_; rintro e w1 ⟨rfl, hb1⟩; obtain ⟨hc1, hf1⟩ := bcell hb1)
      | (go_at_call 20; refine (R.out _).mono ?_; rintro e w2 ⟨rfl, hb2⟩; obtain ⟨hc2, hf2⟩ := bcell hb2))
    have z1 := hb1.size
    have z2 := hb2.size
    simp only [World.size_alloc] at z1 z2
    have k0 : w2.cell? ⟨w.heap.size, 0, none⟩ = some (.int .i64 n) := by rw [hc2 _ _ (by omega), hc1 _ _ (by simp; omega)]; simp
    have k1 : w2.cell? ⟨w.heap.size, 1, none⟩ = some (.int .i64 d) := by rw [hc2 _ _ (by omega), hc1 _ _ (by simp; omega)]; simp
    have k2 : w2.cell? ⟨w.heap.size + 1, 0, none⟩ = some (.int .i64 m) := by rw [hc2 _ _ (by omega), hc1 _ _ (by simp)]; simp
    have k3 : w2.cell? ⟨w.heap.size + 1, 1, none⟩ = some (.int .i64 c) := by rw [hc2 _ _ (by omega), hc1 _ _ (by simp)]; simp
    have hB : Below w.heap.size w w2 := below_via (below_via (((Below.refl _ _).alloc (Nat.le_refl _) _).alloc (by simp) _) (by simp; omega) hb1) (by omega) hb2
    have hz : w.heap.size + 1 < w2.heap.size := by omega
    clear hb1 hb2 hc1 hf1 hc2 hf2 z1 z2
    go_region_held3 (fun w' => w'.cell? ⟨w.heap.size, 0, none⟩ = some (.int .i64 n) ∧ w'.cell? ⟨w.heap.size, 1, none⟩ = some (.int .i64 d) ∧ w'.cell? ⟨w.heap.size + 1, 0, none⟩ = some (.int .i64 m) ∧ w'.cell? ⟨w.heap.size + 1, 1, none⟩ = some (.int .i64 c))
      (first
        | (go_keep; done)
        | (go_split_ands; refine ⟨?_, ?_, ?_, ?_⟩ <;> first
          | (go_keep; done)
          | (rw [hc3 _ _ ?_]; (focus (go_keep; done)); (focus go_size))
          | (rw [hc4 _ _ ?_]; (focus (go_keep; done)); (focus go_size))))
      (first
        | (go_at_call 21; with_reducible refine (T1.out _ _ ?_ ?_ ?_).mono ?_; (focus go_side); (focus go_side); (focus go_side); rintro e w3 ⟨rfl, hb3⟩; obtain ⟨hc3, hf3⟩ := bcell hb3; have z3 := hb3.size; try simp at z3)
        | (go_at_call 21; with_reducible refine (T2.out _ _ ?_ ?_ ?_ ?_ ?_).mono ?_; (focus go_side); (focus go_side); (focus go_side); (focus go_side); (focus go_side); rintro e w4 ⟨rfl, hb4⟩; obtain ⟨hc4, hf4⟩ := bcell hb4; have z4 := hb4.size; try simp at z4))
    all_goals go_split_ands
    all_goals
      have hB4 : Below w.heap.size w w4 := by first
        | (refine below_via (Below.alloc (below_via (Below.drew (Below.alloc hB (by go_size) _)) (by go_size) hb3) (by go_size) _) (by go_size) hb4; done)
        | (refine below_via (below_via (Below.drew (Below.alloc (Below.alloc hB (by go_size) _) (by go_size) _)) (by go_size) hb3) (by go_size) hb4; done)
        | (refine below_via (Below.drew (below_via (Below.alloc (Below.alloc hB (by go_size) _) (by go_size) _) (by go_size) hb3)) (by go_size) hb4; done)
        | (repeat' (first | exact hB | (refine below_via ?_ ?_ hb4) | (refine below_via ?_ ?_ hb3) | refine Below.drew ?_ | refine Below.alloc ?_ ?_ _ | go_size); done)
      clear hc3 hf3 hc4 hf4 hb3 hb4 z3 z4 hB k0 k1 k2 k3
      go_wp2_with fail
      go_ret
      exact ⟨rfl, hB4⟩

set_option maxHeartbeats 1600000 in
theorem fr_bad_ok (n d m c way : Int) (w : World) (h1 : chk n d = 0) (hm : chk m c ≠ 0) (h4 : 0 ≤ way) (h5 : way ≤ 3) :
    Calls Try.prog 5 #[.agg #[.int .i64 n, .int .i64 d], .agg #[.int .i64 m, .int .i64 c], .int .i64 way] w fun e w' => e = .returned (.bool true) ∧ Below w.heap.size w w' := by
  obtain ⟨a0, a1, a2, a3⟩ := of_chk h1
  have h2 : chk2 n d m c = chk m c := chk2_t h1
  have tc := fun w => cmp_bad n d m c (chk m c) w h2 hm
  have e1 : (chk m c == 0) = false := by simpa using hm
  have e2 : (chk m c != 0) = true := by simpa using hm
  clear hm
  have tr := fun w => fround_ok n d way w h1 h4 h5
  have t1 : ∀ (b : Nat) (w : World) (hb : b < w.heap.size) (c0 : w.cell? ⟨b, 0, none⟩ = some (.int .i64 n)) (c1 : w.cell? ⟨b, 1, none⟩ = some (.int .i64 d)),
    Calls Try.prog 21 #[.slice (some ⟨b, 0, none⟩) 1 1] w fun e w' => e = .returned (.int .i64 (0)) ∧ Below w.heap.size w w' := by
      intro b w hb c0 c1
      have := rfrac1 n d b w hb c0 c1
      rwa [h1] at this
  have t2 : ∀ (b : Nat) (w : World) (hb : b < w.heap.size) (c0 : w.cell? ⟨b, 0, none⟩ = some (.int .i64 n)) (c1 : w.cell? ⟨b, 1, none⟩ = some (.int .i64 d)) (c2 : w.cell? ⟨b, 2, none⟩ = some (.int .i64 m)) (c3 : w.cell? ⟨b, 3, none⟩ = some (.int .i64 c)),
    Calls Try.prog 21 #[.slice (some ⟨b, 0, none⟩) 2 2] w fun e w' => e = .returned (.int .i64 (chk m c)) ∧ Below w.heap.size w w' := by
      intro b w hb c0 c1 c2 c3
      have := rfrac2 n d m c b w hb c0 c1 c2 c3
      rwa [h2] at this
  have T1 := Lib.hid t1
  have T2 := Lib.hid t2
  have C := Lib.hid tc
  have R := Lib.hid tr
  clear t1 t2 h1 h2 tc tr
  go_enter Try.func5, Try.ntmps5
  go_wp2_with (first
    | (go_at_call 19; refine (C.out _).mono ?_; rintro e w1 ⟨rfl, hb1⟩; obtain ⟨hc1, hf1⟩ := bcell hb1)
    | (go_at_call 20; refine (R.out _).mono ?_; rintro e w2 ⟨rfl, hb2⟩; obtain ⟨hc2, hf2⟩ := bcell hb2))
  have z1 := hb1.size
  have z2 := hb2.size
  simp only [World.size_alloc] at z1 z2
  have k0 : w2.cell? ⟨w.heap.size, 0, none⟩ = some (.int .i64 n) := by rw [hc2 _ _ (by omega), hc1 _ _ (by simp; omega)]; simp
  have k1 : w2.cell? ⟨w.heap.size, 1, none⟩ = some (.int .i64 d) := by rw [hc2 _ _ (by omega), hc1 _ _ (by simp; omega)]; simp
  have k2 : w2.cell? ⟨w.heap.size + 1, 0, none⟩ = some (.int .i64 m) := by rw [hc2 _ _ (by omega), hc1 _ _ (by simp)]; simp
  have k3 : w2.cell? ⟨w.heap.size + 1, 1, none⟩ = some (.int .i64 c) := by rw [hc2 _ _ (by omega), hc1 _ _ (by simp)]; simp
  have hB : Below w.heap.size w w2 := below_via (below_via (((Below.refl _ _).alloc (Nat.le_refl _) _).alloc (by simp) _) (by simp; omega) hb1) (by omega) hb2
  have hz : w.heap.size + 1 < w2.heap.size := by omega
  clear hb1 hb2 hc1 hf1 hc2 hf2 z1 z2
  go_region_held3 (fun w' => w'.cell? ⟨w.heap.size, 0, none⟩ = some (.int .i64 n) ∧ w'.cell? ⟨w.heap.size, 1, none⟩ = some (.int .i64 d) ∧ w'.cell? ⟨w.heap.size + 1, 0, none⟩ = some (.int .i64 m) ∧ w'.cell? ⟨w.heap.size + 1, 1, none⟩ = some (.int .i64 c))
    (first
      | (go_keep; done)
      | (go_split_ands; refine ⟨?_, ?_, ?_, ?_⟩ <;> first
        | (go_keep; done)
        | (rw [hc3 _ _ ?_]; (focus (go_keep; done)); (focus go_size))
        | (rw [hc4 _ _ ?_]; (focus (go_keep; done)); (focus go_size))))
    (first
      | (go_at_call 21; with_reducible refine (T1.out _ _ ?_ ?_ ?_).mono ?_; (focus go_side); (focus go_side); (focus go_side); rintro e w3 ⟨rfl, hb3⟩; obtain ⟨hc3, hf3⟩ := bcell hb3; have z3 := hb3.size; try simp at z3)
      | (go_at_call 21; with_reducible refine (T2.out _ _ ?_ ?_ ?_ ?_ ?_).mono ?_; (focus go_side); (focus go_side); (focus go_side); (focus go_side); (focus go_side); rintro e w4 ⟨rfl, hb4⟩; obtain ⟨hc4, hf4⟩ := bcell hb4; have z4 := hb4.size; try simp at z4))
  all_goals go_split_ands
  all_goals
      have hB4 : Below w.heap.size w w4 := by first
        | (refine below_via (Below.alloc (below_via (Below.drew (Below.alloc hB (by go_size) _)) (by go_size) hb3) (by go_size) _) (by go_size) hb4; done)
        | (refine below_via (below_via (Below.drew (Below.alloc (Below.alloc hB (by go_size) _) (by go_size) _)) (by go_size) hb3) (by go_size) hb4; done)
        | (refine below_via (Below.drew (below_via (Below.alloc (Below.alloc hB (by go_size) _) (by go_size) _) (by go_size) hb3)) (by go_size) hb4; done)
        | (repeat' (first | exact hB | (refine below_via ?_ ?_ hb4) | (refine below_via ?_ ?_ hb3) | refine Below.drew ?_ | refine Below.alloc ?_ ?_ _ | go_size); done)
      clear hc3 hf3 hc4 hf4 hb3 hb4 z3 z4 hB k0 k1 k2 k3
      go_wp2_with (first | (go_at_call 18; refine (rround_any _ _ _ _ (by omega) (by omega) (by omega) (by omega) h4 h5).mono ?_; rintro e w' ⟨rfl, rfl⟩))
      go_ret
      exact ⟨rfl, hB4⟩

set_option maxHeartbeats 1600000 in
theorem fr_bad_way (n d m c way : Int) (w : World) (h1 : chk n d = 0) (hm : chk m c ≠ 0) (hw : way < 0 ∨ 3 < way) :
    Calls Try.prog 5 #[.agg #[.int .i64 n, .int .i64 d], .agg #[.int .i64 m, .int .i64 c], .int .i64 way] w fun e w' => e = .returned (.bool true) ∧ Below w.heap.size w w' := by
  obtain ⟨a0, a1, a2, a3⟩ := of_chk h1
  have h2 : chk2 n d m c = chk m c := chk2_t h1
  have tc := fun w => cmp_bad n d m c (chk m c) w h2 hm
  have e1 : (chk m c == 0) = false := by simpa using hm
  have e2 : (chk m c != 0) = true := by simpa using hm
  clear hm
  have tr := fun w => fround_way n d way w h1 hw
  rcases hw with hw | hw
  all_goals
    have t1 : ∀ (b : Nat) (w : World) (hb : b < w.heap.size) (c0 : w.cell? ⟨b, 0, none⟩ = some (.int .i64 n)) (c1 : w.cell? ⟨b, 1, none⟩ = some (.int .i64 d)),
      Calls Try.prog 21 #[.slice (some ⟨b, 0, none⟩) 1 1] w fun e w' => e = .returned (.int .i64 (0)) ∧ Below w.heap.size w w' := by
        intro b w hb c0 c1
        have := rfrac1 n d b w hb c0 c1
        rwa [h1] at this
    have t2 : ∀ (b : Nat) (w : World) (hb : b < w.heap.size) (c0 : w.cell? ⟨b, 0, none⟩ = some (.int .i64 n)) (c1 : w.cell? ⟨b, 1, none⟩ = some (.int .i64 d)) (c2 : w.cell? ⟨b, 2, none⟩ = some (.int .i64 m)) (c3 : w.cell? ⟨b, 3, none⟩ = some (.int .i64 c)),
      Calls Try.prog 21 #[.slice (some ⟨b, 0, none⟩) 2 2] w fun e w' => e = .returned (.int .i64 (chk m c)) ∧ Below w.heap.size w w' := by
        intro b w hb c0 c1 c2 c3
        have := rfrac2 n d m c b w hb c0 c1 c2 c3
        rwa [h2] at this
    have T1 := Lib.hid t1
    have T2 := Lib.hid t2
    have C := Lib.hid tc
    have R := Lib.hid tr
    clear t1 t2 h1 h2 tc tr
    go_enter Try.func5, Try.ntmps5
    go_wp2_with (first
      | (go_at_call 19; refine (C.out _).mono ?_; rintro e w1 ⟨rfl, hb1⟩; obtain ⟨hc1, hf1⟩ := bcell hb1)
      | (go_at_call 20; refine (R.out _).mono ?_; rintro e w2 ⟨rfl, hb2⟩; obtain ⟨hc2, hf2⟩ := bcell hb2))
    have z1 := hb1.size
    have z2 := hb2.size
    simp only [World.size_alloc] at z1 z2
    have k0 : w2.cell? ⟨w.heap.size, 0, none⟩ = some (.int .i64 n) := by rw [hc2 _ _ (by omega), hc1 _ _ (by simp; omega)]; simp
    have k1 : w2.cell? ⟨w.heap.size, 1, none⟩ = some (.int .i64 d) := by rw [hc2 _ _ (by omega), hc1 _ _ (by simp; omega)]; simp
    have k2 : w2.cell? ⟨w.heap.size + 1, 0, none⟩ = some (.int .i64 m) := by rw [hc2 _ _ (by omega), hc1 _ _ (by simp)]; simp
    have k3 : w2.cell? ⟨w.heap.size + 1, 1, none⟩ = some (.int .i64 c) := by rw [hc2 _ _ (by omega), hc1 _ _ (by simp)]; simp
    have hB : Below w.heap.size w w2 := below_via (below_via (((Below.refl _ _).alloc (Nat.le_refl _) _).alloc (by simp) _) (by simp; omega) hb1) (by omega) hb2
    have hz : w.heap.size + 1 < w2.heap.size := by omega
    clear hb1 hb2 hc1 hf1 hc2 hf2 z1 z2
    go_region_held3 (fun w' => w'.cell? ⟨w.heap.size, 0, none⟩ = some (.int .i64 n) ∧ w'.cell? ⟨w.heap.size, 1, none⟩ = some (.int .i64 d) ∧ w'.cell? ⟨w.heap.size + 1, 0, none⟩ = some (.int .i64 m) ∧ w'.cell? ⟨w.heap.size + 1, 1, none⟩ = some (.int .i64 c))
      (first
        | (go_keep; done)
        | (go_split_ands; refine ⟨?_, ?_, ?_, ?_⟩ <;> first
          | (go_keep; done)
          | (rw [hc3 _ _ ?_]; (focus (go_keep; done)); (focus go_size))
          | (rw [hc4 _ _ ?_]; (focus (go_keep; done)); (focus go_size))))
      (first
        | (go_at_call 21; with_reducible refine (T1.out _ _ ?_ ?_ ?_).mono ?_; (focus go_side); (focus go_side); (focus go_side); rintro e w3 ⟨rfl, hb3⟩; obtain ⟨hc3, hf3⟩ := bcell hb3; have z3 := hb3.size; try simp at z3)
        | (go_at_call 21; with_reducible refine (T2.out _ _ ?_ ?_ ?_ ?_ ?_).mono ?_; (focus go_side); (focus go_side); (focus go_side); (focus go_side); (focus go_side); rintro e w4 ⟨rfl, hb4⟩; obtain ⟨hc4, hf4⟩ := bcell hb4; have z4 := hb4.size; try simp at z4))
    all_goals go_split_ands
    all_goals
      have hB4 : Below w.heap.size w w4 := by first
        | (refine below_via (Below.alloc (below_via (Below.drew (Below.alloc hB (by go_size) _)) (by go_size) hb3) (by go_size) _) (by go_size) hb4; done)
        | (refine below_via (below_via (Below.drew (Below.alloc (Below.alloc hB (by go_size) _) (by go_size) _)) (by go_size) hb3) (by go_size) hb4; done)
        | (refine below_via (Below.drew (below_via (Below.alloc (Below.alloc hB (by go_size) _) (by go_size) _) (by go_size) hb3)) (by go_size) hb4; done)
        | (repeat' (first | exact hB | (refine below_via ?_ ?_ hb4) | (refine below_via ?_ ?_ hb3) | refine Below.drew ?_ | refine Below.alloc ?_ ?_ _ | go_size); done)
      clear hc3 hf3 hc4 hf4 hb3 hb4 z3 z4 hB k0 k1 k2 k3
      go_wp2_with fail
      go_ret
      exact ⟨rfl, hB4⟩

set_option maxHeartbeats 1600000 in
theorem fr_bad (n d m c way : Int) (w : World) (hn : chk n d ≠ 0) :
    Calls Try.prog 5 #[.agg #[.int .i64 n, .int .i64 d], .agg #[.int .i64 m, .int .i64 c], .int .i64 way] w fun e w' => e = .returned (.bool true) ∧ Below w.heap.size w w' := by
  have h1 : chk n d = chk n d := rfl
  have h2 : chk2 n d m c = chk n d := chk2_f hn
  have tc := fun w => cmp_bad n d m c (chk n d) w h2 hn
  have tr := fun w => fround_bad n d way w hn
  have e1 : (chk n d == 0) = false := by simpa using hn
  have e2 : (chk n d != 0) = true := by simpa using hn
  clear hn
  have t1 : ∀ (b : Nat) (w : World) (hb : b < w.heap.size) (c0 : w.cell? ⟨b, 0, none⟩ = some (.int .i64 n)) (c1 : w.cell? ⟨b, 1, none⟩ = some (.int .i64 d)),
    Calls Try.prog 21 #[.slice (some ⟨b, 0, none⟩) 1 1] w fun e w' => e = .returned (.int .i64 (chk n d)) ∧ Below w.heap.size w w' := by
      intro b w hb c0 c1
      have := rfrac1 n d b w hb c0 c1
      rwa [h1] at this
  have t2 : ∀ (b : Nat) (w : World) (hb : b < w.heap.size) (c0 : w.cell? ⟨b, 0, none⟩ = some (.int .i64 n)) (c1 : w.cell? ⟨b, 1, none⟩ = some (.int .i64 d)) (c2 : w.cell? ⟨b, 2, none⟩ = some (.int .i64 m)) (c3 : w.cell? ⟨b, 3, none⟩ = some (.int .i64 c)),
    Calls Try.prog 21 #[.slice (some ⟨b, 0, none⟩) 2 2] w fun e w' => e = .returned (.int .i64 (chk n d)) ∧ Below w.heap.size w w' := by
      intro b w hb c0 c1 c2 c3
      have := rfrac2 n d m c b w hb c0 c1 c2 c3
      rwa [h2] at this
  have T1 := Lib.hid t1
  have T2 := Lib.hid t2
  have C := Lib.hid tc
  have R := Lib.hid tr
  clear t1 t2 h1 h2 tc tr
  go_enter Try.func5, Try.ntmps5
  go_wp2_with (first
    | (go_at_call 19; refine (C.out _).mono ?_; rintro e w1 ⟨rfl, hb1⟩; obtain ⟨hc1, hf1⟩ := bcell hb1)
    | (go_at_call 20; refine (R.out _).mono ?_; rintro e w2 ⟨rfl, hb2⟩; obtain ⟨hc2, hf2⟩ := bcell hb2))
  have z1 := hb1.size
  have z2 := hb2.size
  simp only [World.size_alloc] at z1 z2
  have k0 : w2.cell? ⟨w.heap.size, 0, none⟩ = some (.int .i64 n) := by rw [hc2 _ _ (by omega), hc1 _ _ (by simp; omega)]; simp
  have k1 : w2.cell? ⟨w.heap.size, 1, none⟩ = some (.int .i64 d) := by rw [hc2 _ _ (by omega), hc1 _ _ (by simp; omega)]; simp
  have k2 : w2.cell? ⟨w.heap.size + 1, 0, none⟩ = some (.int .i64 m) := by rw [hc2 _ _ (by omega), hc1 _ _ (by simp)]; simp
  have k3 : w2.cell? ⟨w.heap.size + 1, 1, none⟩ = some (.int .i64 c) := by rw [hc2 _ _ (by omega), hc1 _ _ (by simp)]; simp
  have hB : Below w.heap.size w w2 := below_via (below_via (((Below.refl _ _).alloc (Nat.le_refl _) _).alloc (by simp) _) (by simp; omega) hb1) (by omega) hb2
  have hz : w.heap.size + 1 < w2.heap.size := by omega
  clear hb1 hb2 hc1 hf1 hc2 hf2 z1 z2
  go_region_held3 (fun w' => w'.cell? ⟨w.heap.size, 0, none⟩ = some (.int .i64 n) ∧ w'.cell? ⟨w.heap.size, 1, none⟩ = some (.int .i64 d) ∧ w'.cell? ⟨w.heap.size + 1, 0, none⟩ = some (.int .i64 m) ∧ w'.cell? ⟨w.heap.size + 1, 1, none⟩ = some (.int .i64 c))
    (first
      | (go_keep; done)
      | (go_split_ands; refine ⟨?_, ?_, ?_, ?_⟩ <;> first
        | (go_keep; done)
        | (rw [hc3 _ _ ?_]; (focus (go_keep; done)); (focus go_size))
        | (rw [hc4 _ _ ?_]; (focus (go_keep; done)); (focus go_size))))
    (first
      | (go_at_call 21; with_reducible refine (T1.out _ _ ?_ ?_ ?_).mono ?_; (focus go_side); (focus go_side); (focus go_side); rintro e w3 ⟨rfl, hb3⟩; obtain ⟨hc3, hf3⟩ := bcell hb3; have z3 := hb3.size; try simp at z3)
      | (go_at_call 21; with_reducible refine (T2.out _ _ ?_ ?_ ?_ ?_ ?_).mono ?_; (focus go_side); (focus go_side); (focus go_side); (focus go_side); (focus go_side); rintro e w4 ⟨rfl, hb4⟩; obtain ⟨hc4, hf4⟩ := bcell hb4; have z4 := hb4.size; try simp at z4))
  all_goals go_split_ands
  all_goals
      have hB4 : Below w.heap.size w w4 := by first
        | (refine below_via (Below.alloc (below_via (Below.drew (Below.alloc hB (by go_size) _)) (by go_size) hb3) (by go_size) _) (by go_size) hb4; done)
        | (refine below_via (below_via (Below.drew (Below.alloc (Below.alloc hB (by go_size) _) (by go_size) _)) (by go_size) hb3) (by go_size) hb4; done)
        | (refine below_via (Below.drew (below_via (Below.alloc (Below.alloc hB (by go_size) _) (by go_size) _) (by go_size) hb3)) (by go_size) hb4; done)
        | (repeat' (first | exact hB | (refine below_via ?_ ?_ hb4) | (refine below_via ?_ ?_ hb3) | refine Below.drew ?_ | refine Below.alloc ?_ ?_ _ | go_size); done)
      clear hc3 hf3 hc4 hf4 hb3 hb4 z3 z4 hB k0 k1 k2 k3
      go_wp2_with fail
      go_ret
      exact ⟨rfl, hB4⟩

theorem walkFracRounds (n d : Int) (_w0 : (Lit.int .i64 n).wf = true) (_w1 : (Lit.int .i64 d).wf = true) (m c : Int) (_w2 : (Lit.int .i64 m).wf = true) (_w3 : (Lit.int .i64 c).wf = true) (way : Int) (_w4 : (Lit.int .i64 way).wf = true) (w : World) :
    Calls Try.prog 5 #[.agg #[.int .i64 n, .int .i64 d], .agg #[.int .i64 m, .int .i64 c], .int .i64 way] w fun e w' => e = .returned (.bool true) ∧ Below w.heap.size w w' := by
  by_cases h1 : chk n d = 0
  · by_cases hw : 0 ≤ way ∧ way ≤ 3
    · by_cases hm : chk m c = 0
      · rcases Int.lt_trichotomy (n * c) (m * d) with hs | hs | hs
        · exact fr_ok_lt n d m c way w h1 hm hs hw.1 hw.2
        · exact fr_ok_eq n d m c way w h1 hm (by omega) hw.1 hw.2
        · exact fr_ok_gt n d m c way w h1 hm hs hw.1 hw.2
      · exact fr_bad_ok n d m c way w h1 hm hw.1 hw.2
    · have hw' : way < 0 ∨ 3 < way := by omega
      by_cases hm : chk m c = 0
      · rcases Int.lt_trichotomy (n * c) (m * d) with hs | hs | hs
        · exact fr_way_lt n d m c way w h1 hm hs hw'
        · exact fr_way_eq n d m c way w h1 hm (by omega) hw'
        · exact fr_way_gt n d m c way w h1 hm hs hw'
      · exact fr_bad_way n d m c way w h1 hm hw'
  · exact fr_bad n d m c way w h1
end Go.Proofs.Ythndfckapbbbfaa
