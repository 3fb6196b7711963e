/-
  Contract: frac.Mul.
-/
import Derived.Test.YthndfckapbbbfaaFracJ
import Derived.Deep.RegionWith
import Derived.Deep.RegionHeld3
import Derived.Deep.CutBlock
import Derived.Deep.CutRange
namespace Go.Proofs.Ythndfckapbbbfaa
open Go.RowKit
set_option linter.unusedVariables false
/-- the boxes of Mul's two arguments and of its result -/
def MW (w wx : World) (n d m c : Int) : Prop :=
  (wx.cell? ⟨w.heap.size, 0, none⟩ = some (.int .i64 n) ∧ wx.cell? ⟨w.heap.size, 1, none⟩ = some (.int .i64 d) ∧ wx.cell? ⟨w.heap.size + 1, 0, none⟩ = some (.int .i64 m) ∧ wx.cell? ⟨w.heap.size + 1, 1, none⟩ = some (.int .i64 c) ∧ wx.cell? ⟨w.heap.size + 2, 0, none⟩ = some (.int .i64 0) ∧ wx.cell? ⟨w.heap.size + 2, 1, none⟩ = some (.int .i64 0)) ∧
  (wx.frozen? ⟨w.heap.size, 0, none⟩ = false ∧ wx.frozen? ⟨w.heap.size, 1, none⟩ = false ∧ wx.frozen? ⟨w.heap.size + 1, 0, none⟩ = false ∧ wx.frozen? ⟨w.heap.size + 1, 1, none⟩ = false ∧ wx.frozen? ⟨w.heap.size + 2, 0, none⟩ = false ∧ wx.frozen? ⟨w.heap.size + 2, 1, none⟩ = false) ∧
  Below w.heap.size w wx ∧ w.heap.size + 2 < wx.heap.size
theorem MW.call {w wx w1 : World} {n d m c : Int} (h : MW w wx n d m c) (hb : Below wx.heap.size wx w1) : MW w w1 n d m c := by
  obtain ⟨⟨a0, a1, a2, a3, a4, a5⟩, ⟨b0, b1, b2, b3, b4, b5⟩, hB, hz⟩ := h
  obtain ⟨hc, hf⟩ := bcell hb
  refine ⟨⟨?_, ?_, ?_, ?_, ?_, ?_⟩, ⟨?_, ?_, ?_, ?_, ?_, ?_⟩, below_via hB (by omega) hb, by have := hb.size; omega⟩
  all_goals first
    | (rw [hc _ _ (by omega)]; assumption)
    | (rw [hf _ _ (by omega)]; assumption)
theorem MW.drew {w wx : World} {n d m c : Int} (h : MW w wx n d m c) : MW w wx.drew n d m c := by
  obtain ⟨⟨a0, a1, a2, a3, a4, a5⟩, ⟨b0, b1, b2, b3, b4, b5⟩, hB, hz⟩ := h
  exact ⟨⟨a0, a1, a2, a3, a4, a5⟩, ⟨b0, b1, b2, b3, b4, b5⟩, hB.drew, hz⟩
theorem MW.alloc {w wx : World} {n d m c : Int} (h : MW w wx n d m c) (o : Obj) : MW w (wx.alloc o) n d m c :=
  h.call ((Below.refl _ _).alloc (Nat.le_refl _) o)
theorem MW.drewN {w wx : World} {n d m c : Int} (h : MW w wx n d m c) (k : Nat) : MW w (wx.drewN k) n d m c := h.call (below_drewN (Below.refl _ _) k)
theorem mul_small {X Y : Int} (h : ¬ 1000000000000 < X.natAbs * Y.natAbs) : -1000000000000 ≤ X * Y ∧ X * Y ≤ 1000000000000 := by
  have := Int.natAbs_mul X Y
  omega
theorem div_gt {X Y : Int} (hX : X ≠ 0) : (1000000000000 / (X.natAbs : Int) < (Y.natAbs : Int)) ↔ 1000000000000 < X.natAbs * Y.natAbs := by
  rw [← Gcd.mul_gt (by omega)]
  have : (1000000000000 / (X.natAbs : Int)) = ((1000000000000 / X.natAbs : Nat) : Int) := by simp
  rw [this]
  omega
theorem MW.first {w : World} {n d m c : Int} {t t' t'' : TypeId} : MW w (((w.alloc (.cells #[.int .i64 n, .int .i64 d] t)).alloc (.cells #[.int .i64 m, .int .i64 c] t')).alloc (.cells #[.int .i64 0, .int .i64 0] t'')) n d m c := by
  refine ⟨⟨?_, ?_, ?_, ?_, ?_, ?_⟩, ⟨?_, ?_, ?_, ?_, ?_, ?_⟩, by (repeat' (first | (with_reducible exact Below.refl _ _) | (with_reducible assumption) | (with_reducible refine Below.alloc ?_ ?_ _) | (with_reducible refine Below.drew ?_) | (with_reducible refine below_drewN ?_ _) | (with_reducible refine Below.setCell ?_ ?_ _) | go_size)), by simp⟩ <;> go_side
theorem MW.store1 {w wx : World} {n d m c a b : Int} (h : MW w wx n d m c) : MW w ((wx.setCell ⟨w.heap.size, 0, none⟩ (.int .i64 a)).setCell ⟨w.heap.size, 1, none⟩ (.int .i64 b)) a b m c := by
  obtain ⟨⟨a0, a1, a2, a3, a4, a5⟩, ⟨b0, b1, b2, b3, b4, b5⟩, hB, hz⟩ := h
  refine ⟨⟨?_, ?_, ?_, ?_, ?_, ?_⟩, ⟨?_, ?_, ?_, ?_, ?_, ?_⟩, by (repeat' (first | (with_reducible exact Below.refl _ _) | (with_reducible assumption) | (with_reducible refine Below.alloc ?_ ?_ _) | (with_reducible refine Below.drew ?_) | (with_reducible refine below_drewN ?_ _) | (with_reducible refine Below.setCell ?_ ?_ _) | go_size)), by simpa using hz⟩ <;> go_side
theorem MW.store2 {w wx : World} {n d m c a b : Int} (h : MW w wx n d m c) : MW w ((wx.setCell ⟨w.heap.size + 1, 0, none⟩ (.int .i64 a)).setCell ⟨w.heap.size + 1, 1, none⟩ (.int .i64 b)) n d a b := by
  obtain ⟨⟨a0, a1, a2, a3, a4, a5⟩, ⟨b0, b1, b2, b3, b4, b5⟩, hB, hz⟩ := h
  refine ⟨⟨?_, ?_, ?_, ?_, ?_, ?_⟩, ⟨?_, ?_, ?_, ?_, ?_, ?_⟩, by (repeat' (first | (with_reducible exact Below.refl _ _) | (with_reducible assumption) | (with_reducible refine Below.alloc ?_ ?_ _) | (with_reducible refine Below.drew ?_) | (with_reducible refine below_drewN ?_ _) | (with_reducible refine Below.setCell ?_ ?_ _) | go_size)), by simpa using hz⟩ <;> go_side
/-- Mul's answer from the terms cut crosswise -/
def mv (X Y P Q : Int) : Int × Int × Int := if 1000000000000 < X.natAbs * Y.natAbs then (0, 0, 2) else tl (X * Y) (P * Q)
def mulv (n d m c : Int) : Int × Int × Int := mv (Gcd.ln (Gcd.ln n d) (Gcd.ld m c)) (Gcd.ln (Gcd.ln m c) (Gcd.ld n d)) (Gcd.ld (Gcd.ln n d) (Gcd.ld m c)) (Gcd.ld (Gcd.ln m c) (Gcd.ld n d))
set_option maxHeartbeats 3200000 in
theorem fmul_ok (n d m c : Int) (w : World) (h1 : chk n d = 0) (h2 : chk m c = 0) :
    Calls Try.prog 29 #[fr n d, fr m c] w fun e w' => e = .returned (told3 (mulv n d m c)) ∧ Below w.heap.size w w' := by
  have EQ := Lib.hid (show mulv n d m c = mv (Gcd.ln (Gcd.ln n d) (Gcd.ld m c)) (Gcd.ln (Gcd.ln m c) (Gcd.ld n d)) (Gcd.ld (Gcd.ln n d) (Gcd.ld m c)) (Gcd.ld (Gcd.ln m c) (Gcd.ld n d)) from rfl)
  obtain ⟨a0, a1, a2, a3⟩ := of_chk h1
  obtain ⟨b0, b1, b2, b3⟩ := of_chk h2
  have C := two_any n d m c
  rw [chk2_t h1, h2] at C
  have CC := Lib.hid C
  clear C h1 h2
  have N1 := Lib.hid (fun W => norm_any n d W (by omega) (by omega) (by omega) (by omega))
  have N2 := Lib.hid (fun W => norm_any m c W (by omega) (by omega) (by omega) (by omega))
  go_enter Try.func29, Try.ntmps29
  go_wp2_with fail
  refine (CC.out _).mono ?_
  rintro e w1 ⟨rfl, hb1⟩
  have M0 := MW.call MW.first hb1
  clear hb1
  obtain ⟨⟨k0, k1, k2, k3, k4, k5⟩, ⟨f0, f1, f2, f3, f4, f5⟩, -, -⟩ := id M0
  go_upto_region 4 with fail
  go_cut [] from 16 to 19 (fun wx => MW w wx (Gcd.ln n d) (Gcd.ld n d) (Gcd.ln m c) (Gcd.ld m c))
  case first =>
    go_region_with (first
      | (go_at_call 72; (with_reducible refine (N1.out _).mono ?_); rintro e w2 ⟨rfl, hb2⟩; have M1 := MW.call (MW.drew M0) hb2; obtain ⟨⟨p0, p1, p2, p3, p4, p5⟩, ⟨q0, q1, q2, q3, q4, q5⟩, -, -⟩ := id M1)
      | (go_at_call 72; (with_reducible refine (N2.out _).mono ?_); rintro e w3 ⟨rfl, hb3⟩; have M2 := MW.call M1 hb3; obtain ⟨⟨r0, r1, r2, r3, r4, r5⟩, ⟨s0, s1, s2, s3, s4, s5⟩, -, -⟩ := id M2))
    all_goals
      go_wp2_with fail
      go_meet
      first | exact MW.store2 (MW.store1 M2) | trace_state
  case rest =>
    clear M0 k0 k1 k2 k3 k4 k5 f0 f1 f2 f3 f4 f5
    have M0 := hcut
    clear hcut
    obtain ⟨⟨k0, k1, k2, k3, k4, k5⟩, ⟨f0, f1, f2, f3, f4, f5⟩, -, sz0⟩ := id M0
    obtain ⟨x0, x1⟩ := Gcd.ln_bd (n := n) (d := d) (M := 1000000000000) a2 a0 a1
    obtain ⟨x2, x3⟩ := Gcd.ld_bd (n := n) a2
    obtain ⟨y0, y1⟩ := Gcd.ln_bd (n := m) (d := c) (M := 1000000000000) b2 b0 b1
    obtain ⟨y2, y3⟩ := Gcd.ld_bd (n := m) b2
    generalize Gcd.ln n d = A, Gcd.ld n d = B, Gcd.ln m c = C, Gcd.ld m c = D at *
    go_upto_region 5 with fail
    go_cut [7, 8] from 20 to 31 (fun x y wx => ∃ p q : Nat, x = .pointer (some ⟨p, 0, none⟩) ∧ y = .pointer (some ⟨q, 0, none⟩) ∧ MW w wx A B C D ∧
      wx.cell? ⟨p, 0, none⟩ = some (.int .i64 (Gcd.ln A D)) ∧ wx.cell? ⟨p, 1, none⟩ = some (.int .i64 (Gcd.ld A D)) ∧ wx.cell? ⟨q, 0, none⟩ = some (.int .i64 (Gcd.ln C B)) ∧ wx.cell? ⟨q, 1, none⟩ = some (.int .i64 (Gcd.ld C B)))
    case first =>
      have N1 := Lib.hid (fun W => norm_any A D W (by omega) (by omega) (by omega) (by omega))
      have N2 := Lib.hid (fun W => norm_any C B W (by omega) (by omega) (by omega) (by omega))
      go_region_held3 (fun w' => w'.cell? ⟨w.heap.size, 0, none⟩ = some (.int .i64 A) ∧ w'.cell? ⟨w.heap.size, 1, none⟩ = some (.int .i64 B) ∧ w'.cell? ⟨w.heap.size + 1, 0, none⟩ = some (.int .i64 C) ∧ w'.cell? ⟨w.heap.size + 1, 1, none⟩ = some (.int .i64 D))
        (first
          | (go_keep; done)
          | (go_split_ands; refine ⟨?_, ?_, ?_, ?_⟩ <;> first
            | (go_keep; done)
            | (rw [cellO _ (by go_size)]; go_side)
            | (rw [cellO _ (by go_size), cellO _ (by go_size)]; go_side)
            | go_side))
        (first
          | (go_at_call 72; (with_reducible refine (N1.out _).mono ?_); rintro e w2 ⟨rfl, hb2⟩; have M1 := MW.call (show MW w _ A B C D by (repeat' (first | (with_reducible assumption) | (with_reducible refine MW.drew ?_) | (with_reducible refine MW.drewN ?_ _) | (with_reducible refine MW.alloc ?_ _)))) hb2; obtain ⟨⟨p0, p1, p2, p3, p4, p5⟩, ⟨q0, q1, q2, q3, q4, q5⟩, -, sz2⟩ := id M1; have hB2 : Below wc.heap.size wc w2 := below_via (by (repeat' (first | (with_reducible exact Below.refl _ _) | (with_reducible assumption) | (with_reducible refine Below.alloc ?_ ?_ _) | (with_reducible refine Below.drew ?_) | (with_reducible refine below_drewN ?_ _) | (with_reducible refine Below.setCell ?_ ?_ _) | go_size))) (by go_size) hb2; have z2 := hb2.size; (try simp at z2); obtain ⟨hc2, hf2⟩ := bcell hb2; (try (have gw20 : w2.cell? ⟨wc.heap.size, 0, none⟩ = some (.int .i64 0) := by (rw [hc2 _ _ (by go_size)]; go_side))); (try (have jw20 : w2.frozen? ⟨wc.heap.size, 0, none⟩ = false := by (rw [hf2 _ _ (by go_size)]; go_side))); (try (have gw21 : w2.cell? ⟨wc.heap.size, 1, none⟩ = some (.int .i64 0) := by (rw [hc2 _ _ (by go_size)]; go_side))); (try (have jw21 : w2.frozen? ⟨wc.heap.size, 1, none⟩ = false := by (rw [hf2 _ _ (by go_size)]; go_side))); (try (have gw22 : w2.cell? ⟨wc.heap.size + 1, 0, none⟩ = some (.int .i64 0) := by (rw [hc2 _ _ (by go_size)]; go_side))); (try (have jw22 : w2.frozen? ⟨wc.heap.size + 1, 0, none⟩ = false := by (rw [hf2 _ _ (by go_size)]; go_side))); (try (have gw23 : w2.cell? ⟨wc.heap.size + 1, 1, none⟩ = some (.int .i64 0) := by (rw [hc2 _ _ (by go_size)]; go_side))); (try (have jw23 : w2.frozen? ⟨wc.heap.size + 1, 1, none⟩ = false := by (rw [hf2 _ _ (by go_size)]; go_side))); (try (have y20 : wc.heap.size < w2.heap.size := by go_size)); (try (have y21 : wc.heap.size + 1 < w2.heap.size := by go_size)); clear hc2 hf2)
          | (go_at_call 72; (with_reducible refine (N2.out _).mono ?_); rintro e w3 ⟨rfl, hb3⟩; have M2 := MW.call (show MW w _ A B C D by (repeat' (first | (with_reducible assumption) | (with_reducible refine MW.drew ?_) | (with_reducible refine MW.drewN ?_ _) | (with_reducible refine MW.alloc ?_ _)))) hb3; obtain ⟨⟨r0, r1, r2, r3, r4, r5⟩, ⟨s0, s1, s2, s3, s4, s5⟩, -, sz3⟩ := id M2; have hB3 : Below wc.heap.size wc w3 := below_via (by (repeat' (first | (with_reducible exact Below.refl _ _) | (with_reducible assumption) | (with_reducible refine Below.alloc ?_ ?_ _) | (with_reducible refine Below.drew ?_) | (with_reducible refine below_drewN ?_ _) | (with_reducible refine Below.setCell ?_ ?_ _) | go_size))) (by go_size) hb3; have z3 := hb3.size; (try simp at z3); obtain ⟨hc3, hf3⟩ := bcell hb3; (try (have gw30 : w3.cell? ⟨wc.heap.size, 0, none⟩ = some (.int .i64 0) := by (rw [hc3 _ _ (by go_size)]; go_side))); (try (have jw30 : w3.frozen? ⟨wc.heap.size, 0, none⟩ = false := by (rw [hf3 _ _ (by go_size)]; go_side))); (try (have gw31 : w3.cell? ⟨wc.heap.size, 1, none⟩ = some (.int .i64 0) := by (rw [hc3 _ _ (by go_size)]; go_side))); (try (have jw31 : w3.frozen? ⟨wc.heap.size, 1, none⟩ = false := by (rw [hf3 _ _ (by go_size)]; go_side))); (try (have gw32 : w3.cell? ⟨wc.heap.size + 1, 0, none⟩ = some (.int .i64 0) := by (rw [hc3 _ _ (by go_size)]; go_side))); (try (have jw32 : w3.frozen? ⟨wc.heap.size + 1, 0, none⟩ = false := by (rw [hf3 _ _ (by go_size)]; go_side))); (try (have gw33 : w3.cell? ⟨wc.heap.size + 1, 1, none⟩ = some (.int .i64 0) := by (rw [hc3 _ _ (by go_size)]; go_side))); (try (have jw33 : w3.frozen? ⟨wc.heap.size + 1, 1, none⟩ = false := by (rw [hf3 _ _ (by go_size)]; go_side))); (try (have gw34 : w3.cell? ⟨w2.heap.size, 0, none⟩ = some (.int .i64 0) := by (rw [hc3 _ _ (by go_size)]; go_side))); (try (have jw34 : w3.frozen? ⟨w2.heap.size, 0, none⟩ = false := by (rw [hf3 _ _ (by go_size)]; go_side))); (try (have gw35 : w3.cell? ⟨w2.heap.size, 1, none⟩ = some (.int .i64 0) := by (rw [hc3 _ _ (by go_size)]; go_side))); (try (have jw35 : w3.frozen? ⟨w2.heap.size, 1, none⟩ = false := by (rw [hf3 _ _ (by go_size)]; go_side))); (try (have gw36 : w3.cell? ⟨w2.heap.size + 1, 0, none⟩ = some (.int .i64 0) := by (rw [hc3 _ _ (by go_size)]; go_side))); (try (have jw36 : w3.frozen? ⟨w2.heap.size + 1, 0, none⟩ = false := by (rw [hf3 _ _ (by go_size)]; go_side))); (try (have gw37 : w3.cell? ⟨w2.heap.size + 1, 1, none⟩ = some (.int .i64 0) := by (rw [hc3 _ _ (by go_size)]; go_side))); (try (have jw37 : w3.frozen? ⟨w2.heap.size + 1, 1, none⟩ = false := by (rw [hf3 _ _ (by go_size)]; go_side))); (try (have y30 : wc.heap.size < w3.heap.size := by go_size)); (try (have y31 : wc.heap.size + 1 < w3.heap.size := by go_size)); (try (have y32 : w2.heap.size < w3.heap.size := by go_size)); (try (have y33 : w2.heap.size + 1 < w3.heap.size := by go_size)); clear hc3 hf3))
      all_goals
        go_wp2_with fail
        go_meet
        refine ⟨_, _, rfl, rfl, MW.call M0 ?_, ?_, ?_, ?_, ?_⟩
        · (repeat' (first | (with_reducible exact Below.refl _ _) | (with_reducible assumption) | (with_reducible refine Below.alloc ?_ ?_ _) | (with_reducible refine Below.drew ?_) | (with_reducible refine below_drewN ?_ _) | (with_reducible refine Below.setCell ?_ ?_ _) | go_size))
        all_goals first
          | (go_side; done)
          | (rw [cellO _ (by go_size)]; go_side; done)
          | (rw [cellO _ (by go_size), cellO _ (by go_size)]; go_side; done)
          | trace_state
    case rest =>
      obtain ⟨p, q, rfl, rfl, M1, l0, l1, l2, l3⟩ := hcut
      clear k0 k1 k2 k3 k4 k5 f0 f1 f2 f3 f4 f5 M0 sz0
      obtain ⟨⟨k0, k1, k2, k3, k4, k5⟩, ⟨f0, f1, f2, f3, f4, f5⟩, hBB, sz0⟩ := id M1
      obtain ⟨u0, u1⟩ := Gcd.ln_bd (n := A) (d := D) (M := 1000000000000) y2 x0 x1
      obtain ⟨u2, u3⟩ := Gcd.ld_bd (n := A) y2
      obtain ⟨v0, v1⟩ := Gcd.ln_bd (n := C) (d := B) (M := 1000000000000) x2 y0 y1
      obtain ⟨v2, v3⟩ := Gcd.ld_bd (n := C) x2
      generalize Gcd.ln A D = X, Gcd.ld A D = P, Gcd.ln C B = Y, Gcd.ld C B = Q at *
      obtain ⟨t0, t1⟩ := den_bd (d := P) (c := Q) u2 (by omega) v2 (by omega)
      by_cases hX : X = 0
      · subst hX
        have TT := Lib.hid (fun W => told_any 0 (P * Q) W (by omega) (by omega) (by omega) (by omega))
        go_upto_region 6 with fail
        go_quiet (fail)
        go_wp2_with (go_at_call 73; (with_reducible refine (TT.out _).mono ?_); rintro e w4 ⟨rfl, hb4⟩; have M2 := MW.call (show MW w _ A B C D by (repeat' (first | (with_reducible assumption) | (with_reducible refine MW.drew ?_) | (with_reducible refine MW.drewN ?_ _) | (with_reducible refine MW.alloc ?_ _)))) hb4; obtain ⟨⟨r0, r1, r2, r3, r4, r5⟩, ⟨s0, s1, s2, s3, s4, s5⟩, hB4, -⟩ := id M2)
        refine bodyPost_ret (v := told3 (tl 0 (P * Q))) (by simp [results, Try.results29, go_sem, *]) rfl ⟨?_, ?_⟩
        · rw [EQ.out]; unfold mv; simp
        · (repeat' (first | (with_reducible exact Below.refl _ _) | (with_reducible assumption) | (with_reducible refine Below.alloc ?_ ?_ _) | (with_reducible refine Below.drew ?_) | (with_reducible refine below_drewN ?_ _) | (with_reducible refine Below.setCell ?_ ?_ _) | go_size))
      · have b1 : (X == 0) = false := by simp; exact hX
        have b2 : (X != 0) = true := by simp; exact hX
        have hp : 1 ≤ X.natAbs := by omega
        have hz : ((X.natAbs : Int) == 0) = false := by simp; exact hX
        by_cases hs : 1000000000000 < X.natAbs * Y.natAbs
        · have gd := (div_gt hX).2 hs
          have HS := Lib.hid hs
          clear hs
          go_upto_region 6 with fail
          go_quiet ((go_at_call 74; exact quiet_left (abs_any _ _ (by omega) (by omega))))
          go_wp2_with fail
          refine bodyPost_ret (v := told3 (0, 0, 2)) (by simp [results, Try.results29, go_sem, *]) rfl ⟨?_, ?_⟩
          · rw [EQ.out]; unfold mv; rw [if_pos HS.out]
          · (repeat' (first | (with_reducible exact Below.refl _ _) | (with_reducible assumption) | (with_reducible refine Below.alloc ?_ ?_ _) | (with_reducible refine Below.drew ?_) | (with_reducible refine below_drewN ?_ _) | (with_reducible refine Below.setCell ?_ ?_ _) | go_size))
        · have gd : ¬ (1000000000000 / (X.natAbs : Int) < (Y.natAbs : Int)) := fun h => hs ((div_gt hX).1 h)
          obtain ⟨t2, t3⟩ := mul_small hs
          have HS := Lib.hid hs
          clear hs
          have TT := Lib.hid (fun W => told_any (X * Y) (P * Q) W (by omega) (by omega) (by omega) (by omega))
          go_upto_region 6 with fail
          go_quiet ((go_at_call 74; exact quiet_left (abs_any _ _ (by omega) (by omega))))
          go_wp2_with (go_at_call 73; (with_reducible refine (TT.out _).mono ?_); rintro e w4 ⟨rfl, hb4⟩; have M2 := MW.call (show MW w _ A B C D by (repeat' (first | (with_reducible assumption) | (with_reducible refine MW.drew ?_) | (with_reducible refine MW.drewN ?_ _) | (with_reducible refine MW.alloc ?_ _)))) hb4; obtain ⟨⟨r0, r1, r2, r3, r4, r5⟩, ⟨s0, s1, s2, s3, s4, s5⟩, hB4, -⟩ := id M2)
          refine bodyPost_ret (v := told3 (tl (X * Y) (P * Q))) (by simp [results, Try.results29, go_sem, *]) rfl ⟨?_, ?_⟩
          · rw [EQ.out]; unfold mv; rw [if_neg HS.out]
          · (repeat' (first | (with_reducible exact Below.refl _ _) | (with_reducible assumption) | (with_reducible refine Below.alloc ?_ ?_ _) | (with_reducible refine Below.drew ?_) | (with_reducible refine below_drewN ?_ _) | (with_reducible refine Below.setCell ?_ ?_ _) | go_size))
end Go.Proofs.Ythndfckapbbbfaa
