/-
  Contracts: math/bits.Mul64, talref.Mul.
-/
import Derived.Test.YthndfckapbbbfaaFracK
import Derived.StillTailTactics
import Derived.Shelf.Bits.Mul64
namespace Go.Proofs.Ythndfckapbbbfaa
open Go.RowKit Go.Lib
set_option linter.unusedVariables false
set_option maxHeartbeats 1000000 in
theorem mul64_any (x y : Nat) (hx : x < 18446744073709551616) (hy : y < 18446744073709551616) (w : World) :
    Calls Try.prog 78 #[.int .u64 x, .int .u64 y] w fun e w' => e = .returned (.tuple #[.int .u64 ((x * y / 18446744073709551616 : Nat) : Int), .int .u64 ((x * y % 18446744073709551616 : Nat) : Int)]) ∧ w = w' := by
  obtain ⟨bd, bt, bw, hhi⟩ := Lib.mul64_hi x y hx hy
  have ba := Lib.half_mul_le (a := x / 4294967296) (b := y / 4294967296) (by omega) (by omega)
  have bb := Lib.half_mul_le (a := x / 4294967296) (b := y % 4294967296) (by omega) (by omega)
  have bc := Lib.half_mul_le (a := x % 4294967296) (b := y / 4294967296) (by omega) (by omega)
  have ba' : x / 4294967296 * (y / 4294967296) < 18446744073709551616 := by omega
  have bb' : x / 4294967296 * (y % 4294967296) < 18446744073709551616 := by omega
  have bc' : x % 4294967296 * (y / 4294967296) < 18446744073709551616 := by omega
  have bh1 : x / 4294967296 * (y / 4294967296) + (x / 4294967296 * (y % 4294967296) + x % 4294967296 * (y % 4294967296) / 4294967296) / 4294967296 < 18446744073709551616 := by omega
  have bh : x / 4294967296 * (y / 4294967296) + (x / 4294967296 * (y % 4294967296) + x % 4294967296 * (y % 4294967296) / 4294967296) / 4294967296 + ((x / 4294967296 * (y % 4294967296) + x % 4294967296 * (y % 4294967296) / 4294967296) % 4294967296 + x % 4294967296 * (y / 4294967296)) / 4294967296 < 18446744073709551616 := by omega
  go_enter Try.func78, Try.ntmps78
  go_wp2
  simp only [Mul64.maskN x hx, Mul64.maskN y hy, Mul64.divN, Mul64.mulN, Mul64.addN, Mul64.wrapN _ bd, Mul64.wrapN _ bb', Mul64.wrapN _ bt, Mul64.maskN _ bt, Mul64.wrapN _ bc', Mul64.wrapN _ bw, Mul64.wrapN _ ba', Mul64.wrapN _ bh1, Mul64.wrapN _ bh, Mul64.wrapM (x * y)]
  rw [hhi]
  go_ret2
  exact ⟨rfl, rfl⟩
theorem cellS {w : World} {b b' i i' : Nat} (x : Value) (h : b' < b) : (w.setCell ⟨b, i, none⟩ x).cell? ⟨b', i', none⟩ = w.cell? ⟨b', i', none⟩ :=
  (Below.setCell (Below.refl b w) (p := ⟨b, i, none⟩) (Nat.le_refl _) x).cell (p := ⟨b', i', none⟩) h
set_option maxHeartbeats 3200000 in
theorem rmul_ok (n d m c : Int) (w : World) (h1 : chk n d = 0) (h2 : chk m c = 0) :
    Calls Try.prog 33 #[fr n d, fr m c] w fun e w' => e = .returned (told3 (mulv n d m c)) ∧ Below w.heap.size w w' := by
  have EQ := Lib.hid (show mulv n d m c = mv (Gcd.ln (Gcd.ln n d) (Gcd.ld m c)) (Gcd.ln (Gcd.ln m c) (Gcd.ld n d)) (Gcd.ld (Gcd.ln n d) (Gcd.ld m c)) (Gcd.ld (Gcd.ln m c) (Gcd.ld n d)) from rfl)
  obtain ⟨a0, a1, a2, a3⟩ := of_chk h1
  obtain ⟨b0, b1, b2, b3⟩ := of_chk h2
  clear h1 h2
  have N1 := Lib.hid (fun W => lowest_any n d W (by omega) (by omega) (by omega) (by omega))
  have N2 := Lib.hid (fun W => lowest_any m c W (by omega) (by omega) (by omega) (by omega))
  go_enter Try.func33, Try.ntmps33
  go_upto_region 1 with fail
  go_cut [] from 12 to 15 (fun wx => MW w wx (Gcd.ln n d) (Gcd.ld n d) (Gcd.ln m c) (Gcd.ld m c))
  case first =>
    have M0 := MW.first (w := w) (n := n) (d := d) (m := m) (c := c) (t := 33) (t' := 33) (t'' := 33)
    go_region_with (first
      | (go_at_call 31; (with_reducible refine (N1.out _).mono ?_); rintro e w2 ⟨rfl, hb2⟩; have M1 := MW.call (MW.drew M0) hb2; obtain ⟨⟨p0, p1, p2, p3, p4, p5⟩, ⟨q0, q1, q2, q3, q4, q5⟩, -, -⟩ := id M1)
      | (go_at_call 31; (with_reducible refine (N2.out _).mono ?_); rintro e w3 ⟨rfl, hb3⟩; have M2 := MW.call M1 hb3; obtain ⟨⟨r0, r1, r2, r3, r4, r5⟩, ⟨s0, s1, s2, s3, s4, s5⟩, -, -⟩ := id M2))
    all_goals
      go_wp2_with fail
      go_meet
      exact MW.store2 (MW.store1 M2)
  case rest =>
    have M0 := hcut
    clear hcut
    obtain ⟨⟨k0, k1, k2, k3, k4, k5⟩, ⟨f0, f1, f2, f3, f4, f5⟩, hBB, sz0⟩ := id M0
    obtain ⟨x0, x1⟩ := Gcd.ln_bd (n := n) (d := d) (M := 1000000000000) a2 a0 a1
    obtain ⟨x2, x3⟩ := Gcd.ld_bd (n := n) a2
    obtain ⟨y0, y1⟩ := Gcd.ln_bd (n := m) (d := c) (M := 1000000000000) b2 b0 b1
    obtain ⟨y2, y3⟩ := Gcd.ld_bd (n := m) b2
    generalize Gcd.ln n d = A, Gcd.ld n d = B, Gcd.ln m c = C, Gcd.ld m c = D at *
    have g1 := Gcd.g_pos (n := A) y2
    have g2 := Gcd.g_le (n := A) y2
    have g3 := Gcd.g_pos (n := C) x2
    have g4 := Gcd.g_le (n := C) x2
    have ga : Gcd.g A.natAbs D = Gcd.g A D := Gcd.g_abs A D
    have gb : Gcd.g C.natAbs B = Gcd.g C B := Gcd.g_abs C B
    go_upto_region 2 with fail
    go_quiet ((first
      | (go_at_call 77; exact quiet_left (rabs_any _ _ (by omega) (by omega)))
      | (go_at_call 76; exact (qgcd_any _ _ _ _ (by omega) (by omega) (by omega) (by omega)))))
    go_upto_region 3 with fail
    rw [ga, gb]
    go_quiet (fail)
    have e1 : A.tdiv (Gcd.g A D) = Gcd.ln A D := rfl
    have e2 : C.tdiv (Gcd.g C B) = Gcd.ln C B := rfl
    have e3 := Lib.hid (show D / (Gcd.g A D) = Gcd.ld A D from rfl)
    have e4 := Lib.hid (show B / (Gcd.g C B) = Gcd.ld C B from rfl)
    rw [e1, e2]
    clear e1 e2
    obtain ⟨u0, u1⟩ := Gcd.ln_bd (n := A) (d := D) (M := 1000000000000) y2 x0 x1
    obtain ⟨u2, u3⟩ := Gcd.ld_bd (n := A) y2
    obtain ⟨v0, v1⟩ := Gcd.ln_bd (n := C) (d := B) (M := 1000000000000) x2 y0 y1
    obtain ⟨v2, v3⟩ := Gcd.ld_bd (n := C) x2
    generalize Gcd.ln A D = X, Gcd.ln C B = Y at *
    have NM := Lib.hid (show ((X.natAbs * Y.natAbs : Nat) : Int) = (X.natAbs : Int) * (Y.natAbs : Int) from Int.natCast_mul _ _)
    have M64 := Lib.hid (fun W => mul64_any X.natAbs Y.natAbs (by omega) (by omega) W)
    go_wp2_with (first
      | (go_at_call 77; refine (rabs_any _ _ (by omega) (by omega)).mono ?_; rintro e w' ⟨rfl, rfl⟩)
      | (go_at_call 78; refine (M64.out _).mono ?_; rintro e w' ⟨rfl, rfl⟩))
    · refine bodyPost_ret (v := told3 (0, 0, 2)) (by simp [results, Try.results33, go_sem, *]) rfl ⟨?_, ?_⟩
      · rw [EQ.out]; unfold mv; rw [if_pos (by have := NM.out; omega)]
      · (repeat' (first | (with_reducible exact Below.refl _ _) | (with_reducible assumption) | (with_reducible refine Below.alloc ?_ ?_ _) | (with_reducible refine Below.drew ?_) | (with_reducible refine below_drewN ?_ _) | (with_reducible refine Below.setCell ?_ ?_ _) | go_size))
    · have hs : ¬ 1000000000000 < X.natAbs * Y.natAbs := by have := NM.out; omega
      obtain ⟨t2, t3⟩ := mul_small hs
      have HS := Lib.hid hs
      clear hs
      obtain ⟨t0, t1⟩ := den_bd (d := Gcd.ld C B) (c := Gcd.ld A D) v2 (by omega) u2 (by omega)
      have t0' : 1 ≤ B / Gcd.g C B * (D / Gcd.g A D) := by rw [e3.out, e4.out]; exact t0
      have t1' : B / Gcd.g C B * (D / Gcd.g A D) ≤ 1000000000000 := by rw [e3.out, e4.out]; exact t1
      have TT := Lib.hid (fun W => rtold_any (X * Y) (B / Gcd.g C B * (D / Gcd.g A D)) W (by omega) (by omega) (by omega) (by omega))
      have wr : IntKind.i64.wrap (B / Gcd.g C B * (D / Gcd.g A D)) = B / Gcd.g C B * (D / Gcd.g A D) := IntWalk.i64_in _ (by omega)
      have wr2 : IntKind.i64.wrap (X * Y) = X * Y := IntWalk.i64_in _ (by omega)
      have WW := Lib.hid (show IntKind.i64.wrap (IntKind.i64.wrap (B.tdiv (Gcd.g C B)) * IntKind.i64.wrap (D.tdiv (Gcd.g A D))) = B / Gcd.g C B * (D / Gcd.g A D) by
        rw [Int.tdiv_eq_ediv_of_nonneg (by omega), Int.tdiv_eq_ediv_of_nonneg (by omega)]
        rw [IntWalk.i64_in (B / Gcd.g C B) (by rw [e4.out]; omega), IntWalk.i64_in (D / Gcd.g A D) (by rw [e3.out]; omega), wr])
      have z1 : (Gcd.g A D == 0) = false := by simp; omega
      have z2 : (Gcd.g C B == 0) = false := by simp; omega
      have z3 : Gcd.g A D ≠ 0 := by omega
      have z4 : Gcd.g C B ≠ 0 := by omega
      go_region_held3 (fun w' => w'.cell? ⟨w.heap.size, 1, none⟩ = some (.int .i64 B) ∧ w'.cell? ⟨w.heap.size + 1, 1, none⟩ = some (.int .i64 D))
        (first
          | (go_keep; done)
          | (go_split_ands; refine ⟨?_, ?_⟩ <;> first
            | (go_keep; done)
            | (go_side; done)
            | (rw [cellS _ (by omega), cellS _ (by omega)]; assumption)))
        (first
          | (go_at_call 32; rw [WW.out]; (with_reducible refine (TT.out _).mono ?_); rintro e w4 ⟨rfl, hb4⟩; have M2 := MW.call (show MW w _ A B C D by (repeat' (first | (with_reducible assumption) | (with_reducible refine MW.drew ?_) | (with_reducible refine MW.drewN ?_ _) | (with_reducible refine MW.alloc ?_ _)))) hb4; obtain ⟨⟨r0, r1, r2, r3, r4, r5⟩, ⟨s0, s1, s2, s3, s4, s5⟩, hB4, -⟩ := id M2))
      all_goals
        go_wp2_with fail
        refine bodyPost_ret (v := told3 (tl (X * Y) (B / Gcd.g C B * (D / Gcd.g A D)))) (by simp [results, Try.results33, go_sem, *]) rfl ⟨?_, ?_⟩
        · rw [EQ.out]; unfold mv; rw [if_neg HS.out, e3.out, e4.out, Int.mul_comm (Gcd.ld C B)]
        · (repeat' (first | (with_reducible exact Below.refl _ _) | (with_reducible assumption) | (with_reducible refine Below.alloc ?_ ?_ _) | (with_reducible refine Below.drew ?_) | (with_reducible refine below_drewN ?_ _) | (with_reducible refine Below.setCell ?_ ?_ _) | go_size))
    · refine bodyPost_ret (v := told3 (0, 0, 2)) (by simp [results, Try.results33, go_sem, *]) rfl ⟨?_, ?_⟩
      · rw [EQ.out]; unfold mv; rw [if_pos (by have := NM.out; omega)]
      · (repeat' (first | (with_reducible exact Below.refl _ _) | (with_reducible assumption) | (with_reducible refine Below.alloc ?_ ?_ _) | (with_reducible refine Below.drew ?_) | (with_reducible refine below_drewN ?_ _) | (with_reducible refine Below.setCell ?_ ?_ _) | go_size))
end Go.Proofs.Ythndfckapbbbfaa
