/-
  Sorting by a function that is handed in, run by the machine: a row is parted (written by gen_soe.py).
-/
import Derived.Test.YtdmkmbaaemhhhaaGreatDoorP35
set_option linter.unusedVariables false
set_option linter.unusedSimpArgs false
namespace Go.So
open Go Go.Ev Go.Sort
section
variable {α : Type} [Inhabited α] {p : α → Bool} {d : Array α}
theorem scanUp_go {i j : Nat} (h : i ≤ j) (hp : p d[i]! = true) : scanUp p d j i = scanUp p d j (i + 1) := by
 rw [scanUp, if_pos (by simp only [Bool.and_eq_true, decide_eq_true_eq]; exact ⟨h, hp⟩)]
theorem scanUp_stop {i j : Nat} (h : ¬ i ≤ j ∨ p d[i]! = false) : scanUp p d j i = i := by
 rw [scanUp, if_neg (by
  simp only [Bool.and_eq_true, decide_eq_true_eq, not_and, Bool.not_eq_true]
  intro h0
  rcases h with h | h
  ·exact absurd h0 h
  ·exact h)]
theorem scanDown_go {i j : Nat} (h0 : 0 < j) (h : i ≤ j) (hp : p d[j]! = true) : scanDown p d i j = scanDown p d i (j - 1) := by
 obtain ⟨k, rfl⟩ : ∃ k, j = k + 1 := ⟨j - 1, by omega⟩
 rw [Nat.add_sub_cancel, scanDown, if_pos (by simp only [Bool.and_eq_true, decide_eq_true_eq]; exact ⟨h, hp⟩)]
theorem scanDown_stop {i j : Nat} (h : ¬ i ≤ j ∨ p d[j]! = false) : scanDown p d i j = j := by
 cases j with
 | zero => rfl
 | succ k =>
  rw [scanDown, if_neg (by
   simp only [Bool.and_eq_true, decide_eq_true_eq, not_and, Bool.not_eq_true]
   intro h0
   rcases h with h | h
   ·exact absurd h0 h
   ·exact h)]
end
theorem upM (i j : Nat) (h : i ≤ j) : j + 1 - ((i : Int) + 1).toNat < j + 1 - (i : Int).toNat := by
 rw [show ((i : Int) + 1).toNat = i + 1 by omega, Int.toNat_natCast]
 omega
theorem downM (j : Nat) (h : 0 < j) : ((j : Int) - 1).toNat < (j : Int).toNat := by
 rw [show ((j : Int) - 1).toNat = j - 1 by omega, Int.toNat_natCast]
 omega
end Go.So
namespace Go.Proofs.YtdmkmbaaemhhhaaGreatDoor
open Go Go.Ev Go.RowKit Go.Sort Go.So
set_option maxHeartbeats 4000000
section
variable {J : World → Prop} (hJ : Stable J) {α : Type} [Inhabited α] (S : So Tryz.prog J famF α)
include hJ in
set_option maxRecDepth 100000 in
set_option maxHeartbeats 8000000 in
theorem parteq_mut (D : Array α) (a b v : Nat) (hab : a + 1 < b) (hb : b ≤ D.size) (hv0 : v < b) (hsz : D.size < 2305843009213693950) :
  MutAt Tryz.prog J 138 (S.ks D) [S.dV, .int .i64 a, .int .i64 b, .int .i64 v] (.int .i64 (partitionEqual S.lt D a b v).1) (S.ks (partitionEqual S.lt D a b v).2) := by
 have hend := S.ksLone (partitionEqual S.lt D a b v).2
 have nes := S.ne
 obtain ⟨j0, hj0⟩ : ∃ j0 : Nat, j0 = b - 1 := ⟨_, rfl⟩
 have hjb : (b : Int) - 1 = (j0 : Int) := by omega
 unfold So.dV
 unfold So.ks partitionEqual at hend ⊢
 rw [← hj0] at hend ⊢
 have s0 := S.hS D a v (by omega) (by omega)
 have z0 : (swp D a v).size = D.size := size_swp D a v
 generalize swp D a v = D1 at *
 refine evMut (l := []) (nv := nv0) (fz := fz0) (dr := dr138) (dd := dd138) (lam := []) (ms := ⟨[(S.lf, S.LF), (S.sf, S.SF)], lnL [(15, [1000000, 1000001]), (28, [1000000, 1000001]), (41, [1000000, 1000001]), (52, [1000000, 1000001])], []⟩) trivial hJ trivial ⟨⟨S.hLF, S.hSF, trivial⟩, trivial⟩ Tryz.func138 rfl rfl (Nat.le_of_ble_eq_true rfl) (Nat.le_of_ble_eq_true rfl) drOk138 rfl rfl ?_ ?_
 rotate_left
 dsimp only [Tryz.f138, dr138, dd138, Option.getD_some]
 refine ev_start ?_
 ·simp (disch := omega) only [s0, hjb, nes, S.all, S.bmv, S.bbk, S.br, go_sem, evP_D, evD_guard, evD_cons, evD_zero, evD_nil]
  refine evQ_loop [1, 4, 9, 10] [1000000, 1000001, 32] (fun σ => ∃ (i j : Nat) (E : Array α), (a < i ∧ i ≤ j + 1 ∧ j < b ∧ E.size = D.size ∧ partEqLoop S.lt a i j E = partEqLoop S.lt a (a + 1) j0 D1) ∧ σ = ⟨[(1, .int .i64 a), (4, .ptr 32 0), (9, .int .i64 i), (10, .int .i64 j)], [(1000000, .vec S.T S.sz (E.toList.map S.enc)), (1000001, .box S.bv), (32, .box (.agg [.fn S.lf [.ptr 1000001 0], .fn S.sf [.vec 1000000, .raw S.hd]]))]⟩)
   (fun σ => (match Ev.look 10 σ.env with | some (.int _ n) => (n + 1).toNat | _ => 0) - (match Ev.look 9 σ.env with | some (.int _ n) => n.toNat | _ => 0)) ?_ ?_
  ·simp only [S.br, go_sem, evP_D, evD_guard, evD_cons, evD_zero, evD_nil]
   exact ⟨a + 1, j0, D1, ⟨by omega, by omega, by omega, z0, rfl⟩, rfl⟩
  ·rintro σ ⟨i0, j1, E, ⟨hai, hij, hjb2, hE, hO⟩, rfl⟩
   obtain ⟨I, hI⟩ : ∃ I, I = scanUp (fun x => !S.lt E[a]! x) E j1 i0 := ⟨_, rfl⟩
   obtain ⟨K, hK⟩ : ∃ K, K = scanDown (fun x => S.lt E[a]! x) E I j1 := ⟨_, rfl⟩
   have b1 := scanUp_ge (fun x => !S.lt E[a]! x) E j1 i0
   have b2 := (scanUp_spec (fun x => !S.lt E[a]! x) E j1 _ i0 rfl).2.1 hij
   rw [← hI] at b1 b2
   have b3 := scanDown_le (fun x => S.lt E[a]! x) E I j1
   have b4 := (scanDown_spec (fun x => S.lt E[a]! x) E I j1).2.1 (by omega)
   rw [← hK] at b3 b4
   rw [partEqLoop_eq, ← hI, ← hK] at hO
   simp (disch := omega) only [S.br, go_sem, evP_D, evD_guard, evD_cons, evD_zero, evD_nil]
   refine evQ_mono (fun e τ => e = .exit 2 ∧ τ = ⟨[(1, .int .i64 a), (4, .ptr 32 0), (9, .int .i64 I), (10, .int .i64 j1), (30, .bool false)], [(1000000, .vec S.T S.sz (E.toList.map S.enc)), (1000001, .box S.bv), (32, .box (.agg [.fn S.lf [.ptr 1000001 0], .fn S.sf [.vec 1000000, .raw S.hd]]))]⟩) ?_ ?_
   ·refine evQ_loop [1, 4, 9, 10] [1000000, 1000001, 32] (fun σ => ∃ i : Nat, (i0 ≤ i ∧ i ≤ j1 + 1 ∧ scanUp (fun x => !S.lt E[a]! x) E j1 i = I) ∧ σ = ⟨[(1, .int .i64 a), (4, .ptr 32 0), (9, .int .i64 i), (10, .int .i64 j1)], [(1000000, .vec S.T S.sz (E.toList.map S.enc)), (1000001, .box S.bv), (32, .box (.agg [.fn S.lf [.ptr 1000001 0], .fn S.sf [.vec 1000000, .raw S.hd]]))]⟩)
     (fun σ => j1 + 1 - (match Ev.look 9 σ.env with | some (.int _ n) => n.toNat | _ => 0)) ?_ ?_
    ·simp only [S.br, go_sem, evP_D, evD_guard, evD_cons, evD_zero, evD_nil]
     exact ⟨i0, ⟨Nat.le_refl _, by omega, hI.symm⟩, rfl⟩
    ·rintro σ ⟨i, ⟨h1, h2, h3⟩, rfl⟩
     by_cases c1 : i ≤ j1
     ·have c1' : (i : Int) ≤ j1 := by omega
      have hl := S.hL E a i (by omega) (by omega)
      cases hv : S.lt E[a]! E[i]! with
      | false =>
       rw [hv] at hl
       simp (disch := omega) only [c1', hl, S.all, S.bmv, S.bbk, S.br, go_sem, evP_D, evD_guard, evD_cons, evD_zero, evD_nil]
       exact ⟨⟨i + 1, ⟨by omega, by omega, by rw [← h3, scanUp_go c1 (by rw [hv]; rfl)]⟩, rfl⟩, upM _ _ c1⟩
      | true =>
       rw [hv] at hl
       rw [scanUp_stop (.inr (by rw [hv]; rfl))] at h3
       subst h3
       simp (disch := omega) only [c1', hl, S.all, S.bmv, S.bbk, S.br, go_sem, evP_D, evD_guard, evD_cons, evD_zero, evD_nil]
     ·have c1' : ¬ (i : Int) ≤ j1 := by omega
      rw [scanUp_stop (.inl c1)] at h3
      subst h3
      simp (disch := omega) only [c1', go_sem, evP_D, evD_guard, evD_cons, evD_zero, evD_nil]
   ·rintro e τ ⟨rfl, rfl⟩
    simp (disch := omega) only [S.br, go_sem, evP_D, evD_guard, evD_cons, evD_zero, evD_nil]
    refine evQ_mono (fun e τ => e = .exit 4 ∧ τ = ⟨[(1, .int .i64 a), (4, .ptr 32 0), (9, .int .i64 I), (10, .int .i64 K), (42, .bool false)], [(1000000, .vec S.T S.sz (E.toList.map S.enc)), (1000001, .box S.bv), (32, .box (.agg [.fn S.lf [.ptr 1000001 0], .fn S.sf [.vec 1000000, .raw S.hd]]))]⟩) ?_ ?_
    ·refine evQ_loop [1, 4, 9, 10] [1000000, 1000001, 32] (fun σ => ∃ j : Nat, (j ≤ j1 ∧ I ≤ j + 1 ∧ scanDown (fun x => S.lt E[a]! x) E I j = K) ∧ σ = ⟨[(1, .int .i64 a), (4, .ptr 32 0), (9, .int .i64 I), (10, .int .i64 j)], [(1000000, .vec S.T S.sz (E.toList.map S.enc)), (1000001, .box S.bv), (32, .box (.agg [.fn S.lf [.ptr 1000001 0], .fn S.sf [.vec 1000000, .raw S.hd]]))]⟩)
      (fun σ => (match Ev.look 10 σ.env with | some (.int _ n) => n.toNat | _ => 0)) ?_ ?_
     ·simp only [S.br, go_sem, evP_D, evD_guard, evD_cons, evD_zero, evD_nil]
      exact ⟨j1, ⟨Nat.le_refl _, by omega, hK.symm⟩, rfl⟩
     ·rintro σ ⟨j, ⟨h1, h2, h3⟩, rfl⟩
      by_cases c1 : I ≤ j
      ·have c1' : (I : Int) ≤ j := by omega
       have hl := S.hL E a j (by omega) (by omega)
       cases hv : S.lt E[a]! E[j]! with
       | true =>
        rw [hv] at hl
        simp (disch := omega) only [c1', hl, S.all, S.bmv, S.bbk, S.br, go_sem, evP_D, evD_guard, evD_cons, evD_zero, evD_nil]
        exact ⟨⟨j - 1, ⟨by omega, by omega, by rw [← h3, scanDown_go (by omega) c1 (by rw [hv])]⟩, by rw [subI (by omega)]⟩, downM _ (by omega)⟩
       | false =>
        rw [hv] at hl
        rw [scanDown_stop (.inr (by rw [hv]))] at h3
        subst h3
        simp (disch := omega) only [c1', hl, S.all, S.bmv, S.bbk, S.br, go_sem, evP_D, evD_guard, evD_cons, evD_zero, evD_nil]
      ·have c1' : ¬ (I : Int) ≤ j := by omega
       rw [scanDown_stop (.inl c1)] at h3
       subst h3
       simp (disch := omega) only [c1', go_sem, evP_D, evD_guard, evD_cons, evD_zero, evD_nil]
    ·rintro e τ ⟨rfl, rfl⟩
     by_cases hgt : I > K
     ·have hgt' : (I : Int) > K := by omega
      have hgt2 : (K : Int) < I := by omega
      rw [if_pos hgt] at hO
      have h1 : (partEqLoop S.lt a (a + 1) j0 D1).1 = I := by rw [← hO]
      have h2 : (partEqLoop S.lt a (a + 1) j0 D1).2 = E := by rw [← hO]
      rw [h1, h2]
      simp (disch := omega) only [hgt', hgt2, S.br, go_sem, evP_D, evD_guard, evD_cons, evD_zero, evD_nil]
     ·have hgt' : ¬ (I : Int) > K := by omega
      have hgt2 : ¬ (K : Int) < I := by omega
      rw [if_neg hgt] at hO
      have s1 := S.hS E I K (by omega) (by omega)
      have hlt : I < K := by
       have x1 := (scanUp_spec (fun x => !S.lt E[a]! x) E j1 _ i0 rfl).2.2.2
       rw [← hI] at x1
       have x2 := (scanDown_spec (fun x => S.lt E[a]! x) E I j1).2.2.2
       rw [← hK] at x2
       have y1 := x1 (by omega)
       have y2 := x2 (by omega) (by omega)
       rcases Nat.lt_or_ge I K with h | h
       ·exact h
       ·have e : I = K := by omega
        exact absurd y1 (by rw [e]; simpa using y2)
      simp (disch := omega) only [hgt', hgt2, s1, nes, S.all, S.bmv, S.bbk, S.br, go_sem, evP_D, evD_guard, evD_cons, evD_zero, evD_nil]
      refine ⟨⟨I + 1, K - 1, swp E I K, ⟨by omega, by omega, by omega, by rw [size_swp]; exact hE, hO⟩, by rw [subI (by omega)]; rfl⟩, ?_⟩
      rw [show ((K : Int) - 1 + 1).toNat = K by omega, show ((I : Int) + 1).toNat = I + 1 by omega, show ((j1 : Int) + 1).toNat = j1 + 1 by omega, show ((i0 : Int)).toNat = i0 by omega]
      omega
 ·exact hend
include hJ in
set_option maxRecDepth 100000 in
set_option maxHeartbeats 8000000 in
theorem part_mut (D : Array α) (a b v : Nat) (hab : a + 1 < b) (hb : b ≤ D.size) (hv0 : v < b) (hsz : D.size < 2305843009213693950) :
  MutAt Tryz.prog J 139 (S.ks D) [S.dV, .int .i64 a, .int .i64 b, .int .i64 v] (.tup [.int .i64 (partition S.lt D a b v).1, .bool (partition S.lt D a b v).2.1]) (S.ks (partition S.lt D a b v).2.2) := by
 have hend := S.ksLone (partition S.lt D a b v).2.2
 have nes := S.ne
 obtain ⟨j0, hj0⟩ : ∃ j0 : Nat, j0 = b - 1 := ⟨_, rfl⟩
 have hjb : (b : Int) - 1 = (j0 : Int) := by omega
 have s0 := S.hS D a v (by omega) (by omega)
 have z0 : (swp D a v).size = D.size := size_swp D a v
 obtain ⟨R, hR⟩ : ∃ R, R = partition S.lt D a b v := ⟨_, rfl⟩
 rw [← hR] at hend ⊢
 unfold partition at hR
 rw [← hj0] at hR
 generalize swp D a v = D1 at *
 unfold So.dV
 unfold So.ks at hend ⊢
 obtain ⟨I, hI⟩ : ∃ I, I = scanUp (fun x => S.lt x D1[a]!) D1 j0 (a + 1) := ⟨_, rfl⟩
 obtain ⟨K, hK⟩ : ∃ K, K = scanDown (fun x => !S.lt x D1[a]!) D1 I j0 := ⟨_, rfl⟩
 have b1 := scanUp_ge (fun x => S.lt x D1[a]!) D1 j0 (a + 1)
 have b2 := (scanUp_spec (fun x => S.lt x D1[a]!) D1 j0 _ (a + 1) rfl).2.1 (by omega)
 rw [← hI] at b1 b2
 have b3 := scanDown_le (fun x => !S.lt x D1[a]!) D1 I j0
 have b4 := (scanDown_spec (fun x => !S.lt x D1[a]!) D1 I j0).2.1 (by omega)
 rw [← hK] at b3 b4
 have hR2 : R = if I > K then (K, true, swp D1 K a) else ((partLoop S.lt a (I + 1) (K - 1) (swp D1 I K)).1, false, swp (partLoop S.lt a (I + 1) (K - 1) (swp D1 I K)).2 (partLoop S.lt a (I + 1) (K - 1) (swp D1 I K)).1 a) := by
  rw [hR, hK, hI]
 clear hR
 refine evMut (l := []) (nv := nv0) (fz := fz0) (dr := dr139) (dd := dd139) (lam := []) (ms := ⟨[(S.lf, S.LF), (S.sf, S.SF)], lnL [(16, [1000000, 1000001]), (29, [1000000, 1000001]), (41, [1000000, 1000001]), (53, [1000000, 1000001]), (59, [1000000, 1000001]), (72, [1000000, 1000001]), (84, [1000000, 1000001]), (96, [1000000, 1000001]), (105, [1000000, 1000001])], []⟩) trivial hJ trivial ⟨⟨S.hLF, S.hSF, trivial⟩, trivial⟩ Tryz.func139 rfl rfl (Nat.le_of_ble_eq_true rfl) (Nat.le_of_ble_eq_true rfl) drOk139 rfl rfl ?_ ?_
 rotate_left
 dsimp only [Tryz.f139, dr139, dd139, Option.getD_some]
 refine ev_start ?_
 ·simp (disch := omega) only [s0, hjb, nes, S.all, S.bmv, S.bbk, S.br, go_sem, evP_D, evD_guard, evD_cons, evD_zero, evD_nil]
  refine evQ_mono (fun e τ => e = .exit 0 ∧ τ = ⟨[(1, .int .i64 a), (4, .ptr 32 0), (10, .int .i64 I), (11, .int .i64 j0), (30, .bool false)], [(1000000, .vec S.T S.sz (D1.toList.map S.enc)), (1000001, .box S.bv), (32, .box (.agg [.fn S.lf [.ptr 1000001 0], .fn S.sf [.vec 1000000, .raw S.hd]]))]⟩) ?_ ?_
  ·refine evQ_loop [1, 4, 10, 11] [1000000, 1000001, 32] (fun σ => ∃ i : Nat, ((a + 1) ≤ i ∧ i ≤ j0 + 1 ∧ scanUp (fun x => S.lt x D1[a]!) D1 j0 i = I) ∧ σ = ⟨[(1, .int .i64 a), (4, .ptr 32 0), (10, .int .i64 i), (11, .int .i64 j0)], [(1000000, .vec S.T S.sz (D1.toList.map S.enc)), (1000001, .box S.bv), (32, .box (.agg [.fn S.lf [.ptr 1000001 0], .fn S.sf [.vec 1000000, .raw S.hd]]))]⟩)
    (fun σ => j0 + 1 - (match Ev.look 10 σ.env with | some (.int _ n) => n.toNat | _ => 0)) ?_ ?_
   ·simp only [S.br, go_sem, evP_D, evD_guard, evD_cons, evD_zero, evD_nil]
    exact ⟨(a + 1), ⟨Nat.le_refl _, by omega, hI.symm⟩, rfl⟩
   ·rintro σ ⟨i, ⟨h1, h2, h3⟩, rfl⟩
    by_cases c1 : i ≤ j0
    ·have c1' : (i : Int) ≤ j0 := by omega
     have hl := S.hL D1 i a (by omega) (by omega)
     cases hv : S.lt D1[i]! D1[a]! with
     | true =>
      rw [hv] at hl
      simp (disch := omega) only [c1', hl, S.all, S.bmv, S.bbk, S.br, go_sem, evP_D, evD_guard, evD_cons, evD_zero, evD_nil]
      exact ⟨⟨i + 1, ⟨by omega, by omega, by rw [← h3, scanUp_go c1 (by rw [hv])]⟩, rfl⟩, upM _ _ c1⟩
     | false =>
      rw [hv] at hl
      rw [scanUp_stop (.inr (by rw [hv]))] at h3
      subst h3
      simp (disch := omega) only [c1', hl, S.all, S.bmv, S.bbk, S.br, go_sem, evP_D, evD_guard, evD_cons, evD_zero, evD_nil]
    ·have c1' : ¬ (i : Int) ≤ j0 := by omega
     rw [scanUp_stop (.inl c1)] at h3
     subst h3
     simp (disch := omega) only [c1', go_sem, evP_D, evD_guard, evD_cons, evD_zero, evD_nil]
  ·rintro e τ ⟨rfl, rfl⟩
   simp (disch := omega) only [S.br, go_sem, evP_D, evD_guard, evD_cons, evD_zero, evD_nil]
   refine evQ_mono (fun e τ => e = .exit 2 ∧ τ = ⟨[(1, .int .i64 a), (4, .ptr 32 0), (10, .int .i64 I), (11, .int .i64 K), (43, .bool false)], [(1000000, .vec S.T S.sz (D1.toList.map S.enc)), (1000001, .box S.bv), (32, .box (.agg [.fn S.lf [.ptr 1000001 0], .fn S.sf [.vec 1000000, .raw S.hd]]))]⟩) ?_ ?_
   ·refine evQ_loop [1, 4, 10, 11] [1000000, 1000001, 32] (fun σ => ∃ j : Nat, (j ≤ j0 ∧ I ≤ j + 1 ∧ scanDown (fun x => !S.lt x D1[a]!) D1 I j = K) ∧ σ = ⟨[(1, .int .i64 a), (4, .ptr 32 0), (10, .int .i64 I), (11, .int .i64 j)], [(1000000, .vec S.T S.sz (D1.toList.map S.enc)), (1000001, .box S.bv), (32, .box (.agg [.fn S.lf [.ptr 1000001 0], .fn S.sf [.vec 1000000, .raw S.hd]]))]⟩)
     (fun σ => (match Ev.look 11 σ.env with | some (.int _ n) => n.toNat | _ => 0)) ?_ ?_
    ·simp only [S.br, go_sem, evP_D, evD_guard, evD_cons, evD_zero, evD_nil]
     exact ⟨j0, ⟨Nat.le_refl _, by omega, hK.symm⟩, rfl⟩
    ·rintro σ ⟨j, ⟨h1, h2, h3⟩, rfl⟩
     by_cases c1 : I ≤ j
     ·have c1' : (I : Int) ≤ j := by omega
      have hl := S.hL D1 j a (by omega) (by omega)
      cases hv : S.lt D1[j]! D1[a]! with
      | false =>
       rw [hv] at hl
       simp (disch := omega) only [c1', hl, S.all, S.bmv, S.bbk, S.br, go_sem, evP_D, evD_guard, evD_cons, evD_zero, evD_nil]
       exact ⟨⟨j - 1, ⟨by omega, by omega, by rw [← h3, scanDown_go (by omega) c1 (by rw [hv]; rfl)]⟩, by rw [subI (by omega)]⟩, downM _ (by omega)⟩
      | true =>
       rw [hv] at hl
       rw [scanDown_stop (.inr (by rw [hv]; rfl))] at h3
       subst h3
       simp (disch := omega) only [c1', hl, S.all, S.bmv, S.bbk, S.br, go_sem, evP_D, evD_guard, evD_cons, evD_zero, evD_nil]
     ·have c1' : ¬ (I : Int) ≤ j := by omega
      rw [scanDown_stop (.inl c1)] at h3
      subst h3
      simp (disch := omega) only [c1', go_sem, evP_D, evD_guard, evD_cons, evD_zero, evD_nil]
   ·rintro e τ ⟨rfl, rfl⟩
    by_cases hgt : I > K
    ·have hgt' : (I : Int) > K := by omega
     have hgt2 : (K : Int) < I := by omega
     rw [if_pos hgt] at hR2
     subst hR2
     have s1 := S.hS D1 K a (by omega) (by omega)
     simp (disch := omega) only [hgt', hgt2, s1, nes, S.all, S.bmv, S.bbk, S.br, go_sem, evP_D, evD_guard, evD_cons, evD_zero, evD_nil]
    have hgt' : ¬ (I : Int) > K := by omega
    have hgt2 : ¬ (K : Int) < I := by omega
    rw [if_neg hgt] at hR2
    have s1 := S.hS D1 I K (by omega) (by omega)
    have hlt : I < K := by
     have x1 := (scanUp_spec (fun x => S.lt x D1[a]!) D1 j0 _ (a + 1) rfl).2.2.2
     rw [← hI] at x1
     have x2 := (scanDown_spec (fun x => !S.lt x D1[a]!) D1 I j0).2.2.2
     rw [← hK] at x2
     have y1 := x1 (by omega)
     have y2 := x2 (by omega) (by omega)
     rcases Nat.lt_or_ge I K with h | h
     ·exact h
     ·have e : I = K := by omega
      exact absurd y1 (by rw [e]; simpa using y2)
    have z1 : (swp D1 I K).size = D.size := by rw [size_swp]; exact z0
    simp (disch := omega) only [hgt', hgt2, s1, nes, S.all, S.bmv, S.bbk, S.br, go_sem, evP_D, evD_guard, evD_cons, evD_zero, evD_nil]
    generalize swp D1 I K = D2 at *
    clear s1
    refine evQ_loop [1, 4, 10, 11] [1000000, 1000001, 32] (fun σ => ∃ (i j : Nat) (E : Array α), (a < i ∧ i ≤ j + 1 ∧ j < b ∧ E.size = D.size ∧ partLoop S.lt a i j E = partLoop S.lt a (I + 1) (K - 1) D2) ∧ σ = ⟨[(1, .int .i64 a), (4, .ptr 32 0), (10, .int .i64 i), (11, .int .i64 j)], [(1000000, .vec S.T S.sz (E.toList.map S.enc)), (1000001, .box S.bv), (32, .box (.agg [.fn S.lf [.ptr 1000001 0], .fn S.sf [.vec 1000000, .raw S.hd]]))]⟩)
     (fun σ => (match Ev.look 11 σ.env with | some (.int _ n) => (n + 1).toNat | _ => 0) - (match Ev.look 10 σ.env with | some (.int _ n) => n.toNat | _ => 0)) ?_ ?_
    ·simp only [S.br, go_sem, evP_D, evD_guard, evD_cons, evD_zero, evD_nil]
     exact ⟨I + 1, K - 1, D2, ⟨by omega, by omega, by omega, z1, rfl⟩, by rw [subI (by omega)]; rfl⟩
    ·rintro σ ⟨i0, j1, E, ⟨hai, hij, hjb2, hE, hO⟩, rfl⟩
     obtain ⟨I2, hI2⟩ : ∃ I, I = scanUp (fun x => S.lt x E[a]!) E j1 i0 := ⟨_, rfl⟩
     obtain ⟨K2, hK2⟩ : ∃ K, K = scanDown (fun x => !S.lt x E[a]!) E I2 j1 := ⟨_, rfl⟩
     have b1 := scanUp_ge (fun x => S.lt x E[a]!) E j1 i0
     have b2 := (scanUp_spec (fun x => S.lt x E[a]!) E j1 _ i0 rfl).2.1 hij
     rw [← hI2] at b1 b2
     have b3 := scanDown_le (fun x => !S.lt x E[a]!) E I2 j1
     have b4 := (scanDown_spec (fun x => !S.lt x E[a]!) E I2 j1).2.1 (by omega)
     rw [← hK2] at b3 b4
     rw [partLoop_eq, ← hI2, ← hK2] at hO
     simp (disch := omega) only [S.br, go_sem, evP_D, evD_guard, evD_cons, evD_zero, evD_nil]
     refine evQ_mono (fun e τ => e = .exit 6 ∧ τ = ⟨[(1, .int .i64 a), (4, .ptr 32 0), (10, .int .i64 I2), (11, .int .i64 j1), (73, .bool false)], [(1000000, .vec S.T S.sz (E.toList.map S.enc)), (1000001, .box S.bv), (32, .box (.agg [.fn S.lf [.ptr 1000001 0], .fn S.sf [.vec 1000000, .raw S.hd]]))]⟩) ?_ ?_
     ·refine evQ_loop [1, 4, 10, 11] [1000000, 1000001, 32] (fun σ => ∃ i : Nat, (i0 ≤ i ∧ i ≤ j1 + 1 ∧ scanUp (fun x => S.lt x E[a]!) E j1 i = I2) ∧ σ = ⟨[(1, .int .i64 a), (4, .ptr 32 0), (10, .int .i64 i), (11, .int .i64 j1)], [(1000000, .vec S.T S.sz (E.toList.map S.enc)), (1000001, .box S.bv), (32, .box (.agg [.fn S.lf [.ptr 1000001 0], .fn S.sf [.vec 1000000, .raw S.hd]]))]⟩)
       (fun σ => j1 + 1 - (match Ev.look 10 σ.env with | some (.int _ n) => n.toNat | _ => 0)) ?_ ?_
      ·simp only [S.br, go_sem, evP_D, evD_guard, evD_cons, evD_zero, evD_nil]
       exact ⟨i0, ⟨Nat.le_refl _, by omega, hI2.symm⟩, rfl⟩
      ·rintro σ ⟨i, ⟨h1, h2, h3⟩, rfl⟩
       by_cases c1 : i ≤ j1
       ·have c1' : (i : Int) ≤ j1 := by omega
        have hl := S.hL E i a (by omega) (by omega)
        cases hv : S.lt E[i]! E[a]! with
        | true =>
         rw [hv] at hl
         simp (disch := omega) only [c1', hl, S.all, S.bmv, S.bbk, S.br, go_sem, evP_D, evD_guard, evD_cons, evD_zero, evD_nil]
         exact ⟨⟨i + 1, ⟨by omega, by omega, by rw [← h3, scanUp_go c1 (by rw [hv])]⟩, rfl⟩, upM _ _ c1⟩
        | false =>
         rw [hv] at hl
         rw [scanUp_stop (.inr (by rw [hv]))] at h3
         subst h3
         simp (disch := omega) only [c1', hl, S.all, S.bmv, S.bbk, S.br, go_sem, evP_D, evD_guard, evD_cons, evD_zero, evD_nil]
       ·have c1' : ¬ (i : Int) ≤ j1 := by omega
        rw [scanUp_stop (.inl c1)] at h3
        subst h3
        simp (disch := omega) only [c1', go_sem, evP_D, evD_guard, evD_cons, evD_zero, evD_nil]
     ·rintro e τ ⟨rfl, rfl⟩
      simp (disch := omega) only [S.br, go_sem, evP_D, evD_guard, evD_cons, evD_zero, evD_nil]
      refine evQ_mono (fun e τ => e = .exit 8 ∧ τ = ⟨[(1, .int .i64 a), (4, .ptr 32 0), (10, .int .i64 I2), (11, .int .i64 K2), (86, .bool false)], [(1000000, .vec S.T S.sz (E.toList.map S.enc)), (1000001, .box S.bv), (32, .box (.agg [.fn S.lf [.ptr 1000001 0], .fn S.sf [.vec 1000000, .raw S.hd]]))]⟩) ?_ ?_
      ·refine evQ_loop [1, 4, 10, 11] [1000000, 1000001, 32] (fun σ => ∃ j : Nat, (j ≤ j1 ∧ I2 ≤ j + 1 ∧ scanDown (fun x => !S.lt x E[a]!) E I2 j = K2) ∧ σ = ⟨[(1, .int .i64 a), (4, .ptr 32 0), (10, .int .i64 I2), (11, .int .i64 j)], [(1000000, .vec S.T S.sz (E.toList.map S.enc)), (1000001, .box S.bv), (32, .box (.agg [.fn S.lf [.ptr 1000001 0], .fn S.sf [.vec 1000000, .raw S.hd]]))]⟩)
        (fun σ => (match Ev.look 11 σ.env with | some (.int _ n) => n.toNat | _ => 0)) ?_ ?_
       ·simp only [S.br, go_sem, evP_D, evD_guard, evD_cons, evD_zero, evD_nil]
        exact ⟨j1, ⟨Nat.le_refl _, by omega, hK2.symm⟩, rfl⟩
       ·rintro σ ⟨j, ⟨h1, h2, h3⟩, rfl⟩
        by_cases c1 : I2 ≤ j
        ·have c1' : (I2 : Int) ≤ j := by omega
         have hl := S.hL E j a (by omega) (by omega)
         cases hv : S.lt E[j]! E[a]! with
         | false =>
          rw [hv] at hl
          simp (disch := omega) only [c1', hl, S.all, S.bmv, S.bbk, S.br, go_sem, evP_D, evD_guard, evD_cons, evD_zero, evD_nil]
          exact ⟨⟨j - 1, ⟨by omega, by omega, by rw [← h3, scanDown_go (by omega) c1 (by rw [hv]; rfl)]⟩, by rw [subI (by omega)]⟩, downM _ (by omega)⟩
         | true =>
          rw [hv] at hl
          rw [scanDown_stop (.inr (by rw [hv]; rfl))] at h3
          subst h3
          simp (disch := omega) only [c1', hl, S.all, S.bmv, S.bbk, S.br, go_sem, evP_D, evD_guard, evD_cons, evD_zero, evD_nil]
        ·have c1' : ¬ (I2 : Int) ≤ j := by omega
         rw [scanDown_stop (.inl c1)] at h3
         subst h3
         simp (disch := omega) only [c1', go_sem, evP_D, evD_guard, evD_cons, evD_zero, evD_nil]
      ·rintro e τ ⟨rfl, rfl⟩
       by_cases hgt : I2 > K2
       ·have hgt' : (I2 : Int) > K2 := by omega
        have hgt2 : (K2 : Int) < I2 := by omega
        rw [if_pos hgt] at hO
        have s2 := S.hS E K2 a (by omega) (by omega)
        rw [← hO] at hR2
        subst hR2
        simp (disch := omega) only [hgt', hgt2, s2, nes, S.all, S.bmv, S.bbk, S.br, go_sem, evP_D, evD_guard, evD_cons, evD_zero, evD_nil]
       ·have hgt' : ¬ (I2 : Int) > K2 := by omega
        have hgt2 : ¬ (K2 : Int) < I2 := by omega
        rw [if_neg hgt] at hO
        have s2 := S.hS E I2 K2 (by omega) (by omega)
        have hlt : I2 < K2 := by
         have x1 := (scanUp_spec (fun x => S.lt x E[a]!) E j1 _ i0 rfl).2.2.2
         rw [← hI2] at x1
         have x2 := (scanDown_spec (fun x => !S.lt x E[a]!) E I2 j1).2.2.2
         rw [← hK2] at x2
         have y1 := x1 (by omega)
         have y2 := x2 (by omega) (by omega)
         rcases Nat.lt_or_ge I2 K2 with h | h
         ·exact h
         ·have e : I2 = K2 := by omega
          exact absurd y1 (by rw [e]; simpa using y2)
        simp (disch := omega) only [hgt', hgt2, s2, nes, S.all, S.bmv, S.bbk, S.br, go_sem, evP_D, evD_guard, evD_cons, evD_zero, evD_nil]
        refine ⟨⟨I2 + 1, K2 - 1, swp E I2 K2, ⟨by omega, by omega, by omega, by rw [size_swp]; exact hE, hO⟩, by rw [subI (by omega)]; rfl⟩, ?_⟩
        rw [show ((K2 : Int) - 1 + 1).toNat = K2 by omega, show ((I2 : Int) + 1).toNat = I2 + 1 by omega, show ((j1 : Int) + 1).toNat = j1 + 1 by omega, show ((i0 : Int)).toNat = i0 by omega]
        omega
 ·exact hend
end
end Go.Proofs.YtdmkmbaaemhhhaaGreatDoor
