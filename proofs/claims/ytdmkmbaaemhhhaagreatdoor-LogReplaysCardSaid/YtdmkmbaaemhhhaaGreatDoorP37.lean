/-
  Sorting by a function that is handed in, run by the machine: rows that are nearly sorted (written by gen_sof.py).
-/
import Derived.Test.YtdmkmbaaemhhhaaGreatDoorP36
set_option linter.unusedVariables false
set_option linter.unusedSimpArgs false
namespace Go.So
open Go Go.Ev Go.Sort
section
variable {α : Type} [Inhabited α] {lt : α → α → Bool} {d : Array α}
theorem scanS_go {b i : Nat} (h : i < b) (hv : lt d[i]! d[i - 1]! = false) : scanSorted lt d b i = scanSorted lt d b (i + 1) := by
 rw [scanSorted, if_pos (by simp only [Bool.and_eq_true, decide_eq_true_eq]; exact ⟨h, by rw [hv]; rfl⟩)]
theorem scanS_stop {b i : Nat} (h : ¬ i < b ∨ lt d[i]! d[i - 1]! = true) : scanSorted lt d b i = i := by
 rw [scanSorted, if_neg (by
  simp only [Bool.and_eq_true, decide_eq_true_eq, not_and]
  intro h0
  rcases h with h | h
  ·exact absurd h0 h
  ·rw [h]; simp)]
theorem shiftDown_go {j : Nat} (h0 : 0 < j) (h : lt d[j]! d[j - 1]! = true) : shiftDown lt j d = shiftDown lt (j - 1) (swp d j (j - 1)) := by
 obtain ⟨k, rfl⟩ : ∃ k, j = k + 1 := ⟨j - 1, by omega⟩
 rw [Nat.add_sub_cancel] at h ⊢
 rw [shiftDown, h]
 rfl
theorem shiftDown_stop {j : Nat} (h : j = 0 ∨ lt d[j]! d[j - 1]! = false) : shiftDown lt j d = d := by
 cases j with
 | zero => rfl
 | succ k =>
  rcases h with h | h
  ·omega
  ·rw [Nat.add_sub_cancel] at h
   rw [shiftDown, h]
   rfl
theorem shiftUp_go {b j : Nat} (h : j < b) (hv : lt d[j]! d[j - 1]! = true) : shiftUp lt b j d = shiftUp lt b (j + 1) (swp d j (j - 1)) := by
 rw [shiftUp, if_pos h, hv]
 rfl
theorem shiftUp_stop {b j : Nat} (h : ¬ j < b ∨ lt d[j]! d[j - 1]! = false) : shiftUp lt b j d = d := by
 rw [shiftUp]
 split
 ·rename_i h0
  rcases h with h | h
  ·exact absurd h0 h
  ·rw [h]; rfl
 ·rfl
end
theorem upN (b j : Nat) (h : j < b) : b - ((j : Int) + 1).toNat < b - (j : Int).toNat := by
 rw [show ((j : Int) + 1).toNat = j + 1 by omega, Int.toNat_natCast]
 omega
end Go.So
namespace Go.Proofs.YtdmkmbaaemhhhaaGreatDoor
open Go Go.Ev Go.RowKit Go.Sort Go.So
set_option maxHeartbeats 4000000
section
variable {J : World → Prop} (hJ : Stable J) {α : Type} [Inhabited α] (S : So Tryz.prog J famF α)
include hJ in
set_option maxRecDepth 100000 in
set_option maxHeartbeats 8000000 in
theorem pins_mut (D : Array α) (a b : Nat) (hab : a < b) (hb : b ≤ D.size) (hsz : D.size < 2305843009213693950) :
  MutAt Tryz.prog J 137 (S.ks D) [S.dV, .int .i64 a, .int .i64 b] (.bool (partialInsertionSort S.lt D a b).2) (S.ks (partialInsertionSort S.lt D a b).1) := by
 have hend := S.ksLone (partialInsertionSort S.lt D a b).1
 have nes := S.ne
 unfold So.dV
 unfold So.ks at hend ⊢
 obtain ⟨R, hR⟩ : ∃ R, R = partialInsertionSort S.lt D a b := ⟨_, rfl⟩
 rw [← hR] at hend ⊢
 have hR2 : partialIns S.lt a b 5 (a + 1) D = R := hR.symm
 clear hR
 refine evMut (l := []) (nv := nv0) (fz := fz0) (dr := dr137) (dd := dd137) (lam := []) (ms := ⟨[(S.lf, S.LF), (S.sf, S.SF)], lnL [(26, [1000000, 1000001]), (43, [1000000, 1000001]), (59, [1000000, 1000001]), (66, [1000000, 1000001]), (83, [1000000, 1000001]), (90, [1000000, 1000001])], []⟩) trivial hJ trivial ⟨⟨S.hLF, S.hSF, trivial⟩, trivial⟩ Tryz.func137 rfl rfl (Nat.le_of_ble_eq_true rfl) (Nat.le_of_ble_eq_true rfl) drOk137 rfl rfl ?_ ?_
 rotate_left
 dsimp only [Tryz.f137, dr137, dd137, Option.getD_some]
 refine ev_start ?_
 ·simp (disch := omega) only [go_sem, evP_D, evD_guard, evD_cons, evD_zero, evD_nil]
  refine evQ_loop [1, 2, 3, 7, 8] [1000000, 1000001, 24] (fun σ => ∃ (k i : Nat) (E : Array α), (k ≤ 5 ∧ a < i ∧ i ≤ b ∧ E.size = D.size ∧ partialIns S.lt a b (5 - k) i E = R) ∧ σ = ⟨[(1, .int .i64 a), (2, .int .i64 b), (3, .ptr 24 0), (7, .int .i64 i), (8, .int .i64 k)], [(1000000, .vec S.T S.sz (E.toList.map S.enc)), (1000001, .box S.bv), (24, .box (.agg [.fn S.lf [.ptr 1000001 0], .fn S.sf [.vec 1000000, .raw S.hd]]))]⟩)
   (fun σ => 5 - (match Ev.look 8 σ.env with | some (.int _ n) => n.toNat | _ => 0)) ?_ ?_
  ·simp only [S.br, go_sem, evP_D, evD_guard, evD_cons, evD_zero, evD_nil]
   exact ⟨0, a + 1, D, ⟨by omega, by omega, by omega, rfl, hR2⟩, rfl⟩
  ·rintro σ ⟨k, i0, E, ⟨hk, hai, hib, hE, hO⟩, rfl⟩
   by_cases hk5 : k < 5
   case neg =>
    have hk' : k = 5 := by omega
    subst hk'
    have h55 : ¬ ((5 : Nat) : Int) < 5 := by omega
    have e1 : R.1 = E := by rw [← hO]; rfl
    have e2 : R.2 = false := by rw [← hO]; rfl
    rw [e1, e2]
    simp (disch := omega) only [h55, S.br, go_sem, evP_D, evD_guard, evD_cons, evD_zero, evD_nil]
   have hk5' : (k : Int) < 5 := by omega
   rw [show 5 - k = (5 - (k + 1)) + 1 by omega, partialIns_succ] at hO
   simp (disch := omega) only [hk5', S.br, go_sem, evP_D, evD_guard, evD_cons, evD_zero, evD_nil]
   obtain ⟨i, hi⟩ : ∃ i, i = scanSorted S.lt E b i0 := ⟨_, rfl⟩
   have hi2 : i0 ≤ i ∧ i ≤ b := by
    have : ∀ (n i0 : Nat), b - i0 ≤ n → i0 ≤ b → i0 ≤ scanSorted S.lt E b i0 ∧ scanSorted S.lt E b i0 ≤ b := by
     intro n
     induction n with
     | zero => intro i0 h1 h2; rw [scanS_stop (.inl (by omega))]; omega
     | succ n ih =>
      intro i0 h1 h2
      by_cases h3 : i0 < b
      ·cases hv : S.lt E[i0]! E[i0 - 1]! with
       | true => rw [scanS_stop (.inr hv)]; omega
       | false => rw [scanS_go h3 hv]; have := ih (i0 + 1) (by omega) (by omega); omega
      ·rw [scanS_stop (.inl h3)]; omega
    rw [hi]
    exact this _ i0 (Nat.le_refl _) hib
   rw [← hi] at hO
   refine evQ_mono (fun e τ => e = .exit 2 ∧ τ = ⟨[(1, .int .i64 a), (2, .int .i64 b), (3, .ptr 24 0), (7, .int .i64 i), (8, .int .i64 k), (28, .bool false)], [(1000000, .vec S.T S.sz (E.toList.map S.enc)), (1000001, .box S.bv), (24, .box (.agg [.fn S.lf [.ptr 1000001 0], .fn S.sf [.vec 1000000, .raw S.hd]]))]⟩) ?_ ?_
   ·refine evQ_loop [1, 2, 3, 7, 8] [1000000, 1000001, 24] (fun σ => ∃ i1 : Nat, (i0 ≤ i1 ∧ i1 ≤ b ∧ scanSorted S.lt E b i1 = i) ∧ σ = ⟨[(1, .int .i64 a), (2, .int .i64 b), (3, .ptr 24 0), (7, .int .i64 i1), (8, .int .i64 k)], [(1000000, .vec S.T S.sz (E.toList.map S.enc)), (1000001, .box S.bv), (24, .box (.agg [.fn S.lf [.ptr 1000001 0], .fn S.sf [.vec 1000000, .raw S.hd]]))]⟩)
     (fun σ => b - (match Ev.look 7 σ.env with | some (.int _ n) => n.toNat | _ => 0)) ?_ ?_
    ·simp only [S.br, go_sem, evP_D, evD_guard, evD_cons, evD_zero, evD_nil]
     exact ⟨i0, ⟨Nat.le_refl _, hib, hi.symm⟩, rfl⟩
    ·rintro σ ⟨i1, ⟨h1, h2, h3⟩, rfl⟩
     by_cases c1 : i1 < b
     ·have c1' : (i1 : Int) < b := by omega
      have hl := S.hL E i1 (i1 - 1) (by omega) (by omega)
      rw [subI (by omega)] at hl
      cases hv : S.lt E[i1]! E[i1 - 1]! with
      | false =>
       rw [hv] at hl
       simp (disch := omega) only [c1', hl, S.all, S.bmv, S.bbk, S.br, go_sem, evP_D, evD_guard, evD_cons, evD_zero, evD_nil]
       exact ⟨⟨i1 + 1, ⟨by omega, by omega, by rw [← h3, scanS_go c1 hv]⟩, rfl⟩, upN _ _ c1⟩
      | true =>
       rw [hv] at hl
       rw [scanS_stop (.inr hv)] at h3
       subst h3
       simp (disch := omega) only [c1', hl, S.all, S.bmv, S.bbk, S.br, go_sem, evP_D, evD_guard, evD_cons, evD_zero, evD_nil]
     ·have c1' : ¬ (i1 : Int) < b := by omega
      rw [scanS_stop (.inl c1)] at h3
      subst h3
      simp (disch := omega) only [c1', go_sem, evP_D, evD_guard, evD_cons, evD_zero, evD_nil]
   ·rintro e τ ⟨rfl, rfl⟩
    by_cases hib2 : i = b
    ·rw [if_pos hib2] at hO
     have e1 : R.1 = E := by rw [← hO]
     have e2 : R.2 = true := by rw [← hO]
     rw [e1, e2]
     have hq : (i : Int) = b := by omega
     simp (disch := omega) only [hq, S.br, go_sem, evP_D, evD_guard, evD_cons, evD_zero, evD_nil]
    have hq : ¬ (i : Int) = b := by omega
    rw [if_neg hib2] at hO
    by_cases h50 : b - a < 50
    ·rw [if_pos h50] at hO
     have e1 : R.1 = E := by rw [← hO]
     have e2 : R.2 = false := by rw [← hO]
     rw [e1, e2]
     have hq2 : (b : Int) - a < 50 := by omega
     simp (disch := omega) only [hq, hq2, S.br, go_sem, evP_D, evD_guard, evD_cons, evD_zero, evD_nil]
    have hq2 : ¬ (b : Int) - a < 50 := by omega
    rw [if_neg h50] at hO
    have s1 := S.hS E i (i - 1) (by omega) (by omega)
    rw [subI (by omega)] at s1
    have z1 : (swp E i (i - 1)).size = D.size := by rw [size_swp]; exact hE
    generalize swp E i (i - 1) = E1 at *
    have tail0 : ∀ (E2 : Array α), (if 2 ≤ i - a then shiftDown S.lt (i - 1) E1 else E1) = E2 → ∀ (E4 : Array α), E4.size = D.size → (if 2 ≤ b - i then shiftUp S.lt b (i + 1) E2 else E2) = E4 →
      (∃ (k1 i1 : Nat) (E5 : Array α), (k1 ≤ 5 ∧ a < i1 ∧ i1 ≤ b ∧ E5.size = D.size ∧ partialIns S.lt a b (5 - k1) i1 E5 = R) ∧ (⟨[(1, .int .i64 a), (2, .int .i64 b), (3, .ptr 24 0), (7, .int .i64 i), (8, .int .i64 ((k : Int) + 1))], [(1000000, .vec S.T S.sz (E4.toList.map S.enc)), (1000001, .box S.bv), (24, .box (.agg [.fn S.lf [.ptr 1000001 0], .fn S.sf [.vec 1000000, .raw S.hd]]))]⟩ : St) = ⟨[(1, .int .i64 a), (2, .int .i64 b), (3, .ptr 24 0), (7, .int .i64 i1), (8, .int .i64 k1)], [(1000000, .vec S.T S.sz (E5.toList.map S.enc)), (1000001, .box S.bv), (24, .box (.agg [.fn S.lf [.ptr 1000001 0], .fn S.sf [.vec 1000000, .raw S.hd]]))]⟩) ∧ 5 - ((k : Int) + 1).toNat < 5 - (k : Int).toNat := fun E2 h1 E4 h2 h3 => by
     refine ⟨⟨k + 1, i, E4, ⟨by omega, by omega, by omega, h2, ?_⟩, rfl⟩, upN 5 k hk5⟩
     rw [← hO, ← h3, ← h1]
     rfl
    by_cases hd : 2 ≤ i - a
    ·have hd' : (2 : Int) ≤ (i : Int) - a := by omega
     simp (disch := omega) only [hq, hq2, s1, hd', nes, S.all, S.bmv, S.bbk, S.br, go_sem, evP_D, evD_guard, evD_cons, evD_zero, evD_nil]
     refine evQ_loop [1, 2, 3, 7, 8, 9] [1000000, 1000001, 24] (fun σ => ∃ (j : Nat) (E2 : Array α), (j ≤ i - 1 ∧ E2.size = D.size ∧ shiftDown S.lt j E2 = shiftDown S.lt (i - 1) E1) ∧ σ = ⟨[(1, .int .i64 a), (2, .int .i64 b), (3, .ptr 24 0), (7, .int .i64 i), (8, .int .i64 k), (9, .int .i64 j)], [(1000000, .vec S.T S.sz (E2.toList.map S.enc)), (1000001, .box S.bv), (24, .box (.agg [.fn S.lf [.ptr 1000001 0], .fn S.sf [.vec 1000000, .raw S.hd]]))]⟩)
      (fun σ => (match Ev.look 9 σ.env with | some (.int _ n) => n.toNat | _ => 0)) ?_ ?_
     ·simp only [S.br, go_sem, evP_D, evD_guard, evD_cons, evD_zero, evD_nil]
      exact ⟨i - 1, E1, ⟨Nat.le_refl _, z1, rfl⟩, by rw [subI (by omega)]⟩
     ·rintro σ ⟨j, E2, ⟨g1, g2, g3⟩, rfl⟩
      by_cases c1 : 1 ≤ j
      ·have c1' : (1 : Int) ≤ j := by omega
       have hl := S.hL E2 j (j - 1) (by omega) (by omega)
       rw [subI (by omega)] at hl
       cases hv : S.lt E2[j]! E2[j - 1]! with
       | true =>
        rw [hv] at hl
        have hs := S.hS E2 j (j - 1) (by omega) (by omega)
        rw [subI (by omega)] at hs
        simp (disch := omega) only [c1', hl, hs, nes, S.all, S.bmv, S.bbk, S.br, go_sem, evP_D, evD_guard, evD_cons, evD_zero, evD_nil]
        exact ⟨⟨j - 1, swp E2 j (j - 1), ⟨by omega, by rw [size_swp]; exact g2, by rw [← g3, shiftDown_go c1 hv]⟩, by rw [subI (by omega)]⟩, downM _ c1⟩
       | false =>
        rw [hv] at hl
        rw [shiftDown_stop (.inr hv)] at g3
        have tail := tail0 E2 (by rw [if_pos hd]; exact g3.symm)
        simp (disch := omega) only [c1', hl, nes, S.all, S.bmv, S.bbk, S.br, go_sem, evP_D, evD_guard, evD_cons, evD_zero, evD_nil]
        by_cases hu : 2 ≤ b - i
        ·have hu' : (2 : Int) ≤ (b : Int) - i := by omega
         simp (disch := omega) only [hu', S.br, go_sem, evP_D, evD_guard, evD_cons, evD_zero, evD_nil]
         refine evQ_loop [1, 2, 3, 7, 8, 10] [1000000, 1000001, 24] (fun σ => ∃ (j : Nat) (E3 : Array α), (i < j ∧ j ≤ b ∧ E3.size = D.size ∧ shiftUp S.lt b j E3 = shiftUp S.lt b (i + 1) E2) ∧ σ = ⟨[(1, .int .i64 a), (2, .int .i64 b), (3, .ptr 24 0), (7, .int .i64 i), (8, .int .i64 k), (10, .int .i64 j)], [(1000000, .vec S.T S.sz (E3.toList.map S.enc)), (1000001, .box S.bv), (24, .box (.agg [.fn S.lf [.ptr 1000001 0], .fn S.sf [.vec 1000000, .raw S.hd]]))]⟩)
          (fun σ => b - (match Ev.look 10 σ.env with | some (.int _ n) => n.toNat | _ => 0)) ?_ ?_
         ·simp only [S.br, go_sem, evP_D, evD_guard, evD_cons, evD_zero, evD_nil]
          exact ⟨i + 1, E2, ⟨by omega, by omega, g2, rfl⟩, rfl⟩
         ·rintro σ ⟨j, E3, ⟨g1, g2, g3, g4⟩, rfl⟩
          by_cases c1 : j < b
          ·have c1' : (j : Int) < b := by omega
           have hl := S.hL E3 j (j - 1) (by omega) (by omega)
           rw [subI (by omega)] at hl
           cases hv : S.lt E3[j]! E3[j - 1]! with
           | true =>
            rw [hv] at hl
            have hs := S.hS E3 j (j - 1) (by omega) (by omega)
            rw [subI (by omega)] at hs
            simp (disch := omega) only [c1', hl, hs, nes, S.all, S.bmv, S.bbk, S.br, go_sem, evP_D, evD_guard, evD_cons, evD_zero, evD_nil]
            exact ⟨⟨j + 1, swp E3 j (j - 1), ⟨by omega, by omega, by rw [size_swp]; exact g3, by rw [← g4, shiftUp_go c1 hv]⟩, rfl⟩, upN _ _ c1⟩
           | false =>
            rw [hv] at hl
            rw [shiftUp_stop (.inr hv)] at g4
            simp (disch := omega) only [c1', hl, nes, S.all, S.bmv, S.bbk, S.br, go_sem, evP_D, evD_guard, evD_cons, evD_zero, evD_nil]
            exact tail E3 g3 (by rw [if_pos hu]; exact g4.symm)
          ·have c1' : ¬ (j : Int) < b := by omega
           rw [shiftUp_stop (.inl c1)] at g4
           simp (disch := omega) only [c1', S.br, go_sem, evP_D, evD_guard, evD_cons, evD_zero, evD_nil]
           exact tail E3 g3 (by rw [if_pos hu]; exact g4.symm)
        ·have hu' : ¬ (2 : Int) ≤ (b : Int) - i := by omega
         simp (disch := omega) only [hu', S.br, go_sem, evP_D, evD_guard, evD_cons, evD_zero, evD_nil]
         exact tail E2 g2 (by rw [if_neg hu])
      ·have c1' : ¬ (1 : Int) ≤ j := by omega
       have hj0 : j = 0 := by omega
       rw [shiftDown_stop (.inl hj0)] at g3
       have tail := tail0 E2 (by rw [if_pos hd]; exact g3.symm)
       simp (disch := omega) only [c1', nes, S.all, S.bmv, S.bbk, S.br, go_sem, evP_D, evD_guard, evD_cons, evD_zero, evD_nil]
       by_cases hu : 2 ≤ b - i
       ·have hu' : (2 : Int) ≤ (b : Int) - i := by omega
        simp (disch := omega) only [hu', S.br, go_sem, evP_D, evD_guard, evD_cons, evD_zero, evD_nil]
        refine evQ_loop [1, 2, 3, 7, 8, 10] [1000000, 1000001, 24] (fun σ => ∃ (j : Nat) (E3 : Array α), (i < j ∧ j ≤ b ∧ E3.size = D.size ∧ shiftUp S.lt b j E3 = shiftUp S.lt b (i + 1) E2) ∧ σ = ⟨[(1, .int .i64 a), (2, .int .i64 b), (3, .ptr 24 0), (7, .int .i64 i), (8, .int .i64 k), (10, .int .i64 j)], [(1000000, .vec S.T S.sz (E3.toList.map S.enc)), (1000001, .box S.bv), (24, .box (.agg [.fn S.lf [.ptr 1000001 0], .fn S.sf [.vec 1000000, .raw S.hd]]))]⟩)
         (fun σ => b - (match Ev.look 10 σ.env with | some (.int _ n) => n.toNat | _ => 0)) ?_ ?_
        ·simp only [S.br, go_sem, evP_D, evD_guard, evD_cons, evD_zero, evD_nil]
         exact ⟨i + 1, E2, ⟨by omega, by omega, g2, rfl⟩, rfl⟩
        ·rintro σ ⟨j, E3, ⟨g1, g2, g3, g4⟩, rfl⟩
         by_cases c1 : j < b
         ·have c1' : (j : Int) < b := by omega
          have hl := S.hL E3 j (j - 1) (by omega) (by omega)
          rw [subI (by omega)] at hl
          cases hv : S.lt E3[j]! E3[j - 1]! with
          | true =>
           rw [hv] at hl
           have hs := S.hS E3 j (j - 1) (by omega) (by omega)
           rw [subI (by omega)] at hs
           simp (disch := omega) only [c1', hl, hs, nes, S.all, S.bmv, S.bbk, S.br, go_sem, evP_D, evD_guard, evD_cons, evD_zero, evD_nil]
           exact ⟨⟨j + 1, swp E3 j (j - 1), ⟨by omega, by omega, by rw [size_swp]; exact g3, by rw [← g4, shiftUp_go c1 hv]⟩, rfl⟩, upN _ _ c1⟩
          | false =>
           rw [hv] at hl
           rw [shiftUp_stop (.inr hv)] at g4
           simp (disch := omega) only [c1', hl, nes, S.all, S.bmv, S.bbk, S.br, go_sem, evP_D, evD_guard, evD_cons, evD_zero, evD_nil]
           exact tail E3 g3 (by rw [if_pos hu]; exact g4.symm)
         ·have c1' : ¬ (j : Int) < b := by omega
          rw [shiftUp_stop (.inl c1)] at g4
          simp (disch := omega) only [c1', S.br, go_sem, evP_D, evD_guard, evD_cons, evD_zero, evD_nil]
          exact tail E3 g3 (by rw [if_pos hu]; exact g4.symm)
       ·have hu' : ¬ (2 : Int) ≤ (b : Int) - i := by omega
        simp (disch := omega) only [hu', S.br, go_sem, evP_D, evD_guard, evD_cons, evD_zero, evD_nil]
        exact tail E2 g2 (by rw [if_neg hu])
    ·have hd' : ¬ (2 : Int) ≤ (i : Int) - a := by omega
     have tail := tail0 E1 (by rw [if_neg hd])
     simp (disch := omega) only [hq, hq2, s1, hd', nes, S.all, S.bmv, S.bbk, S.br, go_sem, evP_D, evD_guard, evD_cons, evD_zero, evD_nil]
     by_cases hu : 2 ≤ b - i
     ·have hu' : (2 : Int) ≤ (b : Int) - i := by omega
      simp (disch := omega) only [hu', S.br, go_sem, evP_D, evD_guard, evD_cons, evD_zero, evD_nil]
      refine evQ_loop [1, 2, 3, 7, 8, 10] [1000000, 1000001, 24] (fun σ => ∃ (j : Nat) (E3 : Array α), (i < j ∧ j ≤ b ∧ E3.size = D.size ∧ shiftUp S.lt b j E3 = shiftUp S.lt b (i + 1) E1) ∧ σ = ⟨[(1, .int .i64 a), (2, .int .i64 b), (3, .ptr 24 0), (7, .int .i64 i), (8, .int .i64 k), (10, .int .i64 j)], [(1000000, .vec S.T S.sz (E3.toList.map S.enc)), (1000001, .box S.bv), (24, .box (.agg [.fn S.lf [.ptr 1000001 0], .fn S.sf [.vec 1000000, .raw S.hd]]))]⟩)
       (fun σ => b - (match Ev.look 10 σ.env with | some (.int _ n) => n.toNat | _ => 0)) ?_ ?_
      ·simp only [S.br, go_sem, evP_D, evD_guard, evD_cons, evD_zero, evD_nil]
       exact ⟨i + 1, E1, ⟨by omega, by omega, z1, rfl⟩, rfl⟩
      ·rintro σ ⟨j, E3, ⟨g1, g2, g3, g4⟩, rfl⟩
       by_cases c1 : j < b
       ·have c1' : (j : Int) < b := by omega
        have hl := S.hL E3 j (j - 1) (by omega) (by omega)
        rw [subI (by omega)] at hl
        cases hv : S.lt E3[j]! E3[j - 1]! with
        | true =>
         rw [hv] at hl
         have hs := S.hS E3 j (j - 1) (by omega) (by omega)
         rw [subI (by omega)] at hs
         simp (disch := omega) only [c1', hl, hs, nes, S.all, S.bmv, S.bbk, S.br, go_sem, evP_D, evD_guard, evD_cons, evD_zero, evD_nil]
         exact ⟨⟨j + 1, swp E3 j (j - 1), ⟨by omega, by omega, by rw [size_swp]; exact g3, by rw [← g4, shiftUp_go c1 hv]⟩, rfl⟩, upN _ _ c1⟩
        | false =>
         rw [hv] at hl
         rw [shiftUp_stop (.inr hv)] at g4
         simp (disch := omega) only [c1', hl, nes, S.all, S.bmv, S.bbk, S.br, go_sem, evP_D, evD_guard, evD_cons, evD_zero, evD_nil]
         exact tail E3 g3 (by rw [if_pos hu]; exact g4.symm)
       ·have c1' : ¬ (j : Int) < b := by omega
        rw [shiftUp_stop (.inl c1)] at g4
        simp (disch := omega) only [c1', S.br, go_sem, evP_D, evD_guard, evD_cons, evD_zero, evD_nil]
        exact tail E3 g3 (by rw [if_pos hu]; exact g4.symm)
     ·exfalso; omega
 ·exact hend
end
end Go.Proofs.YtdmkmbaaemhhhaaGreatDoor
