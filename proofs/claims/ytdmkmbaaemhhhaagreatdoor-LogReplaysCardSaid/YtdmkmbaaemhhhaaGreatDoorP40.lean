/-
  Sorting by a function that is handed in, run by the machine: ways through a round of the whole (written by gen_soh.py).
-/
import Derived.Test.YtdmkmbaaemhhhaaGreatDoorP39
set_option linter.unusedVariables false
set_option linter.unusedSimpArgs false
namespace Go.Proofs.YtdmkmbaaemhhhaaGreatDoor
open Go Go.Ev Go.RowKit Go.Sort Go.So
set_option maxHeartbeats 4000000
section
variable {J : World → Prop} {α : Type} [Inhabited α] (S : So Tryz.prog J famF α)
set_option maxRecDepth 100000 in
set_option maxHeartbeats 40000000 in
theorem pw_f_u (hO : SWO S.lt) {N : Nat} (K : Pq S N) (a' b' lim : Nat) (wp : Bool) (dk : Array α) (sz : Nat) (hds : dk.size = sz) (hsz : sz < 1152921504606846976) (hab' : a' ≤ b') (hb' : b' ≤ sz) (hN : b' - a' ≤ N) (hlim : lim < 1000) (hBel : Sort.Below S.lt a' b' dk) (h12 : ¬ b' - a' ≤ 12) (hl0 : ¬ lim = 0)
  (hch : (rd S.lt dk a' b' lim false wp).c.2 = .unknown) (RES : Array α) (heq : pdq S.lt dk a' b' lim false wp = RES) (Q : Ex → St → Prop) (hret : ∀ env, Q .ret ⟨env, [(1000000, .vec S.T S.sz (RES.toList.map S.enc)), (1000001, .box S.bv), (32, .box (.agg [.fn S.lf [.ptr 1000001 0], .fn S.sf [.vec 1000000, .raw S.hd]]))]⟩)
  (hnorm : ∀ (τ : St) (a2 b2 l2 : Nat) (wb2 wp2 : Bool) (E2 : Array α), τ.keep [1, 2, 3, 4, 8, 9] [1000000, 1000001, 32] = ⟨[(1, .int .i64 a2), (2, .int .i64 b2), (3, .int .i64 l2), (4, .ptr 32 0), (8, .bool wb2), (9, .bool wp2)], [(1000000, .vec S.T S.sz (E2.toList.map S.enc)), (1000001, .box S.bv), (32, .box (.agg [.fn S.lf [.ptr 1000001 0], .fn S.sf [.vec 1000000, .raw S.hd]]))]⟩ → (a2 ≤ b2 ∧ b2 ≤ sz ∧ b2 - a2 ≤ b' - a' ∧ b2 - a2 < b' - a' ∧ l2 < 1000 ∧ E2.size = sz ∧ Sort.Below S.lt a2 b2 E2 ∧ pdq S.lt E2 a2 b2 l2 wb2 wp2 = RES) → Q .normal τ) :
  pdqR S K ⟨[(1, .int .i64 a'), (2, .int .i64 b'), (3, .int .i64 lim), (4, .ptr 32 0), (8, .bool false), (9, .bool wp)], [(1000000, .vec S.T S.sz (dk.toList.map S.enc)), (1000001, .box S.bv), (32, .box (.agg [.fn S.lf [.ptr 1000001 0], .fn S.sf [.vec 1000000, .raw S.hd]]))]⟩ Q := by
 have h12' : ¬ (b' : Int) - a' ≤ 12 := by omega
 have hl0' : ¬ (lim : Int) = 0 := by omega
 obtain ⟨s1, _, hc1, s2, _, hpv, s3, B3⟩ := rd_facts (lt := S.lt) (limit := lim) (wb := false) (wp := wp) hO partialInsertionSort_holds reverseRange_holds (show a' < b' by omega) (show b' ≤ dk.size by omega) hBel
 have eF : (rd S.lt dk a' b' lim false wp).d1 = breakPatterns dk a' b' ∧ (rd S.lt dk a' b' lim false wp).lim = lim - 1 := rd_false
 have eC := rd_c (lt := S.lt) (d := dk) (a := a') (b := b') (limit := lim) (wb := false) (wp := wp)
 have eD := rd_dec (lt := S.lt) (d := dk) (a := a') (b := b') (limit := lim) (wb := false) (wp := wp)
 have eN := rd_not (lt := S.lt) (d := dk) (a := a') (b := b') (limit := lim) (wb := false) (wp := wp)
 have ePy := rd_pi_yes (lt := S.lt) (d := dk) (a := a') (b := b') (limit := lim) (wb := false) (wp := wp)
 have ePn := rd_pi_no (lt := S.lt) (d := dk) (a := a') (b := b') (limit := lim) (wb := false) (wp := wp)
 have qD := pdq_done (lt := S.lt) (d := dk) (wb := false) (wp := wp) h12 hl0
 have qE := pdq_eq (lt := S.lt) (d := dk) (wb := false) (wp := wp) h12 hl0
 have qL := pdq_left (lt := S.lt) (d := dk) (wb := false) (wp := wp) h12 hl0
 have qR := pdq_right (lt := S.lt) (d := dk) (wb := false) (wp := wp) h12 hl0
 rw [heq] at qD qE qL qR
 clear heq
 generalize rd S.lt dk a' b' lim false wp = R at *
 obtain ⟨d1, lim2, c, d2, pv, hint, pi⟩ := R
 obtain ⟨c1, ch⟩ := c
 obtain ⟨e6, pb⟩ := pi
 simp only at s1 hc1 s2 hpv s3 B3 eF eC eD eN ePy ePn qD qE qL qR hch
 subst hch
 have fC := K.hC d1 a' b' ⟨by omega, by omega, by omega⟩
 rw [← eC] at fC
 simp only at fC
 have hl2 : lim2 < 1000 := by
  have := eF.2; omega
 have m3 := S.farL 134 (by simp [famF])
 have m4 := S.farL 135 (by simp [famF])
 have m5 := S.farL 136 (by simp [famF])
 have m6 := S.farL 137 (by simp [famF])
 have m7 := S.farL 138 (by simp [famF])
 have m8 := S.farL 139 (by simp [famF])
 have m9 := S.farL 92 (by simp [famF])
 unfold pdqR
 dsimp only [Tryz.f92, dr92, dd92, lp, Option.getD_some]
 refine ev_start ?_
 obtain ⟨x1, x2⟩ := eF
 have fB := K.hB dk a' b' ⟨by omega, by omega, by omega⟩
 rw [← x1] at fB
 have clim : (lim : Int) - 1 = (lim2 : Int) := by omega
 obtain ⟨y1, y2, y3⟩ := eN (by simp)
 subst y1 y2 y3
 have z := ePn (by simp)
 simp only [Prod.mk.injEq] at z
 obtain ⟨z1, z2⟩ := z
 subst z1 z2
 clear eD eN ePy ePn qD
 simp (disch := omega) only [h12', hl0', fB, clim, fC, hintI, m3, m4, m5, m6, S.all, S.bmv, S.bbk, S.br, go_sem, evP_D, evD_guard, evD_cons, evD_zero, evD_nil]
 have sE : e6.size = sz := by omega
 by_cases ha0 : 0 < a'
 ·have ha0' : (0 : Int) < a' := by omega
  have hl := S.hL e6 (a' - 1) pv (by omega) (by omega)
  rw [subI ha0] at hl
  cases hv : S.lt e6[a' - 1]! e6[pv]! with
  | false =>
   rw [hv] at hl
   obtain ⟨mid, d4, hx⟩ : ∃ mid d4, partitionEqual S.lt e6 a' b' pv = (mid, d4) := ⟨_, _, rfl⟩
   obtain ⟨r1, r2, r3, r4, _⟩ := round_eq hO (partitionEqual_holds S.lt) ha0 hpv.1 hpv.2 (show b' ≤ e6.size by omega) B3 hv hx
   have fE := K.hE e6 a' b' pv ⟨by omega, by omega, hpv.2, by omega⟩
   rw [hx] at fE
   have w := qE rfl (by rw [decide_eq_true (show a' > 0 from ha0), hv]; rfl) (by rw [hx]; exact ⟨r1, r2⟩)
   rw [hx] at w
   simp only at fE w
   simp (disch := omega) only [ha0', hl, fE, m7, S.all, S.bmv, S.bbk, S.br, go_sem, evP_D, evD_guard, evD_cons, evD_zero, evD_nil]
   refine hnorm _ mid b' lim2 _ _ d4 ?_ ⟨by omega, by omega, by omega, by omega, hl2, by omega, r4, w.symm⟩
   first | (simp only [go_sem, evP_D, evD_guard, evD_cons, evD_zero, evD_nil]; done) | (simp only [go_sem, evP_D, evD_guard, evD_cons, evD_zero, evD_nil, succI]; done) | rfl
  | true =>
   rw [hv] at hl
   have htst : (decide (a' > 0) && !S.lt e6[a' - 1]! e6[pv]!) = false := by rw [hv]; simp
   obtain ⟨mid, ap, d4, hx⟩ : ∃ mid ap d4, partition S.lt e6 a' b' pv = (mid, ap, d4) := ⟨_, _, _, rfl⟩
   obtain ⟨r1, r2, r3, r4, r5, r6, r7⟩ := round_part hO (partition_holds S.lt) hpv.1 hpv.2 (show b' ≤ e6.size by omega) B3 hx
   have fT := K.hT e6 a' b' pv ⟨by omega, by omega, hpv.2, by omega⟩
   rw [hx] at fT
   simp only at fT
   by_cases h4 : mid - a' < b' - mid
   ·have h4' : (mid : Int) - a' < (b' : Int) - mid := by omega
    have fI := K.hQ d4 a' mid lim2 ⟨by omega, r1, by omega, by omega, hl2, r4⟩
    obtain ⟨pL, sL⟩ := pdq_sorts S.lt hO d4 a' mid lim2 true true r1 (by omega) r4
    have w := qL rfl htst (by rw [hx]; exact ⟨r1, r2⟩) (by rw [hx]; exact h4)
    rw [hx] at w
    simp only at w
    have e8 := eighthW (x := b') (y := a') (p := mid) (q := a') r1 hab' (by omega)
    simp (disch := omega) only [ha0', hl, fT, h4', fI, m8, m9, e8, S.all, S.bmv, S.bbk, S.br, go_sem, evP_D, evD_guard, evD_cons, evD_zero, evD_nil]
    refine hnorm _ (mid + 1) b' lim2 _ ap (pdq S.lt d4 a' mid lim2 true true) ?_ ⟨by omega, by omega, by omega, by omega, hl2, by rw [pL.1]; omega, (r6 _ pL sL).1, w.symm⟩
    first | (simp only [go_sem, evP_D, evD_guard, evD_cons, evD_zero, evD_nil]; done) | (simp only [go_sem, evP_D, evD_guard, evD_cons, evD_zero, evD_nil, succI]; done) | rfl
   ·have h4' : ¬ (mid : Int) - a' < (b' : Int) - mid := by omega
    have fI := K.hQ d4 (mid + 1) b' lim2 ⟨by omega, by omega, by omega, by omega, hl2, r5⟩
    rw [succI] at fI
    obtain ⟨pL, sL⟩ := pdq_sorts S.lt hO d4 (mid + 1) b' lim2 true true (by omega) (by omega) r5
    have w := qR rfl htst (by rw [hx]; exact ⟨r1, r2⟩) (by rw [hx]; exact h4)
    rw [hx] at w
    simp only at w
    have e8 := eighthW (x := b') (y := a') (p := b') (q := mid) (by omega) hab' (by omega)
    simp (disch := omega) only [ha0', hl, fT, h4', fI, m8, m9, e8, S.all, S.bmv, S.bbk, S.br, go_sem, evP_D, evD_guard, evD_cons, evD_zero, evD_nil]
    refine hnorm _ a' mid lim2 _ ap (pdq S.lt d4 (mid + 1) b' lim2 true true) ?_ ⟨by omega, by omega, by omega, by omega, hl2, by rw [pL.1]; omega, (r7 _ pL sL).1, w.symm⟩
    first | (simp only [go_sem, evP_D, evD_guard, evD_cons, evD_zero, evD_nil]; done) | (simp only [go_sem, evP_D, evD_guard, evD_cons, evD_zero, evD_nil, succI]; done) | rfl
 ·have ha0' : ¬ (0 : Int) < a' := by omega
  have htst : (decide (a' > 0) && !S.lt e6[a' - 1]! e6[pv]!) = false := by rw [decide_eq_false (show ¬ a' > 0 from ha0)]; rfl
  obtain ⟨mid, ap, d4, hx⟩ : ∃ mid ap d4, partition S.lt e6 a' b' pv = (mid, ap, d4) := ⟨_, _, _, rfl⟩
  obtain ⟨r1, r2, r3, r4, r5, r6, r7⟩ := round_part hO (partition_holds S.lt) hpv.1 hpv.2 (show b' ≤ e6.size by omega) B3 hx
  have fT := K.hT e6 a' b' pv ⟨by omega, by omega, hpv.2, by omega⟩
  rw [hx] at fT
  simp only at fT
  by_cases h4 : mid - a' < b' - mid
  ·have h4' : (mid : Int) - a' < (b' : Int) - mid := by omega
   have fI := K.hQ d4 a' mid lim2 ⟨by omega, r1, by omega, by omega, hl2, r4⟩
   obtain ⟨pL, sL⟩ := pdq_sorts S.lt hO d4 a' mid lim2 true true r1 (by omega) r4
   have w := qL rfl htst (by rw [hx]; exact ⟨r1, r2⟩) (by rw [hx]; exact h4)
   rw [hx] at w
   simp only at w
   have e8 := eighthW (x := b') (y := a') (p := mid) (q := a') r1 hab' (by omega)
   simp (disch := omega) only [ha0', fT, h4', fI, m8, m9, e8, S.all, S.bmv, S.bbk, S.br, go_sem, evP_D, evD_guard, evD_cons, evD_zero, evD_nil]
   refine hnorm _ (mid + 1) b' lim2 _ ap (pdq S.lt d4 a' mid lim2 true true) ?_ ⟨by omega, by omega, by omega, by omega, hl2, by rw [pL.1]; omega, (r6 _ pL sL).1, w.symm⟩
   first | (simp only [go_sem, evP_D, evD_guard, evD_cons, evD_zero, evD_nil]; done) | (simp only [go_sem, evP_D, evD_guard, evD_cons, evD_zero, evD_nil, succI]; done) | rfl
  ·have h4' : ¬ (mid : Int) - a' < (b' : Int) - mid := by omega
   have fI := K.hQ d4 (mid + 1) b' lim2 ⟨by omega, by omega, by omega, by omega, hl2, r5⟩
   rw [succI] at fI
   obtain ⟨pL, sL⟩ := pdq_sorts S.lt hO d4 (mid + 1) b' lim2 true true (by omega) (by omega) r5
   have w := qR rfl htst (by rw [hx]; exact ⟨r1, r2⟩) (by rw [hx]; exact h4)
   rw [hx] at w
   simp only at w
   have e8 := eighthW (x := b') (y := a') (p := b') (q := mid) (by omega) hab' (by omega)
   simp (disch := omega) only [ha0', fT, h4', fI, m8, m9, e8, S.all, S.bmv, S.bbk, S.br, go_sem, evP_D, evD_guard, evD_cons, evD_zero, evD_nil]
   refine hnorm _ a' mid lim2 _ ap (pdq S.lt d4 (mid + 1) b' lim2 true true) ?_ ⟨by omega, by omega, by omega, by omega, hl2, by rw [pL.1]; omega, (r7 _ pL sL).1, w.symm⟩
   first | (simp only [go_sem, evP_D, evD_guard, evD_cons, evD_zero, evD_nil]; done) | (simp only [go_sem, evP_D, evD_guard, evD_cons, evD_zero, evD_nil, succI]; done) | rfl
set_option maxRecDepth 100000 in
set_option maxHeartbeats 40000000 in
theorem pw_f_i (hO : SWO S.lt) {N : Nat} (K : Pq S N) (a' b' lim : Nat) (wp : Bool) (dk : Array α) (sz : Nat) (hds : dk.size = sz) (hsz : sz < 1152921504606846976) (hab' : a' ≤ b') (hb' : b' ≤ sz) (hN : b' - a' ≤ N) (hlim : lim < 1000) (hBel : Sort.Below S.lt a' b' dk) (h12 : ¬ b' - a' ≤ 12) (hl0 : ¬ lim = 0)
  (hch : (rd S.lt dk a' b' lim false wp).c.2 = .increasing) (RES : Array α) (heq : pdq S.lt dk a' b' lim false wp = RES) (Q : Ex → St → Prop) (hret : ∀ env, Q .ret ⟨env, [(1000000, .vec S.T S.sz (RES.toList.map S.enc)), (1000001, .box S.bv), (32, .box (.agg [.fn S.lf [.ptr 1000001 0], .fn S.sf [.vec 1000000, .raw S.hd]]))]⟩)
  (hnorm : ∀ (τ : St) (a2 b2 l2 : Nat) (wb2 wp2 : Bool) (E2 : Array α), τ.keep [1, 2, 3, 4, 8, 9] [1000000, 1000001, 32] = ⟨[(1, .int .i64 a2), (2, .int .i64 b2), (3, .int .i64 l2), (4, .ptr 32 0), (8, .bool wb2), (9, .bool wp2)], [(1000000, .vec S.T S.sz (E2.toList.map S.enc)), (1000001, .box S.bv), (32, .box (.agg [.fn S.lf [.ptr 1000001 0], .fn S.sf [.vec 1000000, .raw S.hd]]))]⟩ → (a2 ≤ b2 ∧ b2 ≤ sz ∧ b2 - a2 ≤ b' - a' ∧ b2 - a2 < b' - a' ∧ l2 < 1000 ∧ E2.size = sz ∧ Sort.Below S.lt a2 b2 E2 ∧ pdq S.lt E2 a2 b2 l2 wb2 wp2 = RES) → Q .normal τ) :
  pdqR S K ⟨[(1, .int .i64 a'), (2, .int .i64 b'), (3, .int .i64 lim), (4, .ptr 32 0), (8, .bool false), (9, .bool wp)], [(1000000, .vec S.T S.sz (dk.toList.map S.enc)), (1000001, .box S.bv), (32, .box (.agg [.fn S.lf [.ptr 1000001 0], .fn S.sf [.vec 1000000, .raw S.hd]]))]⟩ Q := by
 have h12' : ¬ (b' : Int) - a' ≤ 12 := by omega
 have hl0' : ¬ (lim : Int) = 0 := by omega
 obtain ⟨s1, _, hc1, s2, _, hpv, s3, B3⟩ := rd_facts (lt := S.lt) (limit := lim) (wb := false) (wp := wp) hO partialInsertionSort_holds reverseRange_holds (show a' < b' by omega) (show b' ≤ dk.size by omega) hBel
 have eF : (rd S.lt dk a' b' lim false wp).d1 = breakPatterns dk a' b' ∧ (rd S.lt dk a' b' lim false wp).lim = lim - 1 := rd_false
 have eC := rd_c (lt := S.lt) (d := dk) (a := a') (b := b') (limit := lim) (wb := false) (wp := wp)
 have eD := rd_dec (lt := S.lt) (d := dk) (a := a') (b := b') (limit := lim) (wb := false) (wp := wp)
 have eN := rd_not (lt := S.lt) (d := dk) (a := a') (b := b') (limit := lim) (wb := false) (wp := wp)
 have ePy := rd_pi_yes (lt := S.lt) (d := dk) (a := a') (b := b') (limit := lim) (wb := false) (wp := wp)
 have ePn := rd_pi_no (lt := S.lt) (d := dk) (a := a') (b := b') (limit := lim) (wb := false) (wp := wp)
 have qD := pdq_done (lt := S.lt) (d := dk) (wb := false) (wp := wp) h12 hl0
 have qE := pdq_eq (lt := S.lt) (d := dk) (wb := false) (wp := wp) h12 hl0
 have qL := pdq_left (lt := S.lt) (d := dk) (wb := false) (wp := wp) h12 hl0
 have qR := pdq_right (lt := S.lt) (d := dk) (wb := false) (wp := wp) h12 hl0
 rw [heq] at qD qE qL qR
 clear heq
 generalize rd S.lt dk a' b' lim false wp = R at *
 obtain ⟨d1, lim2, c, d2, pv, hint, pi⟩ := R
 obtain ⟨c1, ch⟩ := c
 obtain ⟨e6, pb⟩ := pi
 simp only at s1 hc1 s2 hpv s3 B3 eF eC eD eN ePy ePn qD qE qL qR hch
 subst hch
 have fC := K.hC d1 a' b' ⟨by omega, by omega, by omega⟩
 rw [← eC] at fC
 simp only at fC
 have hl2 : lim2 < 1000 := by
  have := eF.2; omega
 have m3 := S.farL 134 (by simp [famF])
 have m4 := S.farL 135 (by simp [famF])
 have m5 := S.farL 136 (by simp [famF])
 have m6 := S.farL 137 (by simp [famF])
 have m7 := S.farL 138 (by simp [famF])
 have m8 := S.farL 139 (by simp [famF])
 have m9 := S.farL 92 (by simp [famF])
 unfold pdqR
 dsimp only [Tryz.f92, dr92, dd92, lp, Option.getD_some]
 refine ev_start ?_
 obtain ⟨x1, x2⟩ := eF
 have fB := K.hB dk a' b' ⟨by omega, by omega, by omega⟩
 rw [← x1] at fB
 have clim : (lim : Int) - 1 = (lim2 : Int) := by omega
 obtain ⟨y1, y2, y3⟩ := eN (by simp)
 subst y1 y2 y3
 have z := ePn (by simp)
 simp only [Prod.mk.injEq] at z
 obtain ⟨z1, z2⟩ := z
 subst z1 z2
 clear eD eN ePy ePn qD
 simp (disch := omega) only [h12', hl0', fB, clim, fC, hintI, m3, m4, m5, m6, S.all, S.bmv, S.bbk, S.br, go_sem, evP_D, evD_guard, evD_cons, evD_zero, evD_nil]
 have sE : e6.size = sz := by omega
 by_cases ha0 : 0 < a'
 ·have ha0' : (0 : Int) < a' := by omega
  have hl := S.hL e6 (a' - 1) pv (by omega) (by omega)
  rw [subI ha0] at hl
  cases hv : S.lt e6[a' - 1]! e6[pv]! with
  | false =>
   rw [hv] at hl
   obtain ⟨mid, d4, hx⟩ : ∃ mid d4, partitionEqual S.lt e6 a' b' pv = (mid, d4) := ⟨_, _, rfl⟩
   obtain ⟨r1, r2, r3, r4, _⟩ := round_eq hO (partitionEqual_holds S.lt) ha0 hpv.1 hpv.2 (show b' ≤ e6.size by omega) B3 hv hx
   have fE := K.hE e6 a' b' pv ⟨by omega, by omega, hpv.2, by omega⟩
   rw [hx] at fE
   have w := qE rfl (by rw [decide_eq_true (show a' > 0 from ha0), hv]; rfl) (by rw [hx]; exact ⟨r1, r2⟩)
   rw [hx] at w
   simp only at fE w
   simp (disch := omega) only [ha0', hl, fE, m7, S.all, S.bmv, S.bbk, S.br, go_sem, evP_D, evD_guard, evD_cons, evD_zero, evD_nil]
   refine hnorm _ mid b' lim2 _ _ d4 ?_ ⟨by omega, by omega, by omega, by omega, hl2, by omega, r4, w.symm⟩
   first | (simp only [go_sem, evP_D, evD_guard, evD_cons, evD_zero, evD_nil]; done) | (simp only [go_sem, evP_D, evD_guard, evD_cons, evD_zero, evD_nil, succI]; done) | rfl
  | true =>
   rw [hv] at hl
   have htst : (decide (a' > 0) && !S.lt e6[a' - 1]! e6[pv]!) = false := by rw [hv]; simp
   obtain ⟨mid, ap, d4, hx⟩ : ∃ mid ap d4, partition S.lt e6 a' b' pv = (mid, ap, d4) := ⟨_, _, _, rfl⟩
   obtain ⟨r1, r2, r3, r4, r5, r6, r7⟩ := round_part hO (partition_holds S.lt) hpv.1 hpv.2 (show b' ≤ e6.size by omega) B3 hx
   have fT := K.hT e6 a' b' pv ⟨by omega, by omega, hpv.2, by omega⟩
   rw [hx] at fT
   simp only at fT
   by_cases h4 : mid - a' < b' - mid
   ·have h4' : (mid : Int) - a' < (b' : Int) - mid := by omega
    have fI := K.hQ d4 a' mid lim2 ⟨by omega, r1, by omega, by omega, hl2, r4⟩
    obtain ⟨pL, sL⟩ := pdq_sorts S.lt hO d4 a' mid lim2 true true r1 (by omega) r4
    have w := qL rfl htst (by rw [hx]; exact ⟨r1, r2⟩) (by rw [hx]; exact h4)
    rw [hx] at w
    simp only at w
    have e8 := eighthW (x := b') (y := a') (p := mid) (q := a') r1 hab' (by omega)
    simp (disch := omega) only [ha0', hl, fT, h4', fI, m8, m9, e8, S.all, S.bmv, S.bbk, S.br, go_sem, evP_D, evD_guard, evD_cons, evD_zero, evD_nil]
    refine hnorm _ (mid + 1) b' lim2 _ ap (pdq S.lt d4 a' mid lim2 true true) ?_ ⟨by omega, by omega, by omega, by omega, hl2, by rw [pL.1]; omega, (r6 _ pL sL).1, w.symm⟩
    first | (simp only [go_sem, evP_D, evD_guard, evD_cons, evD_zero, evD_nil]; done) | (simp only [go_sem, evP_D, evD_guard, evD_cons, evD_zero, evD_nil, succI]; done) | rfl
   ·have h4' : ¬ (mid : Int) - a' < (b' : Int) - mid := by omega
    have fI := K.hQ d4 (mid + 1) b' lim2 ⟨by omega, by omega, by omega, by omega, hl2, r5⟩
    rw [succI] at fI
    obtain ⟨pL, sL⟩ := pdq_sorts S.lt hO d4 (mid + 1) b' lim2 true true (by omega) (by omega) r5
    have w := qR rfl htst (by rw [hx]; exact ⟨r1, r2⟩) (by rw [hx]; exact h4)
    rw [hx] at w
    simp only at w
    have e8 := eighthW (x := b') (y := a') (p := b') (q := mid) (by omega) hab' (by omega)
    simp (disch := omega) only [ha0', hl, fT, h4', fI, m8, m9, e8, S.all, S.bmv, S.bbk, S.br, go_sem, evP_D, evD_guard, evD_cons, evD_zero, evD_nil]
    refine hnorm _ a' mid lim2 _ ap (pdq S.lt d4 (mid + 1) b' lim2 true true) ?_ ⟨by omega, by omega, by omega, by omega, hl2, by rw [pL.1]; omega, (r7 _ pL sL).1, w.symm⟩
    first | (simp only [go_sem, evP_D, evD_guard, evD_cons, evD_zero, evD_nil]; done) | (simp only [go_sem, evP_D, evD_guard, evD_cons, evD_zero, evD_nil, succI]; done) | rfl
 ·have ha0' : ¬ (0 : Int) < a' := by omega
  have htst : (decide (a' > 0) && !S.lt e6[a' - 1]! e6[pv]!) = false := by rw [decide_eq_false (show ¬ a' > 0 from ha0)]; rfl
  obtain ⟨mid, ap, d4, hx⟩ : ∃ mid ap d4, partition S.lt e6 a' b' pv = (mid, ap, d4) := ⟨_, _, _, rfl⟩
  obtain ⟨r1, r2, r3, r4, r5, r6, r7⟩ := round_part hO (partition_holds S.lt) hpv.1 hpv.2 (show b' ≤ e6.size by omega) B3 hx
  have fT := K.hT e6 a' b' pv ⟨by omega, by omega, hpv.2, by omega⟩
  rw [hx] at fT
  simp only at fT
  by_cases h4 : mid - a' < b' - mid
  ·have h4' : (mid : Int) - a' < (b' : Int) - mid := by omega
   have fI := K.hQ d4 a' mid lim2 ⟨by omega, r1, by omega, by omega, hl2, r4⟩
   obtain ⟨pL, sL⟩ := pdq_sorts S.lt hO d4 a' mid lim2 true true r1 (by omega) r4
   have w := qL rfl htst (by rw [hx]; exact ⟨r1, r2⟩) (by rw [hx]; exact h4)
   rw [hx] at w
   simp only at w
   have e8 := eighthW (x := b') (y := a') (p := mid) (q := a') r1 hab' (by omega)
   simp (disch := omega) only [ha0', fT, h4', fI, m8, m9, e8, S.all, S.bmv, S.bbk, S.br, go_sem, evP_D, evD_guard, evD_cons, evD_zero, evD_nil]
   refine hnorm _ (mid + 1) b' lim2 _ ap (pdq S.lt d4 a' mid lim2 true true) ?_ ⟨by omega, by omega, by omega, by omega, hl2, by rw [pL.1]; omega, (r6 _ pL sL).1, w.symm⟩
   first | (simp only [go_sem, evP_D, evD_guard, evD_cons, evD_zero, evD_nil]; done) | (simp only [go_sem, evP_D, evD_guard, evD_cons, evD_zero, evD_nil, succI]; done) | rfl
  ·have h4' : ¬ (mid : Int) - a' < (b' : Int) - mid := by omega
   have fI := K.hQ d4 (mid + 1) b' lim2 ⟨by omega, by omega, by omega, by omega, hl2, r5⟩
   rw [succI] at fI
   obtain ⟨pL, sL⟩ := pdq_sorts S.lt hO d4 (mid + 1) b' lim2 true true (by omega) (by omega) r5
   have w := qR rfl htst (by rw [hx]; exact ⟨r1, r2⟩) (by rw [hx]; exact h4)
   rw [hx] at w
   simp only at w
   have e8 := eighthW (x := b') (y := a') (p := b') (q := mid) (by omega) hab' (by omega)
   simp (disch := omega) only [ha0', fT, h4', fI, m8, m9, e8, S.all, S.bmv, S.bbk, S.br, go_sem, evP_D, evD_guard, evD_cons, evD_zero, evD_nil]
   refine hnorm _ a' mid lim2 _ ap (pdq S.lt d4 (mid + 1) b' lim2 true true) ?_ ⟨by omega, by omega, by omega, by omega, hl2, by rw [pL.1]; omega, (r7 _ pL sL).1, w.symm⟩
   first | (simp only [go_sem, evP_D, evD_guard, evD_cons, evD_zero, evD_nil]; done) | (simp only [go_sem, evP_D, evD_guard, evD_cons, evD_zero, evD_nil, succI]; done) | rfl
set_option maxRecDepth 100000 in
set_option maxHeartbeats 40000000 in
theorem pw_f_d (hO : SWO S.lt) {N : Nat} (K : Pq S N) (a' b' lim : Nat) (wp : Bool) (dk : Array α) (sz : Nat) (hds : dk.size = sz) (hsz : sz < 1152921504606846976) (hab' : a' ≤ b') (hb' : b' ≤ sz) (hN : b' - a' ≤ N) (hlim : lim < 1000) (hBel : Sort.Below S.lt a' b' dk) (h12 : ¬ b' - a' ≤ 12) (hl0 : ¬ lim = 0)
  (hch : (rd S.lt dk a' b' lim false wp).c.2 = .decreasing) (RES : Array α) (heq : pdq S.lt dk a' b' lim false wp = RES) (Q : Ex → St → Prop) (hret : ∀ env, Q .ret ⟨env, [(1000000, .vec S.T S.sz (RES.toList.map S.enc)), (1000001, .box S.bv), (32, .box (.agg [.fn S.lf [.ptr 1000001 0], .fn S.sf [.vec 1000000, .raw S.hd]]))]⟩)
  (hnorm : ∀ (τ : St) (a2 b2 l2 : Nat) (wb2 wp2 : Bool) (E2 : Array α), τ.keep [1, 2, 3, 4, 8, 9] [1000000, 1000001, 32] = ⟨[(1, .int .i64 a2), (2, .int .i64 b2), (3, .int .i64 l2), (4, .ptr 32 0), (8, .bool wb2), (9, .bool wp2)], [(1000000, .vec S.T S.sz (E2.toList.map S.enc)), (1000001, .box S.bv), (32, .box (.agg [.fn S.lf [.ptr 1000001 0], .fn S.sf [.vec 1000000, .raw S.hd]]))]⟩ → (a2 ≤ b2 ∧ b2 ≤ sz ∧ b2 - a2 ≤ b' - a' ∧ b2 - a2 < b' - a' ∧ l2 < 1000 ∧ E2.size = sz ∧ Sort.Below S.lt a2 b2 E2 ∧ pdq S.lt E2 a2 b2 l2 wb2 wp2 = RES) → Q .normal τ) :
  pdqR S K ⟨[(1, .int .i64 a'), (2, .int .i64 b'), (3, .int .i64 lim), (4, .ptr 32 0), (8, .bool false), (9, .bool wp)], [(1000000, .vec S.T S.sz (dk.toList.map S.enc)), (1000001, .box S.bv), (32, .box (.agg [.fn S.lf [.ptr 1000001 0], .fn S.sf [.vec 1000000, .raw S.hd]]))]⟩ Q := by
 have h12' : ¬ (b' : Int) - a' ≤ 12 := by omega
 have hl0' : ¬ (lim : Int) = 0 := by omega
 obtain ⟨s1, _, hc1, s2, _, hpv, s3, B3⟩ := rd_facts (lt := S.lt) (limit := lim) (wb := false) (wp := wp) hO partialInsertionSort_holds reverseRange_holds (show a' < b' by omega) (show b' ≤ dk.size by omega) hBel
 have eF : (rd S.lt dk a' b' lim false wp).d1 = breakPatterns dk a' b' ∧ (rd S.lt dk a' b' lim false wp).lim = lim - 1 := rd_false
 have eC := rd_c (lt := S.lt) (d := dk) (a := a') (b := b') (limit := lim) (wb := false) (wp := wp)
 have eD := rd_dec (lt := S.lt) (d := dk) (a := a') (b := b') (limit := lim) (wb := false) (wp := wp)
 have eN := rd_not (lt := S.lt) (d := dk) (a := a') (b := b') (limit := lim) (wb := false) (wp := wp)
 have ePy := rd_pi_yes (lt := S.lt) (d := dk) (a := a') (b := b') (limit := lim) (wb := false) (wp := wp)
 have ePn := rd_pi_no (lt := S.lt) (d := dk) (a := a') (b := b') (limit := lim) (wb := false) (wp := wp)
 have qD := pdq_done (lt := S.lt) (d := dk) (wb := false) (wp := wp) h12 hl0
 have qE := pdq_eq (lt := S.lt) (d := dk) (wb := false) (wp := wp) h12 hl0
 have qL := pdq_left (lt := S.lt) (d := dk) (wb := false) (wp := wp) h12 hl0
 have qR := pdq_right (lt := S.lt) (d := dk) (wb := false) (wp := wp) h12 hl0
 rw [heq] at qD qE qL qR
 clear heq
 generalize rd S.lt dk a' b' lim false wp = R at *
 obtain ⟨d1, lim2, c, d2, pv, hint, pi⟩ := R
 obtain ⟨c1, ch⟩ := c
 obtain ⟨e6, pb⟩ := pi
 simp only at s1 hc1 s2 hpv s3 B3 eF eC eD eN ePy ePn qD qE qL qR hch
 subst hch
 have fC := K.hC d1 a' b' ⟨by omega, by omega, by omega⟩
 rw [← eC] at fC
 simp only at fC
 have hl2 : lim2 < 1000 := by
  have := eF.2; omega
 have m3 := S.farL 134 (by simp [famF])
 have m4 := S.farL 135 (by simp [famF])
 have m5 := S.farL 136 (by simp [famF])
 have m6 := S.farL 137 (by simp [famF])
 have m7 := S.farL 138 (by simp [famF])
 have m8 := S.farL 139 (by simp [famF])
 have m9 := S.farL 92 (by simp [famF])
 unfold pdqR
 dsimp only [Tryz.f92, dr92, dd92, lp, Option.getD_some]
 refine ev_start ?_
 obtain ⟨x1, x2⟩ := eF
 have fB := K.hB dk a' b' ⟨by omega, by omega, by omega⟩
 rw [← x1] at fB
 have clim : (lim : Int) - 1 = (lim2 : Int) := by omega
 obtain ⟨y1, y2, y3⟩ := eD rfl
 have fR := K.hR d1 a' b' ⟨by omega, by omega, by omega, by omega⟩
 rw [← y1] at fR
 have cpv : (b' : Int) - 1 - ((c1 : Int) - a') = (pv : Int) := by omega
 subst y3
 have z := ePn (by simp)
 simp only [Prod.mk.injEq] at z
 obtain ⟨z1, z2⟩ := z
 subst z1 z2
 clear eD eN ePy ePn qD
 simp (disch := omega) only [h12', hl0', fB, clim, fC, fR, cpv, hintI, m3, m4, m5, m6, S.all, S.bmv, S.bbk, S.br, go_sem, evP_D, evD_guard, evD_cons, evD_zero, evD_nil]
 have sE : e6.size = sz := by omega
 by_cases ha0 : 0 < a'
 ·have ha0' : (0 : Int) < a' := by omega
  have hl := S.hL e6 (a' - 1) pv (by omega) (by omega)
  rw [subI ha0] at hl
  cases hv : S.lt e6[a' - 1]! e6[pv]! with
  | false =>
   rw [hv] at hl
   obtain ⟨mid, d4, hx⟩ : ∃ mid d4, partitionEqual S.lt e6 a' b' pv = (mid, d4) := ⟨_, _, rfl⟩
   obtain ⟨r1, r2, r3, r4, _⟩ := round_eq hO (partitionEqual_holds S.lt) ha0 hpv.1 hpv.2 (show b' ≤ e6.size by omega) B3 hv hx
   have fE := K.hE e6 a' b' pv ⟨by omega, by omega, hpv.2, by omega⟩
   rw [hx] at fE
   have w := qE rfl (by rw [decide_eq_true (show a' > 0 from ha0), hv]; rfl) (by rw [hx]; exact ⟨r1, r2⟩)
   rw [hx] at w
   simp only at fE w
   simp (disch := omega) only [ha0', hl, fE, m7, S.all, S.bmv, S.bbk, S.br, go_sem, evP_D, evD_guard, evD_cons, evD_zero, evD_nil]
   refine hnorm _ mid b' lim2 _ _ d4 ?_ ⟨by omega, by omega, by omega, by omega, hl2, by omega, r4, w.symm⟩
   first | (simp only [go_sem, evP_D, evD_guard, evD_cons, evD_zero, evD_nil]; done) | (simp only [go_sem, evP_D, evD_guard, evD_cons, evD_zero, evD_nil, succI]; done) | rfl
  | true =>
   rw [hv] at hl
   have htst : (decide (a' > 0) && !S.lt e6[a' - 1]! e6[pv]!) = false := by rw [hv]; simp
   obtain ⟨mid, ap, d4, hx⟩ : ∃ mid ap d4, partition S.lt e6 a' b' pv = (mid, ap, d4) := ⟨_, _, _, rfl⟩
   obtain ⟨r1, r2, r3, r4, r5, r6, r7⟩ := round_part hO (partition_holds S.lt) hpv.1 hpv.2 (show b' ≤ e6.size by omega) B3 hx
   have fT := K.hT e6 a' b' pv ⟨by omega, by omega, hpv.2, by omega⟩
   rw [hx] at fT
   simp only at fT
   by_cases h4 : mid - a' < b' - mid
   ·have h4' : (mid : Int) - a' < (b' : Int) - mid := by omega
    have fI := K.hQ d4 a' mid lim2 ⟨by omega, r1, by omega, by omega, hl2, r4⟩
    obtain ⟨pL, sL⟩ := pdq_sorts S.lt hO d4 a' mid lim2 true true r1 (by omega) r4
    have w := qL rfl htst (by rw [hx]; exact ⟨r1, r2⟩) (by rw [hx]; exact h4)
    rw [hx] at w
    simp only at w
    have e8 := eighthW (x := b') (y := a') (p := mid) (q := a') r1 hab' (by omega)
    simp (disch := omega) only [ha0', hl, fT, h4', fI, m8, m9, e8, S.all, S.bmv, S.bbk, S.br, go_sem, evP_D, evD_guard, evD_cons, evD_zero, evD_nil]
    refine hnorm _ (mid + 1) b' lim2 _ ap (pdq S.lt d4 a' mid lim2 true true) ?_ ⟨by omega, by omega, by omega, by omega, hl2, by rw [pL.1]; omega, (r6 _ pL sL).1, w.symm⟩
    first | (simp only [go_sem, evP_D, evD_guard, evD_cons, evD_zero, evD_nil]; done) | (simp only [go_sem, evP_D, evD_guard, evD_cons, evD_zero, evD_nil, succI]; done) | rfl
   ·have h4' : ¬ (mid : Int) - a' < (b' : Int) - mid := by omega
    have fI := K.hQ d4 (mid + 1) b' lim2 ⟨by omega, by omega, by omega, by omega, hl2, r5⟩
    rw [succI] at fI
    obtain ⟨pL, sL⟩ := pdq_sorts S.lt hO d4 (mid + 1) b' lim2 true true (by omega) (by omega) r5
    have w := qR rfl htst (by rw [hx]; exact ⟨r1, r2⟩) (by rw [hx]; exact h4)
    rw [hx] at w
    simp only at w
    have e8 := eighthW (x := b') (y := a') (p := b') (q := mid) (by omega) hab' (by omega)
    simp (disch := omega) only [ha0', hl, fT, h4', fI, m8, m9, e8, S.all, S.bmv, S.bbk, S.br, go_sem, evP_D, evD_guard, evD_cons, evD_zero, evD_nil]
    refine hnorm _ a' mid lim2 _ ap (pdq S.lt d4 (mid + 1) b' lim2 true true) ?_ ⟨by omega, by omega, by omega, by omega, hl2, by rw [pL.1]; omega, (r7 _ pL sL).1, w.symm⟩
    first | (simp only [go_sem, evP_D, evD_guard, evD_cons, evD_zero, evD_nil]; done) | (simp only [go_sem, evP_D, evD_guard, evD_cons, evD_zero, evD_nil, succI]; done) | rfl
 ·have ha0' : ¬ (0 : Int) < a' := by omega
  have htst : (decide (a' > 0) && !S.lt e6[a' - 1]! e6[pv]!) = false := by rw [decide_eq_false (show ¬ a' > 0 from ha0)]; rfl
  obtain ⟨mid, ap, d4, hx⟩ : ∃ mid ap d4, partition S.lt e6 a' b' pv = (mid, ap, d4) := ⟨_, _, _, rfl⟩
  obtain ⟨r1, r2, r3, r4, r5, r6, r7⟩ := round_part hO (partition_holds S.lt) hpv.1 hpv.2 (show b' ≤ e6.size by omega) B3 hx
  have fT := K.hT e6 a' b' pv ⟨by omega, by omega, hpv.2, by omega⟩
  rw [hx] at fT
  simp only at fT
  by_cases h4 : mid - a' < b' - mid
  ·have h4' : (mid : Int) - a' < (b' : Int) - mid := by omega
   have fI := K.hQ d4 a' mid lim2 ⟨by omega, r1, by omega, by omega, hl2, r4⟩
   obtain ⟨pL, sL⟩ := pdq_sorts S.lt hO d4 a' mid lim2 true true r1 (by omega) r4
   have w := qL rfl htst (by rw [hx]; exact ⟨r1, r2⟩) (by rw [hx]; exact h4)
   rw [hx] at w
   simp only at w
   have e8 := eighthW (x := b') (y := a') (p := mid) (q := a') r1 hab' (by omega)
   simp (disch := omega) only [ha0', fT, h4', fI, m8, m9, e8, S.all, S.bmv, S.bbk, S.br, go_sem, evP_D, evD_guard, evD_cons, evD_zero, evD_nil]
   refine hnorm _ (mid + 1) b' lim2 _ ap (pdq S.lt d4 a' mid lim2 true true) ?_ ⟨by omega, by omega, by omega, by omega, hl2, by rw [pL.1]; omega, (r6 _ pL sL).1, w.symm⟩
   first | (simp only [go_sem, evP_D, evD_guard, evD_cons, evD_zero, evD_nil]; done) | (simp only [go_sem, evP_D, evD_guard, evD_cons, evD_zero, evD_nil, succI]; done) | rfl
  ·have h4' : ¬ (mid : Int) - a' < (b' : Int) - mid := by omega
   have fI := K.hQ d4 (mid + 1) b' lim2 ⟨by omega, by omega, by omega, by omega, hl2, r5⟩
   rw [succI] at fI
   obtain ⟨pL, sL⟩ := pdq_sorts S.lt hO d4 (mid + 1) b' lim2 true true (by omega) (by omega) r5
   have w := qR rfl htst (by rw [hx]; exact ⟨r1, r2⟩) (by rw [hx]; exact h4)
   rw [hx] at w
   simp only at w
   have e8 := eighthW (x := b') (y := a') (p := b') (q := mid) (by omega) hab' (by omega)
   simp (disch := omega) only [ha0', fT, h4', fI, m8, m9, e8, S.all, S.bmv, S.bbk, S.br, go_sem, evP_D, evD_guard, evD_cons, evD_zero, evD_nil]
   refine hnorm _ a' mid lim2 _ ap (pdq S.lt d4 (mid + 1) b' lim2 true true) ?_ ⟨by omega, by omega, by omega, by omega, hl2, by rw [pL.1]; omega, (r7 _ pL sL).1, w.symm⟩
   first | (simp only [go_sem, evP_D, evD_guard, evD_cons, evD_zero, evD_nil]; done) | (simp only [go_sem, evP_D, evD_guard, evD_cons, evD_zero, evD_nil, succI]; done) | rfl
end
end Go.Proofs.YtdmkmbaaemhhhaaGreatDoor
