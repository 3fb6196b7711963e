/-
  What pieces cost that go: the plain law: lots taken from the front, and pieces by their places, come to the same.
-/
import Derived.Test.YtdmkmbaaemhhhaaRnd
namespace Go.Stk
set_option linter.unusedVariables false
set_option linter.unusedSimpArgs false
abbrev Mv := Int × Int
abbrev Lt := Int × Int
abbrev Sp := Int × Int × Int
/-! ### may moves be -/
def mvE (m : Mv) : Int := if m.1 = 0 ∨ m.1 < -1000000 ∨ 1000000 < m.1 ∨ m.2 < 0 ∨ 1000000000000 < m.2 then 1 else if m.1 < 0 ∧ m.2 ≠ 0 then 3 else 0
def mvsE : List Mv → Int
  | [] => 0
  | m :: l => if mvE m = 0 then mvsE l else mvE m
def sumE : Int → List Mv → Bool
  | _, [] => true
  | n, m :: l => decide (0 ≤ n + m.1) && sumE (n + m.1) l
theorem mvE_ok {m : Mv} (h : mvE m = 0) : m.1 ≠ 0 ∧ -1000000 ≤ m.1 ∧ m.1 ≤ 1000000 ∧ 0 ≤ m.2 ∧ m.2 ≤ 1000000000000 ∧ (m.1 < 0 → m.2 = 0) := by
  unfold mvE at h
  split at h
  · cases h
  · split at h
    · cases h
    · omega
theorem mvsE_ok : ∀ {l : List Mv}, mvsE l = 0 → ∀ m ∈ l, mvE m = 0
  | [], _, m, hm => by simp at hm
  | x :: l, h, m, hm => by
    unfold mvsE at h
    by_cases hx : mvE x = 0
    · rw [if_pos hx] at h
      rw [List.mem_cons] at hm
      rcases hm with rfl | hm
      · exact hx
      · exact mvsE_ok h m hm
    · rw [if_neg hx] at h
      exact absurd h hx
theorem mvsE_step {l : List Mv} {k : Nat} (h : k < l.length) : mvsE (l.drop k) = if mvE l[k] = 0 then mvsE (l.drop (k + 1)) else mvE l[k] := by
  rw [List.drop_eq_getElem_cons h]
  rfl
theorem sumE_step {l : List Mv} {k : Nat} (n : Int) (h : k < l.length) : sumE n (l.drop k) = (decide (0 ≤ n + l[k].1) && sumE (n + l[k].1) (l.drop (k + 1))) := by
  rw [List.drop_eq_getElem_cons h]
  rfl
/-! ### lots -/
def takeG : List Lt → Int → Int → Option (List Lt × Int)
  | [], n, x => if n ≤ 0 then some ([], x) else none
  | p :: r, n, x => if n ≤ 0 then some (p :: r, x) else if p.1 ≤ n then takeG r (n - p.1) (x + p.2) else some ((p.1 - n, p.2 - (p.2 * n).tdiv p.1) :: r, x + (p.2 * n).tdiv p.1)
def fifoG : List Mv → List Lt → List Int → Option (List Int × List Lt)
  | [], s, out => some (out, s)
  | m :: l, s, out => if 0 < m.1 then fifoG l (s ++ [m]) out else match takeG s (-m.1) 0 with
    | none => none
    | some (s', x) => fifoG l s' (out ++ [x])
/-! ### places -/
def spanS (gone to : Int) (s : Sp) : Sp × Int :=
  if min s.2.1 to ≤ max s.1 gone then (s, 0)
  else if min s.2.1 to < s.2.1 then ((min s.2.1 to, s.2.1, s.2.2 - (s.2.2 * (min s.2.1 to - max s.1 gone)).tdiv (s.2.1 - max s.1 gone)), (s.2.2 * (min s.2.1 to - max s.1 gone)).tdiv (s.2.1 - max s.1 gone))
  else ((min s.2.1 to, s.2.1, s.2.2 - s.2.2), s.2.2)
def sellL (gone to : Int) (l : List Sp) : List Sp := l.map fun s => (spanS gone to s).1
def sellC (gone to : Int) : List Sp → Int
  | [] => 0
  | s :: l => (spanS gone to s).2 + sellC gone to l
theorem sellL_cons (gone to : Int) (s : Sp) (l : List Sp) : sellL gone to (s :: l) = (spanS gone to s).1 :: sellL gone to l := rfl
theorem sellL_app (gone to : Int) (a b : List Sp) : sellL gone to (a ++ b) = sellL gone to a ++ sellL gone to b := List.map_append
theorem sellC_app (gone to : Int) : ∀ a b : List Sp, sellC gone to (a ++ b) = sellC gone to a + sellC gone to b
  | [], b => by simp [sellC]
  | s :: a, b => by simp only [List.cons_append, sellC, sellC_app gone to a b]; omega
def rfifoG : List Mv → List Sp → Int → Int → List Int → List Int × List Sp
  | [], S, _, _, out => (out, S)
  | m :: l, S, inn, gone, out => if 0 < m.1 then rfifoG l (S ++ [(inn, inn + m.1, m.2)]) (inn + m.1) gone out
    else rfifoG l (sellL gone (gone - m.1) S) inn (gone - m.1) (out ++ [sellC gone (gone - m.1) S])
def lotsG (S : List Sp) : List Lt := (S.filter fun s => decide (s.1 < s.2.1)).map fun s => (s.2.1 - s.1, s.2.2)
/-! ### the law -/
def spansOf : Int → List Lt → List Sp
  | _, [] => []
  | g, p :: r => (g, g + p.1, p.2) :: spansOf (g + p.1) r
def sumC : List Lt → Int
  | [] => 0
  | p :: r => p.1 + sumC r
def posL (l : List Lt) : Prop := ∀ p ∈ l, 0 < p.1
theorem sumC_app : ∀ a b : List Lt, sumC (a ++ b) = sumC a + sumC b
  | [], b => by simp [sumC]
  | p :: a, b => by simp only [List.cons_append, sumC, sumC_app a b]; omega
theorem spansOf_app : ∀ (g : Int) (a b : List Lt), spansOf g (a ++ b) = spansOf g a ++ spansOf (g + sumC a) b
  | g, [], b => by simp [spansOf, sumC]
  | g, p :: a, b => by
    simp only [List.cons_append, spansOf, sumC, spansOf_app (g + p.1) a b]
    rw [show g + p.1 + sumC a = g + (p.1 + sumC a) by omega]
theorem sumC_nonneg : ∀ {l : List Lt}, posL l → 0 ≤ sumC l
  | [], _ => Int.le_refl _
  | p :: r, h => by
    have h1 := h p (by simp)
    have h2 := sumC_nonneg (l := r) fun q hq => h q (List.mem_cons_of_mem _ hq)
    show 0 ≤ p.1 + sumC r
    omega
/-- what lies behind the place is untouched -/
theorem span_far {gone to : Int} {s : Sp} (h : to ≤ s.1) : spanS gone to s = (s, 0) := by
  unfold spanS
  rw [if_pos (by omega)]
theorem sell_far {gone to : Int} : ∀ {l : List Lt} {g : Int}, posL l → to ≤ g → sellL gone to (spansOf g l) = spansOf g l ∧ sellC gone to (spansOf g l) = 0
  | [], g, _, _ => ⟨rfl, rfl⟩
  | p :: r, g, hp, h => by
    have h1 := hp p (by simp)
    have e : spanS gone to (g, g + p.1, p.2) = ((g, g + p.1, p.2), 0) := span_far h
    have ih := sell_far (gone := gone) (to := to) (l := r) (g := g + p.1) (fun q hq => hp q (List.mem_cons_of_mem _ hq)) (by omega)
    constructor
    · rw [spansOf, sellL_cons, e, ih.1]
    · rw [spansOf, sellC, e, ih.2]
      rfl
/-- what was used up stays -/
def usedUp (gone : Int) (l : List Sp) : Prop := ∀ s ∈ l, s.1 = s.2.1 ∧ s.2.1 ≤ gone
theorem span_old {gone to : Int} {s : Sp} (h : s.2.1 ≤ gone) : spanS gone to s = (s, 0) := by
  unfold spanS
  rw [if_pos (by omega)]
theorem sell_old {gone to : Int} : ∀ {l : List Sp}, usedUp gone l → sellL gone to l = l ∧ sellC gone to l = 0
  | [], _ => ⟨rfl, rfl⟩
  | s :: l, h => by
    have e := span_old (to := to) (h s (by simp)).2
    have ih := sell_old (to := to) (l := l) fun q hq => h q (List.mem_cons_of_mem _ hq)
    exact ⟨by rw [sellL_cons, e, ih.1], by rw [sellC, e, ih.2]; rfl⟩
theorem take_spans {gone : Int} : ∀ {S : List Lt} {g n : Int} (x : Int), gone ≤ g → posL S → 0 ≤ n → n ≤ sumC S →
    ∃ S' D, takeG S n x = some (S', x + sellC gone (g + n) (spansOf g S)) ∧ sellL gone (g + n) (spansOf g S) = D ++ spansOf (g + n) S' ∧ usedUp (g + n) D ∧ posL S' ∧ sumC S' = sumC S - n
  | [], g, n, x, hg, hp, h0, h1 => by
    have hn : n = 0 := by simp only [sumC] at h1; omega
    subst hn
    exact ⟨[], [], by simp [takeG, sellC, spansOf], rfl, fun s hs => by simp at hs, fun s hs => by simp at hs, by simp [sumC]⟩
  | p :: r, g, n, x, hg, hp, h0, h1 => by
    have hp1 := hp p (by simp)
    have hr : posL r := fun q hq => hp q (List.mem_cons_of_mem _ hq)
    simp only [sumC] at h1
    by_cases hz : n = 0
    · subst hz
      obtain ⟨e1, e2⟩ := sell_far (gone := gone) (to := g + 0) (l := p :: r) (g := g) hp (by omega)
      refine ⟨p :: r, [], ?_, ?_, fun s hs => by simp at hs, hp, by simp⟩
      · rw [e2, takeG, if_pos (Int.le_refl _), Int.add_zero]
      · rw [e1, Int.add_zero]; rfl
    have hn : ¬ n ≤ 0 := by omega
    by_cases hc : p.1 ≤ n
    · obtain ⟨S', D, t1, t2, t3, t4, t5⟩ := take_spans (gone := gone) (S := r) (g := g + p.1) (n := n - p.1) (x + p.2) (by omega) hr (by omega) (by omega)
      have eg : g + p.1 + (n - p.1) = g + n := by omega
      rw [eg] at t1 t2 t3
      have e : spanS gone (g + n) (g, g + p.1, p.2) = ((g + p.1, g + p.1, p.2 - p.2), p.2) := by
        unfold spanS
        have m1 : min (g + p.1) (g + n) = g + p.1 := by omega
        have m2 : max g gone = g := by omega
        simp only [m1, m2]
        rw [if_neg (by omega), if_neg (by omega)]
      refine ⟨S', (g + p.1, g + p.1, p.2 - p.2) :: D, ?_, ?_, ?_, t4, ?_⟩
      · rw [takeG, if_neg hn, if_pos hc, t1, spansOf, sellC, e]
        simp only [Option.some.injEq, Prod.mk.injEq, true_and]
        omega
      · rw [spansOf, sellL_cons, e, t2]; rfl
      · intro s hs
        rw [List.mem_cons] at hs
        rcases hs with rfl | hs
        · exact ⟨rfl, by show g + p.1 ≤ g + n; omega⟩
        · exact t3 s hs
      · simp only [sumC]; omega
    · have e : spanS gone (g + n) (g, g + p.1, p.2) = ((g + n, g + p.1, p.2 - (p.2 * n).tdiv p.1), (p.2 * n).tdiv p.1) := by
        unfold spanS
        have m1 : min (g + p.1) (g + n) = g + n := by omega
        have m2 : max g gone = g := by omega
        simp only [m1, m2]
        rw [if_neg (by omega), if_pos (by omega), show g + n - g = n by omega, show g + p.1 - g = p.1 by omega]
      obtain ⟨e1, e2⟩ := sell_far (gone := gone) (to := g + n) (l := r) (g := g + p.1) hr (by omega)
      refine ⟨(p.1 - n, p.2 - (p.2 * n).tdiv p.1) :: r, [], ?_, ?_, fun s hs => by simp at hs, ?_, ?_⟩
      · rw [takeG, if_neg hn, if_neg hc, spansOf, sellC, e, e2, Int.add_zero]
      · rw [spansOf, sellL_cons, e, e1, List.nil_append, spansOf]
        rw [show g + n + (p.1 - n) = g + p.1 by omega]
      · intro q hq
        rw [List.mem_cons] at hq
        rcases hq with rfl | hq
        · show 0 < p.1 - n; omega
        · exact hr q hq
      · simp only [sumC]; omega
theorem lots_used {g : Int} : ∀ {D : List Sp}, usedUp g D → lotsG D = []
  | [], _ => rfl
  | s :: D, h => by
    have h1 := (h s (by simp)).1
    have ih := lots_used (g := g) (D := D) fun q hq => h q (List.mem_cons_of_mem _ hq)
    unfold lotsG at ih ⊢
    rw [List.filter_cons_of_neg (by simp; omega), ih]
theorem lots_spans : ∀ {S : List Lt} {g : Int}, posL S → lotsG (spansOf g S) = S
  | [], _, _ => rfl
  | p :: r, g, h => by
    have h1 := h p (by simp)
    have ih := lots_spans (S := r) (g := g + p.1) fun q hq => h q (List.mem_cons_of_mem _ hq)
    unfold lotsG at ih ⊢
    rw [spansOf, List.filter_cons_of_pos (by simp; omega), List.map_cons, ih]
    simp only [List.cons.injEq, and_true]
    exact Prod.ext (by show g + p.1 - g = p.1; omega) rfl
theorem lots_app (a b : List Sp) : lotsG (a ++ b) = lotsG a ++ lotsG b := by unfold lotsG; rw [List.filter_append, List.map_append]
theorem fifo_same : ∀ {l : List Mv} {S : List Lt} {D : List Sp} {inn gone : Int} {out : List Int}, (∀ m ∈ l, m.1 ≠ 0) → sumE (sumC S) l = true → posL S → usedUp gone D → inn = gone + sumC S →
    fifoG l S out = some ((rfifoG l (D ++ spansOf gone S) inn gone out).1, lotsG (rfifoG l (D ++ spansOf gone S) inn gone out).2)
  | [], S, D, inn, gone, out, _, _, hp, hu, _ => by
    rw [fifoG, rfifoG, lots_app, lots_used hu, lots_spans hp]; rfl
  | m :: l, S, D, inn, gone, out, hm, hs, hp, hu, hi => by
    have h1 := hm m (by simp)
    have hl : ∀ x ∈ l, x.1 ≠ 0 := fun x hx => hm x (List.mem_cons_of_mem _ hx)
    simp only [sumE, Bool.and_eq_true, decide_eq_true_eq] at hs
    obtain ⟨hs1, hs2⟩ := hs
    by_cases hc : 0 < m.1
    · rw [fifoG, if_pos hc, rfifoG, if_pos hc]
      have e : sumC (S ++ [m]) = sumC S + m.1 := by rw [sumC_app]; simp [sumC]
      have hp' : posL (S ++ [m]) := fun q hq => by
        rw [List.mem_append] at hq
        rcases hq with hq | hq
        · exact hp q hq
        · simp at hq; subst hq; exact hc
      have := fifo_same (l := l) (S := S ++ [m]) (D := D) (inn := inn + m.1) (gone := gone) (out := out) hl (by rw [e]; exact hs2) hp' hu (by omega)
      rw [this, spansOf_app, ← List.append_assoc, ← hi]
      rfl
    · rw [fifoG, if_neg hc, rfifoG, if_neg hc]
      obtain ⟨S', D', t1, t2, t3, t4, t5⟩ := take_spans (gone := gone) (S := S) (g := gone) (n := -m.1) 0 (Int.le_refl _) hp (by omega) (by omega)
      obtain ⟨o1, o2⟩ := sell_old (to := gone - m.1) hu
      have eg : gone + -m.1 = gone - m.1 := by omega
      rw [eg] at t1 t2 t3
      rw [t1]
      simp only
      rw [sellL_app, sellC_app, o1, o2, t2, ← List.append_assoc]
      exact fifo_same (l := l) (S := S') (D := D ++ D') (inn := inn) (gone := gone - m.1) hl (by rw [t5, show sumC S - -m.1 = sumC S + m.1 by omega]; exact hs2) t4 (fun s hs => by
        rw [List.mem_append] at hs
        rcases hs with hs | hs
        · exact ⟨(hu s hs).1, by have := (hu s hs).2; omega⟩
        · exact t3 s hs) (by omega)
theorem fifo_law {l : List Mv} (h : ∀ m ∈ l, m.1 ≠ 0) (hs : sumE 0 l = true) : fifoG l [] [] = some ((rfifoG l [] 0 0 []).1, lotsG (rfifoG l [] 0 0 []).2) :=
  fifo_same (l := l) (S := []) (D := []) (inn := 0) (gone := 0) (out := []) h hs (fun p hp => by simp at hp) (fun p hp => by simp at hp) rfl
/-- pieces are short exactly where the sums say so -/
theorem take_short : ∀ {S : List Lt} {n x : Int}, posL S → sumC S < n → takeG S n x = none
  | [], n, x, _, h => by
    simp only [sumC] at h
    rw [takeG, if_neg (by omega)]
  | p :: r, n, x, hp, h => by
    have hp1 := hp p (by simp)
    have hr : posL r := fun q hq => hp q (List.mem_cons_of_mem _ hq)
    have h0 := sumC_nonneg hr
    simp only [sumC] at h
    rw [takeG, if_neg (by omega), if_pos (by omega)]
    exact take_short hr (by omega)
theorem fifo_short : ∀ {l : List Mv} {S : List Lt} {out : List Int}, (∀ m ∈ l, m.1 ≠ 0) → sumE (sumC S) l = false → posL S → fifoG l S out = none
  | [], S, out, _, h, _ => by simp [sumE] at h
  | m :: l, S, out, hm, hs, hp => by
    have h1 := hm m (by simp)
    have hl : ∀ x ∈ l, x.1 ≠ 0 := fun x hx => hm x (List.mem_cons_of_mem _ hx)
    by_cases hc : 0 < m.1
    · rw [fifoG, if_pos hc]
      have e : sumC (S ++ [m]) = sumC S + m.1 := by rw [sumC_app]; simp [sumC]
      have h0 := sumC_nonneg hp
      refine fifo_short hl ?_ fun q hq => by
        rw [List.mem_append] at hq
        rcases hq with hq | hq
        · exact hp q hq
        · simp at hq; subst hq; exact hc
      rw [e]
      simpa [sumE, show 0 ≤ sumC S + m.1 by omega] using hs
    · rw [fifoG, if_neg hc]
      by_cases hn : 0 ≤ sumC S + m.1
      · obtain ⟨S', D', t1, t2, t3, t4, t5⟩ := take_spans (gone := 0) (S := S) (g := 0) (n := -m.1) 0 (Int.le_refl _) hp (by omega) (by omega)
        rw [t1]
        simp only
        refine fifo_short hl ?_ t4
        rw [t5, show sumC S - -m.1 = sumC S + m.1 by omega]
        simpa [sumE, hn] using hs
      · rw [take_short hp (by omega)]
/-! ### the mean -/
def costM (s : Lt) (n : Int) : Int := s.2.tdiv s.1 * n + Go.Proofs.Ytdmkmbaaemhhhaa.Rnd.rnd (s.2.tmod s.1 * n) s.1 2
def meanG : List Mv → Lt → List Int → Option (List Int × Lt)
  | [], s, out => some (out, s)
  | m :: l, s, out => if 0 < m.1 then meanG l (s.1 + m.1, s.2 + m.2) out else if s.1 < -m.1 then none
    else meanG l (s.1 + m.1, s.2 - costM s (-m.1)) (out ++ [costM s (-m.1)])
def costR (s : Lt) (n : Int) : Int := s.2.tdiv s.1 * n + (2 * s.2.tmod s.1 * n + s.1).tdiv (2 * s.1)
def rmeanG : List Mv → Lt → List Int → List Int × Lt
  | [], s, out => (out, s)
  | m :: l, s, out => if 0 < m.1 then rmeanG l (s.1 + m.1, s.2 + m.2) out else rmeanG l (s.1 - -m.1, s.2 - costR s (-m.1)) (out ++ [costR s (-m.1)])
theorem half_up {a d : Int} (ha : 0 ≤ a) (hd : 1 ≤ d) : Go.Proofs.Ytdmkmbaaemhhhaa.Rnd.rnd a d 2 = (2 * a + d).tdiv (2 * d) := by
  rw [Go.Proofs.Ytdmkmbaaemhhhaa.Rnd.rnd2, Int.tdiv_eq_ediv_of_nonneg (by omega)]
  have h1 := Go.Proofs.Ytdmkmbaaemhhhaa.Rnd.divmod a d
  obtain ⟨l1, l2⟩ := Go.Proofs.Ytdmkmbaaemhhhaa.Rnd.low (n := a) hd
  generalize a / d = q at *
  generalize a % d = r at *
  have e : q * (2 * d) = 2 * (q * d) := by rw [← Int.mul_assoc, Int.mul_comm q 2, Int.mul_assoc]
  have e2 : (q + 1) * (2 * d) = 2 * (q * d) + 2 * d := by rw [Int.add_mul, e, Int.one_mul]
  by_cases hc : d ≤ 2 * r
  · have hq := (Go.Proofs.Ytdmkmbaaemhhhaa.Rnd.uniq (n := 2 * a + d) (d := 2 * d) (q := q + 1) (r := 2 * r - d) (by omega) (by omega) (by rw [e2]; omega)).1
    rw [hq, if_pos]
    rcases Int.lt_or_eq_of_le hc with h | h
    · exact .inl h
    · refine .inr ⟨h.symm, ?_⟩
      have : 0 ≤ q := by
        rcases Int.lt_or_le q 0 with hn | hn
        · exfalso
          have : q * d ≤ -1 * d := Int.mul_le_mul_of_nonneg_right (by omega) (by omega)
          omega
        · exact hn
      have : 0 ≤ q * d := Int.mul_nonneg this (by omega)
      omega
  · have hq := (Go.Proofs.Ytdmkmbaaemhhhaa.Rnd.uniq (n := 2 * a + d) (d := 2 * d) (q := q) (r := 2 * r + d) (by omega) (by omega) (by rw [e]; omega)).1
    rw [hq, if_neg (by omega)]
theorem cost_same {s : Lt} {n : Int} (h0 : 0 ≤ s.2) (h1 : 1 ≤ s.1) (hn : 0 ≤ n) : costM s n = costR s n := by
  unfold costM costR
  have hr : 0 ≤ s.2.tmod s.1 := Int.tmod_nonneg _ h0
  rw [half_up (Int.mul_nonneg hr hn) h1, Int.mul_assoc]
/-- what goes costs no more than there is -/
theorem cost_bd {s : Lt} {n : Int} (h0 : 0 ≤ s.2) (h1 : 1 ≤ s.1) (hn : 0 ≤ n) (hn1 : n ≤ s.1) : 0 ≤ costM s n ∧ costM s n ≤ s.2 := by
  unfold costM
  have hr : 0 ≤ s.2.tmod s.1 := Int.tmod_nonneg _ h0
  have hr2 := (Go.Proofs.Ytdmkmbaaemhhhaa.Rnd.tmod_bd s.2 h1).2
  have hd := Go.Proofs.Ytdmkmbaaemhhhaa.Rnd.tdivmod s.2 s.1
  have hq : 0 ≤ s.2.tdiv s.1 := Int.tdiv_nonneg h0 (by omega)
  rw [half_up (Int.mul_nonneg hr hn) h1]
  generalize s.2.tdiv s.1 = q at *
  generalize s.2.tmod s.1 = r at *
  have a1 : 0 ≤ r * n := Int.mul_nonneg hr hn
  have a2 : r * n ≤ r * s.1 := Int.mul_le_mul_of_nonneg_left hn1 hr
  have a3 : q * n ≤ q * s.1 := Int.mul_le_mul_of_nonneg_left hn1 hq
  have a4 : 0 ≤ q * n := Int.mul_nonneg hq hn
  have b1 : 0 ≤ (2 * (r * n) + s.1).tdiv (2 * s.1) := Int.tdiv_nonneg (by omega) (by omega)
  have b2 : (2 * (r * n) + s.1).tdiv (2 * s.1) ≤ r := by
    rw [Int.tdiv_eq_ediv_of_nonneg (by omega)]
    have : (2 * (r * n) + s.1) / (2 * s.1) < r + 1 := by
      rw [Int.ediv_lt_iff_lt_mul (by omega)]
      have e : (r + 1) * (2 * s.1) = 2 * (r * s.1) + 2 * s.1 := by
        rw [Int.add_mul, Int.one_mul, ← Int.mul_assoc, Int.mul_comm r 2, Int.mul_assoc]
      omega
    omega
  omega
theorem mean_same : ∀ {l : List Mv} {s : Lt} {out : List Int}, (∀ m ∈ l, mvE m = 0) → sumE s.1 l = true → 0 ≤ s.2 → 0 ≤ s.1 → meanG l s out = some (rmeanG l s out)
  | [], s, out, _, _, _, _ => rfl
  | m :: l, s, out, hm, hs, h0, h1 => by
    obtain ⟨m1, m2, m3, m4, m5, m6⟩ := mvE_ok (hm m (by simp))
    have hl : ∀ x ∈ l, mvE x = 0 := fun x hx => hm x (List.mem_cons_of_mem _ hx)
    simp only [sumE, Bool.and_eq_true, decide_eq_true_eq] at hs
    obtain ⟨hs1, hs2⟩ := hs
    by_cases hc : 0 < m.1
    · rw [meanG, if_pos hc, rmeanG, if_pos hc]
      exact mean_same hl hs2 (by show 0 ≤ s.2 + m.2; omega) (by show 0 ≤ s.1 + m.1; omega)
    · have hb := cost_bd (s := s) (n := -m.1) h0 (by omega) (by omega) (by omega)
      rw [meanG, if_neg hc, if_neg (by omega), rmeanG, if_neg hc, ← cost_same h0 (by omega) (by omega), show s.1 - -m.1 = s.1 + m.1 by omega]
      exact mean_same hl hs2 (by show 0 ≤ s.2 - costM s (-m.1); omega) (by show 0 ≤ s.1 + m.1; omega)
theorem mean_short : ∀ {l : List Mv} {s : Lt} {out : List Int}, (∀ m ∈ l, mvE m = 0) → sumE s.1 l = false → 0 ≤ s.1 → meanG l s out = none
  | [], s, out, _, h, _ => by simp [sumE] at h
  | m :: l, s, out, hm, hs, h1 => by
    obtain ⟨m1, m2, m3, m4, m5, m6⟩ := mvE_ok (hm m (by simp))
    have hl : ∀ x ∈ l, mvE x = 0 := fun x hx => hm x (List.mem_cons_of_mem _ hx)
    by_cases hc : 0 < m.1
    · rw [meanG, if_pos hc]
      refine mean_short hl ?_ (by show 0 ≤ s.1 + m.1; omega)
      simpa [sumE, show 0 ≤ s.1 + m.1 by omega] using hs
    · rw [meanG, if_neg hc]
      by_cases hn : 0 ≤ s.1 + m.1
      · rw [if_neg (by omega)]
        refine mean_short hl ?_ (by show 0 ≤ s.1 + m.1; omega)
        simpa [sumE, hn] using hs
      · rw [if_pos (by omega)]
end Go.Stk
