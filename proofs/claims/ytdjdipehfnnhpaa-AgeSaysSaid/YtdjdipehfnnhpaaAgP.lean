/-
  What is owed, in plain words: paying the oldest first, the same from running sums; the ages by bounds.
-/
import Derived.Test.YtdjdipehfnnhpaaTiP
namespace Go.Tie
open Go Go.Ev Go.Srt Go.Spl
set_option linter.unusedVariables false
instance : Inhabited It := ⟨(0, 0)⟩
/-! ### the order of the days, of items and of places -/
def dLt (p q : It) : Prop := p.1 < q.1
theorem dLt_swo : Swo dLt := ⟨fun x h => by unfold dLt at h; omega, fun x y z h1 h2 => by unfold dLt at *; omega, fun x y z h1 h2 => by unfold dLt at *; omega⟩
theorem ge_it (l : List It) {k : Nat} (h : k < l.length) : ge l k = (dy l k, am l k) := by
  have := it_get h
  rw [List.getElem?_eq_getElem h] at this
  simp only [Option.some.injEq] at this
  rw [← this]
  simp [ge, h]
theorem ord_it (l : List It) (k : Nat) : srt (Lt dLt l) 0 l.length k = ord (nd l) l.length k := by
  refine srt_eq (Lt.ord dLt_swo l) (ord_perm (nd l) l.length) (fun p q hp hpq hq => ?_) k
  have h := ord_sorted (nd l) l.length hpq hq
  have m1 := ((ord_perm (nd l) l.length).maps (k := p) (by omega)).2
  have m2 := ((ord_perm (nd l) l.length).maps (k := q) (by omega)).2
  unfold Lt dLt
  rw [ge_it l m1, ge_it l m2]
  generalize ord (nd l) l.length p = x at *
  generalize ord (nd l) l.length q = y at *
  unfold nd at h
  simp only
  omega
/-- the items in the order of their days -/
noncomputable def sIt (l : List It) : List It := srtL dLt l 0 l.length
theorem sIt_eq (l : List It) : sIt l = (List.range l.length).map fun k => (dy l (ord (nd l) l.length k), am l (ord (nd l) l.length k)) := by
  unfold sIt srtL tb
  refine List.map_congr_left fun k hk => ?_
  rw [List.mem_range] at hk
  rw [ord_it, ge_it l ((ord_perm (nd l) l.length).maps (k := k) (by omega)).2]
theorem sIt_len (l : List It) : (sIt l).length = l.length := srtL_len _ _ _ _
theorem sIt_ok {l : List It} (h : itOk l) : itOk (sIt l) := by
  refine ⟨by rw [sIt_len]; exact h.1, fun p hp => ?_⟩
  rw [sIt_eq] at hp
  obtain ⟨k, hk, rfl⟩ := List.mem_map.1 hp
  rw [List.mem_range] at hk
  exact it_bd h ((ord_perm (nd l) l.length).maps (k := k) (by omega)).2
/-! ### paying -/
def keep (p : It) : Bool := !(decide (p.2 = 0))
def mn (a b : Int) : Int := if b < a then b else a
def payGo : Int → List It → List It
  | _, [] => []
  | r, p :: L => (p.1, p.2 - mn r p.2) :: payGo (r - mn r p.2) L
def payR : Int → List It → Int
  | r, [] => r
  | r, p :: L => payR (r - mn r p.2) L
theorem payGo_len : ∀ (r : Int) (L : List It), (payGo r L).length = L.length
  | _, [] => rfl
  | r, p :: L => by rw [payGo, List.length_cons, List.length_cons, payGo_len]
def refGo (a : Int) : Int → List It → List It
  | _, [] => []
  | s, p :: L => if a < s + p.2 then (p.1, mn p.2 (s + p.2 - a)) :: refGo a (s + p.2) L else refGo a (s + p.2) L
def refS : Int → List It → Int
  | s, [] => s
  | s, p :: L => refS (s + p.2) L
def mx (a b : Int) : Int := if b > a then b else a
theorem pay_ref {a : Int} : ∀ (L : List It) (s r : Int), (∀ p ∈ L, 1 ≤ p.2) → r = mx 0 (a - s) → (payGo r L).filter keep = refGo a s L ∧ payR r L = mx 0 (a - refS s L)
  | [], s, r, _, hr => ⟨rfl, hr⟩
  | p :: L, s, r, h, hr => by
    have hp := h p List.mem_cons_self
    have hr2 : r - mn r p.2 = mx 0 (a - (s + p.2)) := by
      unfold mx mn at *
      (repeat' split) <;> (try split at hr) <;> omega
    obtain ⟨i1, i2⟩ := pay_ref L (s + p.2) (r - mn r p.2) (fun q hq => h q (List.mem_cons_of_mem _ hq)) hr2
    refine ⟨?_, by rw [payR, refS, i2]⟩
    rw [payGo, refGo]
    by_cases hc : a < s + p.2
    · have e : p.2 - mn r p.2 = mn p.2 (s + p.2 - a) := by
        unfold mx mn at *
        (repeat' split) <;> (try split at hr) <;> omega
      have hk : keep (p.1, p.2 - mn r p.2) = true := by
        unfold keep
        have : ¬ p.2 - mn r p.2 = 0 := by
          unfold mx mn at *
          (repeat' split) <;> (try split at hr) <;> omega
        simp [this]
      rw [if_pos hc, List.filter_cons_of_pos hk, i1, e]
    · have hk : keep (p.1, p.2 - mn r p.2) = false := by
        unfold keep
        have : p.2 - mn r p.2 = 0 := by
          unfold mx mn at *
          (repeat' split) <;> (try split at hr) <;> omega
        simp [this]
      rw [if_neg hc, List.filter_cons_of_neg (by simp [hk]), i1]
/-- paid so far: the first k are reduced -/
def payAt (a : Int) (L : List It) (k : Nat) : List It := (payGo a L).take k ++ L.drop k
def payRk (a : Int) (L : List It) (k : Nat) : Int := payR a (L.take k)
theorem payAt_zero (a : Int) (L : List It) : payAt a L 0 = L := by simp [payAt]
theorem payAt_end (a : Int) (L : List It) : payAt a L L.length = payGo a L := by
  unfold payAt
  rw [List.drop_length, List.append_nil, List.take_of_length_le (by rw [payGo_len]; exact Nat.le_refl _)]
theorem payAt_len (a : Int) (L : List It) (k : Nat) : (payAt a L k).length = L.length := by
  unfold payAt
  rw [List.length_append, List.length_take, List.length_drop, payGo_len]
  omega
theorem payAt_get (a : Int) {L : List It} {k : Nat} {p : It} (h : L[k]? = some p) : (payAt a L k)[k]? = some p := by
  have hk := (List.getElem?_eq_some_iff.1 h).1
  unfold payAt
  have hl : ((payGo a L).take k).length = k := by rw [List.length_take, payGo_len]; omega
  rw [List.getElem?_append_right (by omega), hl, Nat.sub_self, List.getElem?_drop, Nat.add_zero]
  exact h
theorem payGo_get : ∀ (a : Int) (L : List It) (k : Nat) (p : It), L[k]? = some p → (payGo a L)[k]? = some (p.1, p.2 - mn (payRk a L k) p.2)
  | a, [], k, p, h => by simp at h
  | a, q :: L, 0, p, h => by
    simp only [List.getElem?_cons_zero, Option.some.injEq] at h
    subst h
    rfl
  | a, q :: L, k + 1, p, h => by
    rw [payGo, List.getElem?_cons_succ, payGo_get _ L k p (by simpa using h)]
    rfl
theorem payRk_succ : ∀ (a : Int) (L : List It) (k : Nat) (p : It), L[k]? = some p → payRk a L (k + 1) = payRk a L k - mn (payRk a L k) p.2
  | a, [], k, p, h => by simp at h
  | a, q :: L, 0, p, h => by
    simp only [List.getElem?_cons_zero, Option.some.injEq] at h
    subst h
    rfl
  | a, q :: L, k + 1, p, h => payRk_succ (a - mn a q.2) L k p (by simpa using h)
theorem payAt_succ {a : Int} {L : List It} {k : Nat} {p : It} (h : L[k]? = some p) : (payAt a L k).set k (p.1, p.2 - mn (payRk a L k) p.2) = payAt a L (k + 1) := by
  have hk := (List.getElem?_eq_some_iff.1 h).1
  have hg := payGo_get a L k p h
  have hl : ((payGo a L).take k).length = k := by rw [List.length_take, payGo_len]; omega
  unfold payAt
  rw [List.set_append_right _ _ (by omega), hl, Nat.sub_self, List.drop_eq_getElem_cons hk, List.set_cons_zero]
  obtain ⟨hk2, hg2⟩ := List.getElem?_eq_some_iff.1 hg
  rw [List.take_succ_eq_append_getElem hk2, hg2, List.append_assoc]
  rfl
theorem payR_bd : ∀ (L : List It) (r : Int), (∀ p ∈ L, 1 ≤ p.2) → 0 ≤ r → 0 ≤ payR r L ∧ payR r L ≤ r
  | [], r, _, h => ⟨h, Int.le_refl _⟩
  | p :: L, r, hp, h => by
    have h1 := hp p List.mem_cons_self
    have h2 : 0 ≤ r - mn r p.2 ∧ r - mn r p.2 ≤ r := by unfold mn; split <;> omega
    have := payR_bd L (r - mn r p.2) (fun q hq => hp q (List.mem_cons_of_mem _ hq)) h2.1
    rw [payR]
    omega
/-! ### running sums -/
theorem refS_take : ∀ (L : List It) (k : Nat) (s : Int) (p : It), L[k]? = some p → refS s (L.take (k + 1)) = refS s (L.take k) + p.2
  | [], k, s, p, h => by simp at h
  | q :: L, 0, s, p, h => by
    simp only [List.getElem?_cons_zero, Option.some.injEq] at h
    subst h
    simp [refS]
  | q :: L, k + 1, s, p, h => by
    rw [List.take_succ_cons, List.take_succ_cons, refS, refS]
    exact refS_take L k (s + q.2) p (by simpa using h)
theorem refGo_take (a : Int) : ∀ (L : List It) (k : Nat) (s : Int) (p : It), L[k]? = some p → refGo a s (L.take (k + 1)) = refGo a s (L.take k) ++ (if a < refS s (L.take k) + p.2 then [(p.1, mn p.2 (refS s (L.take k) + p.2 - a))] else [])
  | [], k, s, p, h => by simp at h
  | q :: L, 0, s, p, h => by
    simp only [List.getElem?_cons_zero, Option.some.injEq] at h
    subst h
    simp only [List.take_succ_cons, List.take_zero, refGo, refS, List.nil_append]
  | q :: L, k + 1, s, p, h => by
    have ih := refGo_take a L k (s + q.2) p (by simpa using h)
    rw [List.take_succ_cons, List.take_succ_cons, refGo, refGo, refS, ih]
    split <;> simp
theorem refS_bd : ∀ (L : List It) (s : Int), (∀ p ∈ L, 1 ≤ p.2 ∧ p.2 ≤ 1000000000000) → 0 ≤ s → s ≤ refS s L ∧ refS s L ≤ s + L.length * 1000000000000
  | [], s, _, _ => by simp [refS]
  | p :: L, s, h, h0 => by
    have hp := h p List.mem_cons_self
    have := refS_bd L (s + p.2) (fun q hq => h q (List.mem_cons_of_mem _ hq)) (by omega)
    rw [refS, List.length_cons, Int.natCast_add, Int.add_mul]
    omega
theorem refGo_len (a : Int) : ∀ (L : List It) (s : Int), (refGo a s L).length ≤ L.length
  | [], s => by simp [refGo]
  | p :: L, s => by
    have := refGo_len a L (s + p.2)
    rw [refGo]
    split <;> simp <;> omega
/-! ### bounds -/
def bdStep (l : List Int) (e : Int) (k : Nat) : Int := if e = 0 then (if 0 ≤ l.getD k 0 ∧ l.getD k 0 ≤ 292193 then (if 0 < k ∧ l.getD k 0 ≤ l.getD (k - 1) 0 then 3 else 0) else 1) else e
def bdF (e0 : Int) (l : List Int) : Nat → Int
  | 0 => e0
  | k + 1 => bdStep l (bdF e0 l k) k
theorem bdF_stay {e0 : Int} {l : List Int} {k : Nat} (h : bdF e0 l k ≠ 0) : ∀ j, bdF e0 l (k + j) = bdF e0 l k
  | 0 => rfl
  | j + 1 => by rw [← Nat.add_assoc, bdF, bdF_stay h j]; unfold bdStep; rw [if_neg h]
theorem bdF_fin {e0 : Int} {l : List Int} {k n : Nat} (hk : k ≤ n) (h : bdF e0 l k ≠ 0) : bdF e0 l n = bdF e0 l k := by
  have := bdF_stay h (n - k)
  rwa [show k + (n - k) = n by omega] at this
theorem bdF_pre {e0 : Int} {l : List Int} {k n : Nat} (hk : k ≤ n) (h : bdF e0 l n = 0) : bdF e0 l k = 0 := by
  by_cases h0 : bdF e0 l k = 0
  · exact h0
  · rw [← bdF_fin hk h0]; exact h
theorem bdF_ok {l : List Int} {k : Nat} (h : bdF 0 l (k + 1) = 0) : (0 ≤ l.getD k 0 ∧ l.getD k 0 ≤ 292193) ∧ (0 < k → l.getD (k - 1) 0 < l.getD k 0) := by
  have h0 := bdF_pre (Nat.le_succ k) h
  rw [bdF, h0] at h
  unfold bdStep at h
  rw [if_pos rfl] at h
  split at h
  · rename_i h1
    split at h
    · omega
    · rename_i h2
      exact ⟨h1, fun hk => by omega⟩
  · omega
theorem bd_sorted {l : List Int} (h : bdF 0 l l.length = 0) : ∀ j k, j < k → k < l.length → l.getD j 0 < l.getD k 0 := by
  intro j k hjk
  induction k with
  | zero => omega
  | succ k ih =>
    intro hk
    have := (bdF_ok (bdF_pre (show k + 1 + 1 ≤ l.length by omega) h)).2 (by omega)
    rw [Nat.add_sub_cancel] at this
    by_cases e : j = k
    · rw [e]; exact this
    · have := ih (by omega) (by omega)
      omega
theorem bd_pairwise {l : List Int} (h : bdF 0 l l.length = 0) : l.Pairwise (· ≤ ·) := by
  rw [List.pairwise_iff_getElem]
  intro i j hi hj hij
  have := bd_sorted h i j hij hj
  simp only [List.getD_eq_getElem?_getD, List.getElem?_eq_getElem hi, List.getElem?_eq_getElem hj, Option.getD_some] at this
  omega
/-- how many bounds lie below -/
def cnt (l : List Int) (v : Int) : Nat := l.countP (· < v)
theorem cnt_le (l : List Int) (v : Int) : cnt l v ≤ l.length := List.countP_le_length
theorem cnt_at {v : Int} : ∀ {l : List Int} {k : Nat}, (∀ j, j < k → l.getD j 0 < v) → (∀ j, k ≤ j → j < l.length → v ≤ l.getD j 0) → k ≤ l.length → cnt l v = k
  | [], k, _, _, hk => by simp at hk; subst hk; rfl
  | x :: l, 0, h1, h2, _ => by
    have hx := h2 0 (by omega) (by simp)
    simp only [List.getD_cons_zero] at hx
    have ih := cnt_at (l := l) (k := 0) (v := v) (fun j hj => by omega) (fun j _ hj => by have := h2 (j + 1) (by omega) (by simpa using hj); simpa using this) (Nat.zero_le _)
    unfold cnt at ih ⊢
    rw [List.countP_cons, ih]
    simp
    omega
  | x :: l, k + 1, h1, h2, hk => by
    have hx := h1 0 (by omega)
    simp only [List.getD_cons_zero] at hx
    have ih := cnt_at (l := l) (k := k) (v := v) (fun j hj => by have := h1 (j + 1) (by omega); simpa using this) (fun j h hj => by have := h2 (j + 1) (by omega) (by simpa using hj); simpa using this) (by simpa using hk)
    unfold cnt at ih ⊢
    rw [List.countP_cons, ih]
    simp [hx]
/-! ### ages -/
def agStep (b : List Int) (today : Int) (s : List Int) (p : It) : List Int := s.set (cnt b (mx 0 (today - p.1))) (s.getD (cnt b (mx 0 (today - p.1))) 0 + p.2)
def agL (b : List Int) (today : Int) (l : List It) (k : Nat) : List Int := (l.take k).foldl (agStep b today) (List.replicate (b.length + 1) 0)
theorem agL_zero (b : List Int) (today : Int) (l : List It) : agL b today l 0 = List.replicate (b.length + 1) 0 := rfl
theorem agL_succ {b : List Int} {today : Int} {l : List It} {k : Nat} (h : k < l.length) : agL b today l (k + 1) = agStep b today (agL b today l k) (dy l k, am l k) := by
  have hg := it_get h
  have he := (List.getElem?_eq_some_iff.1 hg).2
  unfold agL
  rw [List.take_succ_eq_append_getElem h, List.foldl_append, he]
  rfl
theorem agStep_len (b : List Int) (today : Int) (s : List Int) (p : It) : (agStep b today s p).length = s.length := by simp [agStep]
theorem agL_len (b : List Int) (today : Int) (l : List It) : ∀ k, k ≤ l.length → (agL b today l k).length = b.length + 1
  | 0, _ => by simp [agL]
  | k + 1, h => by rw [agL_succ (by omega), agStep_len, agL_len b today l k (by omega)]
theorem agL_bd {b : List Int} {today : Int} {l : List It} (hl : itOk l) : ∀ k, k ≤ l.length → ∀ j, 0 ≤ (agL b today l k).getD j 0 ∧ (agL b today l k).getD j 0 ≤ k * 1000000000000
  | 0, _, j => by
    rw [agL_zero, List.getD_eq_getElem?_getD, List.getElem?_replicate]
    split <;> simp
  | k + 1, h, j => by
    have ih := agL_bd (b := b) (today := today) hl k (by omega)
    have hp := it_bd hl (show k < l.length by omega)
    rw [agL_succ (by omega)]
    unfold agStep
    rw [List.getD_eq_getElem?_getD, List.getElem?_set]
    have e : (((k + 1 : Nat) : Int)) * 1000000000000 = (k : Int) * 1000000000000 + 1000000000000 := by omega
    split
    · rename_i e1
      split
      · have := ih (cnt b (mx 0 (today - dy l k)))
        simp only [Option.getD_some]
        omega
      · simp only [Option.getD_none]; omega
    · have := ih j
      rw [List.getD_eq_getElem?_getD] at this
      omega
end Go.Tie
