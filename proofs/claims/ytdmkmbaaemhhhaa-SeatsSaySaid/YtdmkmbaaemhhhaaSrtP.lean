/-
  Stable sorting in plain terms: positions are permuted; the sorted permutation is the only one.
-/
import Derived.Test.YtdmkmbaaemhhhaaEw
namespace Go.Srt
set_option linter.unusedVariables false
section
variable {α : Type} [Inhabited α]
def ge (l : List α) (p : Nat) : α := l.getD p default
def tb (l : List α) (π : Nat → Nat) : List α := (List.range l.length).map fun k => ge l (π k)
theorem tab_len (l : List α) (π : Nat → Nat) : (tb l π).length = l.length := by simp [tb]
theorem tab_get (l : List α) (π : Nat → Nat) {k : Nat} (h : k < l.length) : (tb l π)[k]? = some (ge l (π k)) := by simp [tb, h]
theorem tab_id (l : List α) : tb l (fun k => k) = l := by
  apply List.ext_getElem?
  intro i
  by_cases h : i < l.length
  · rw [tab_get l _ h]; simp [ge, List.getD_eq_getElem?_getD, List.getElem?_eq_getElem h]
  · rw [List.getElem?_eq_none (by rw [tab_len]; omega), List.getElem?_eq_none (by omega)]
theorem tab_congr (l : List α) {π ρ : Nat → Nat} (h : ∀ k, k < l.length → π k = ρ k) : tb l π = tb l ρ := by
  unfold tb
  exact List.map_congr_left fun k hk => by rw [h k (List.mem_range.1 hk)]
theorem tab_set (l : List α) (π : Nat → Nat) (i p : Nat) : (tb l π).set i (ge l p) = tb l (fun k => if k = i then p else π k) := by
  apply List.ext_getElem?
  intro k
  rw [List.getElem?_set]
  by_cases hk : k < l.length
  · rw [tab_get l _ hk, tab_len]
    rw [tab_get l _ hk]
    by_cases h : i = k
    · subst h; simp [hk]
    · rw [if_neg h, if_neg (fun e => h e.symm)]
  · rw [List.getElem?_eq_none (l := tb l (fun k => if k = i then p else π k)) (by rw [tab_len]; omega), List.getElem?_eq_none (by rw [tab_len]; omega), tab_len]
    by_cases h : i = k
    · subst h; simp [hk]
    · simp [h]
theorem tab_tab (l : List α) (π ρ : Nat → Nat) (h : ∀ k, k < l.length → ρ k < l.length) : tb (tb l π) ρ = tb l (fun k => π (ρ k)) := by
  apply List.ext_getElem?
  intro k
  by_cases hk : k < l.length
  · rw [tab_get _ _ (by rw [tab_len]; exact hk), tab_get _ _ hk, ge, List.getD_eq_getElem?_getD, tab_get _ _ (h k hk)]; rfl
  · rw [List.getElem?_eq_none (by rw [tab_len, tab_len]; omega), List.getElem?_eq_none (by rw [tab_len]; omega)]
theorem ge_tab (l : List α) (π : Nat → Nat) {k : Nat} (h : k < l.length) : ge (tb l π) k = ge l (π k) := by rw [ge, List.getD_eq_getElem?_getD, tab_get l π h]; rfl
theorem ge_mem (l : List α) {p : Nat} (h : p < l.length) : ge l p ∈ l := by
  rw [ge, List.getD_eq_getElem?_getD, List.getElem?_eq_getElem h]; exact List.getElem_mem h
theorem mem_tab {l : List α} {π : Nat → Nat} (hπ : ∀ k, k < l.length → π k < l.length) {x : α} (h : x ∈ tb l π) : x ∈ l := by
  obtain ⟨k, hk, rfl⟩ := List.mem_map.1 h
  exact ge_mem l (hπ k (List.mem_range.1 hk))
def swI (i j k : Nat) : Nat := if k = j then i else if k = i then j else k
theorem tab_swap (l : List α) (π : Nat → Nat) (i j : Nat) : ((tb l π).set i (ge l (π j))).set j (ge l (π i)) = tb l (fun k => π (swI i j k)) := by
  rw [tab_set, tab_set]
  refine tab_congr l fun k _ => ?_
  unfold swI
  by_cases h1 : k = j
  · simp [h1]
  · rw [if_neg h1, if_neg h1]
    by_cases h2 : k = i
    · rw [if_pos h2, if_pos h2]
    · rw [if_neg h2, if_neg h2]
end
/-- a permutation of the positions from a to b; all else stays -/
def PermOn (a b : Nat) (π : Nat → Nat) : Prop := ∃ π' : Nat → Nat, (∀ k, π (π' k) = k) ∧ (∀ k, π' (π k) = k) ∧ ∀ k, ¬ (a ≤ k ∧ k < b) → π k = k
theorem PermOn.id (a b : Nat) : PermOn a b (fun k => k) := ⟨fun k => k, fun _ => rfl, fun _ => rfl, fun _ _ => rfl⟩
theorem PermOn.inj {a b : Nat} {π : Nat → Nat} (h : PermOn a b π) {x y : Nat} (e : π x = π y) : x = y := by
  obtain ⟨π', _, h2, _⟩ := h
  rw [← h2 x, ← h2 y, e]
theorem PermOn.out {a b : Nat} {π : Nat → Nat} (h : PermOn a b π) {k : Nat} (hk : ¬ (a ≤ k ∧ k < b)) : π k = k := by
  obtain ⟨π', _, _, h3⟩ := h
  exact h3 k hk
theorem PermOn.maps {a b : Nat} {π : Nat → Nat} (h : PermOn a b π) {k : Nat} (hk : a ≤ k ∧ k < b) : a ≤ π k ∧ π k < b := by
  by_cases h1 : a ≤ π k ∧ π k < b
  · exact h1
  · have := h.inj (h.out h1)
    rw [this] at h1
    exact (h1 hk).elim
theorem PermOn.lt {a b n : Nat} {π : Nat → Nat} (h : PermOn a b π) (hb : b ≤ n) {k : Nat} (hk : k < n) : π k < n := by
  by_cases h1 : a ≤ k ∧ k < b
  · have := h.maps h1; omega
  · rw [h.out h1]; exact hk
theorem PermOn.comp {a b : Nat} {π ρ : Nat → Nat} (h : PermOn a b π) (h' : PermOn a b ρ) : PermOn a b (fun k => π (ρ k)) := by
  obtain ⟨π', h1, h2, h3⟩ := h
  obtain ⟨ρ', g1, g2, g3⟩ := h'
  refine ⟨fun k => ρ' (π' k), fun k => by simp only [g1, h1], fun k => by simp only [h2, g2], fun k hk => by simp only [g3 k hk, h3 k hk]⟩
theorem PermOn.empty {a i b : Nat} {π : Nat → Nat} (h : PermOn a i π) (hi : i ≤ a + 1) : PermOn a b π := by
  have hid : ∀ k, π k = k := fun k => by
    by_cases hk : a ≤ k ∧ k < i
    · have := h.maps hk; omega
    · exact h.out hk
  exact ⟨fun k => k, fun k => by rw [hid], fun k => by rw [hid], fun k _ => hid k⟩
theorem PermOn.mono {a b a' b' : Nat} {π : Nat → Nat} (h : PermOn a b π) (ha : a' ≤ a) (hb : b ≤ b') : PermOn a' b' π := by
  obtain ⟨π', h1, h2, h3⟩ := h
  exact ⟨π', h1, h2, fun k hk => h3 k (by omega)⟩
theorem PermOn.swap {a b i j : Nat} (hi : a ≤ i ∧ i < b) (hj : a ≤ j ∧ j < b) : PermOn a b (swI i j) := by
  refine ⟨swI i j, fun k => ?_, fun k => ?_, fun k hk => ?_⟩ <;> unfold swI <;> (repeat' split) <;> omega
def Srtd (le : Nat → Nat → Prop) (π : Nat → Nat) (a b : Nat) : Prop := ∀ p q, a ≤ p → p < q → q < b → le (π p) (π q)
structure Ord (le : Nat → Nat → Prop) : Prop where
  irr : ∀ p, ¬ le p p
  tr : ∀ p q r, le p q → le q r → le p r
theorem grows {a b : Nat} {τ : Nat → Nat} (h1 : ∀ p, a ≤ p → p < b → a ≤ τ p) (h2 : ∀ p q, a ≤ p → p < q → q < b → τ p < τ q) : ∀ p, a ≤ p → p < b → p ≤ τ p
  | 0, h, h' => Nat.zero_le _
  | p + 1, h, h' => by
    by_cases hp : a ≤ p
    · have := grows h1 h2 p hp (by omega)
      have := h2 p (p + 1) hp (by omega) h'
      omega
    · have := h1 (p + 1) h h'
      omega
theorem sorted_unique {le : Nat → Nat → Prop} (ho : Ord le) {a b : Nat} {π ρ : Nat → Nat} (hπ : PermOn a b π) (hρ : PermOn a b ρ) (sπ : Srtd le π a b) (sρ : Srtd le ρ a b) : ∀ k, π k = ρ k := by
  intro k
  by_cases hk : a ≤ k ∧ k < b
  · have key : ∀ {π ρ ρ' : Nat → Nat}, PermOn a b π → PermOn a b ρ → (∀ k, ρ (ρ' k) = k) → (∀ k, ρ' (ρ k) = k) → Srtd le π a b → Srtd le ρ a b → ∀ p, a ≤ p → p < b → p ≤ ρ' (π p) := by
      intro π ρ ρ' hπ hρ h1 h2 sπ sρ
      have hin : ∀ p, a ≤ p → p < b → a ≤ ρ' (π p) ∧ ρ' (π p) < b := by
        intro p hp hp'
        have hm := hπ.maps ⟨hp, hp'⟩
        by_cases hc : a ≤ ρ' (π p) ∧ ρ' (π p) < b
        · exact hc
        · have := hρ.out hc
          rw [h1] at this
          rw [← this] at hc
          exact (hc hm).elim
      refine grows (fun p hp hp' => (hin p hp hp').1) fun p q hp hpq hq => ?_
      rcases Nat.lt_trichotomy (ρ' (π p)) (ρ' (π q)) with h | h | h
      · exact h
      · exfalso
        have : π p = π q := by rw [← h1 (π p), ← h1 (π q), h]
        have := hπ.inj this
        omega
      · exfalso
        have := sρ _ _ (hin q (by omega) hq).1 h (hin p hp (by omega)).2
        rw [h1, h1] at this
        exact ho.irr _ (ho.tr _ _ _ this (sπ p q hp hpq hq))
    obtain ⟨π', p1, p2, _⟩ := id hπ
    obtain ⟨ρ', r1, r2, _⟩ := id hρ
    have k1 := key hπ hρ r1 r2 sπ sρ k hk.1 hk.2
    have hm : a ≤ ρ' (π k) ∧ ρ' (π k) < b := by
      have hm := hπ.maps hk
      by_cases hc : a ≤ ρ' (π k) ∧ ρ' (π k) < b
      · exact hc
      · have := hρ.out hc
        rw [r1] at this
        rw [← this] at hc
        exact (hc hm).elim
    have k2 := key hρ hπ p1 p2 sρ sπ (ρ' (π k)) hm.1 hm.2
    rw [r1, p2] at k2
    have : ρ' (π k) = k := by omega
    rw [← r1 (π k), this]
  · rw [hπ.out hk, hρ.out hk]
open Classical in
/-- THE sorted permutation -/
noncomputable def srt (le : Nat → Nat → Prop) (a b : Nat) : Nat → Nat := if h : ∃ π, PermOn a b π ∧ Srtd le π a b then Classical.choose h else fun k => k
theorem srt_eq {le : Nat → Nat → Prop} (ho : Ord le) {a b : Nat} {π : Nat → Nat} (hπ : PermOn a b π) (sπ : Srtd le π a b) : ∀ k, srt le a b k = π k := by
  have h : ∃ π, PermOn a b π ∧ Srtd le π a b := ⟨π, hπ, sπ⟩
  unfold srt
  rw [dif_pos h]
  exact sorted_unique ho (Classical.choose_spec h).1 hπ (Classical.choose_spec h).2 sπ
theorem srt_permOn (le : Nat → Nat → Prop) (a b : Nat) : PermOn a b (srt le a b) := by
  unfold srt
  split
  · rename_i h; exact (Classical.choose_spec h).1
  · exact .id a b
/-! ### Insertion -/
def insI (j i k : Nat) : Nat := if k = j then i else if j < k ∧ k ≤ i then k - 1 else k
theorem insI_top (i k : Nat) : insI i i k = k := by unfold insI; split <;> (try split) <;> omega
theorem insI_step {j i : Nat} (h0 : 0 < j) (h : j ≤ i) (k : Nat) : insI j i (swI j (j - 1) k) = insI (j - 1) i k := by
  unfold swI insI; (repeat' split) <;> omega
theorem insI_perm {a j i : Nat} (ha : a ≤ j) (h : j ≤ i) : PermOn a (i + 1) (insI j i) := by
  refine ⟨fun k => if k = i then j else if j ≤ k ∧ k < i then k + 1 else k, fun k => ?_, fun k => ?_, fun k hk => ?_⟩ <;> simp only [insI] <;> (repeat' split) <;> omega
theorem ins_sorted {le : Nat → Nat → Prop} (ho : Ord le) {π : Nat → Nat} {a j i : Nat} (ha : a ≤ j) (hj : j ≤ i) (hs : Srtd le π a i) (hgt : ∀ q, j ≤ q → q < i → le (π i) (π q)) (hlt : a < j → le (π (j - 1)) (π i)) :
    Srtd le (fun k => π (insI j i k)) a (i + 1) := by
  intro p q hp hpq hq
  have hlo : ∀ p, a ≤ p → p < j → le (π p) (π i) := fun p hp hpj => by
    have h1 := hlt (by omega)
    by_cases e : p = j - 1
    · rw [e]; exact h1
    · exact ho.tr _ _ _ (hs p (j - 1) hp (by omega) (by omega)) h1
  simp only [insI]
  by_cases q1 : q = j
  · rw [if_pos q1, if_neg (by omega), if_neg (by omega)]
    exact hlo p hp (by omega)
  · rw [if_neg q1]
    by_cases p1 : p = j
    · rw [if_pos p1, if_pos (by omega)]
      exact hgt _ (by omega) (by omega)
    · rw [if_neg p1]
      split <;> split
      · exact hs _ _ (by omega) (by omega) (by omega)
      · exact hs _ _ (by omega) (by omega) (by omega)
      · exact hs _ _ (by omega) (by omega) (by omega)
      · exact hs _ _ (by omega) (by omega) (by omega)
/-! ### Ranges that change places; rotations -/
def swrI (a b n k : Nat) : Nat := if a ≤ k ∧ k < a + n then k - a + b else if b ≤ k ∧ k < b + n then k - b + a else k
theorem swrI_zero (a b k : Nat) : swrI a b 0 k = k := by unfold swrI; split <;> (try split) <;> omega
theorem swrI_step {a b n : Nat} (h : a + n < b) (k : Nat) : swrI a b n (swI (a + n) (b + n) k) = swrI a b (n + 1) k := by
  unfold swI swrI; (repeat' split) <;> omega
def rotI (a m b k : Nat) : Nat := if a ≤ k ∧ k < a + (b - m) then k + (m - a) else if a + (b - m) ≤ k ∧ k < b then k - (b - m) else k
theorem rotI_left {a m b i j : Nat} (hi : i ≤ m) (hij : j < i) (k : Nat) : swrI (m - i) m j (rotI (m - (i - j)) m (m + j) k) = rotI (m - i) m (m + j) k := by
  unfold swrI rotI; (repeat' split) <;> omega
theorem rotI_right {a m b i j : Nat} (hi : i ≤ m) (hij : i < j) (k : Nat) : swrI (m - i) (m + j - i) i (rotI (m - i) m (m + (j - i)) k) = rotI (m - i) m (m + j) k := by
  unfold swrI rotI; (repeat' split) <;> omega
theorem rotI_last {m i : Nat} (hi : i ≤ m) (k : Nat) : swrI (m - i) m i k = rotI (m - i) m (m + i) k := by
  unfold swrI rotI; (repeat' split) <;> omega
theorem rotI_perm {a m b : Nat} (h1 : a ≤ m) (h2 : m ≤ b) : PermOn a b (rotI a m b) := by
  refine ⟨fun k => if a ≤ k ∧ k < m then k + (b - m) else if m ≤ k ∧ k < b then k - (m - a) else k, fun k => ?_, fun k => ?_, fun k hk => ?_⟩ <;> simp only [rotI] <;> (repeat' split) <;> omega
/-! ### The order of positions: by the elements, then by where they stand -/
structure Swo {α : Type} (lt : α → α → Prop) : Prop where
  irr : ∀ x, ¬ lt x x
  tr : ∀ x y z, lt x y → lt y z → lt x z
  neg : ∀ x y z, ¬ lt x y → ¬ lt y z → ¬ lt x z
section
variable {α : Type} [Inhabited α]
def Lt (lt : α → α → Prop) (l : List α) (p q : Nat) : Prop := lt (ge l p) (ge l q) ∨ (¬ lt (ge l q) (ge l p) ∧ p < q)
theorem Lt.ord {lt : α → α → Prop} (hw : Swo lt) (l : List α) : Ord (Lt lt l) := by
  refine ⟨fun p h => ?_, fun p q r h1 h2 => ?_⟩
  · rcases h with h | h
    · exact hw.irr _ h
    · omega
  · rcases h1 with h1 | ⟨h1, e1⟩ <;> rcases h2 with h2 | ⟨h2, e2⟩
    · exact .inl (hw.tr _ _ _ h1 h2)
    · left
      by_cases hc : lt (ge l p) (ge l r)
      · exact hc
      · exact (hw.neg _ _ _ hc h2 h1).elim
    · left
      by_cases hc : lt (ge l p) (ge l r)
      · exact hc
      · exact (hw.neg _ _ _ h1 hc h2).elim
    · by_cases hc : lt (ge l r) (ge l p)
      · exact (hw.neg _ _ _ h2 h1 hc).elim
      · exact .inr ⟨hc, by omega⟩
/-- what stands ahead and is not more stays ahead -/
theorem Lt.asc {lt : α → α → Prop} {l : List α} {p q : Nat} (hpq : p < q) (h : ¬ lt (ge l q) (ge l p)) : Lt lt l p q := .inr ⟨h, hpq⟩
noncomputable def srtL (lt : α → α → Prop) (l : List α) (a b : Nat) : List α := tb l (srt (Lt lt l) a b)
theorem srtL_len (lt : α → α → Prop) (l : List α) (a b : Nat) : (srtL lt l a b).length = l.length := tab_len _ _
theorem srtL_eq {lt : α → α → Prop} (hw : Swo lt) {l : List α} {a b : Nat} {π : Nat → Nat} (hπ : PermOn a b π) (sπ : Srtd (Lt lt l) π a b) : srtL lt l a b = tb l π :=
  tab_congr l fun k _ => srt_eq (Lt.ord hw l) hπ sπ k
/-- positions that are moved to where they stand in a row that has been moved: their order is the same if what is alike keeps its place -/
theorem Lt.tb {lt : α → α → Prop} {l : List α} {π : Nat → Nat} {p q : Nat} (hp : p < l.length) (hq : q < l.length) (hm : ¬ lt (ge l (π p)) (ge l (π q)) → ¬ lt (ge l (π q)) (ge l (π p)) → (p < q ↔ π p < π q)) :
    Lt lt (tb l π) p q ↔ Lt lt l (π p) (π q) := by
  unfold Lt
  rw [ge_tab l π hp, ge_tab l π hq]
  constructor
  · rintro (h | ⟨h, e⟩)
    · exact .inl h
    · by_cases hc : lt (ge l (π p)) (ge l (π q))
      · exact .inl hc
      · exact .inr ⟨h, (hm hc h).1 e⟩
  · rintro (h | ⟨h, e⟩)
    · exact .inl h
    · by_cases hc : lt (ge l (π p)) (ge l (π q))
      · exact .inl hc
      · exact .inr ⟨h, (hm hc h).2 e⟩
def NonDec (lt : α → α → Prop) (l : List α) (a b : Nat) : Prop := ∀ p q, a ≤ p → p < q → q < b → ¬ lt (ge l q) (ge l p)
theorem NonDec.le {lt : α → α → Prop} (hw : Swo lt) {l : List α} {a b : Nat} (h : NonDec lt l a b) {p q : Nat} (hp : a ≤ p) (hpq : p ≤ q) (hq : q < b) : ¬ lt (ge l q) (ge l p) := by
  by_cases e : p = q
  · subst e; exact hw.irr _
  · exact h p q hp (by omega) hq
theorem NonDec.srtd {lt : α → α → Prop} {l : List α} {a b : Nat} (h : NonDec lt l a b) : Srtd (Lt lt l) (fun k => k) a b := fun p q hp hpq hq => Lt.asc hpq (h p q hp hpq hq)
theorem NonDec.mono {lt : α → α → Prop} {l : List α} {a b a' b' : Nat} (h : NonDec lt l a b) (ha : a ≤ a') (hb : b' ≤ b) : NonDec lt l a' b' := fun p q hp hpq hq => h p q (by omega) hpq (by omega)
theorem Lt.not {lt : α → α → Prop} (hw : Swo lt) {l : List α} {p q : Nat} (h : Lt lt l p q) : ¬ lt (ge l q) (ge l p) := fun hc => by
  rcases h with h | h
  · exact hw.irr _ (hw.tr _ _ _ h hc)
  · exact h.1 hc
theorem Lt.tot {lt : α → α → Prop} {l : List α} {p q : Nat} (hne : p ≠ q) (h : ¬ Lt lt l p q) : Lt lt l q p := by
  unfold Lt at h ⊢
  by_cases h1 : lt (ge l q) (ge l p)
  · exact .inl h1
  · right
    have h2 : ¬ lt (ge l p) (ge l q) := fun hc => h (.inl hc)
    refine ⟨h2, ?_⟩
    by_cases h3 : p < q
    · exact (h (.inr ⟨h1, h3⟩)).elim
    · omega
theorem exists_sorted {lt : α → α → Prop} (hw : Swo lt) (l : List α) (a : Nat) : ∀ b, ∃ π, PermOn a b π ∧ Srtd (Lt lt l) π a b
  | 0 => ⟨fun k => k, .id a 0, fun p q _ _ h => by omega⟩
  | b + 1 => by
    by_cases hab : a ≤ b
    · obtain ⟨π, hπ, sπ⟩ := exists_sorted hw l a b
      have hπb : π b = b := hπ.out (by omega)
      have hex : ∀ d, (∀ q, b - d ≤ q → q < b → Lt lt l b (π q)) ∨ ∃ j, a ≤ j ∧ j ≤ b ∧ (∀ q, j ≤ q → q < b → Lt lt l b (π q)) ∧ (a < j → ¬ Lt lt l b (π (j - 1))) := by
        intro d
        induction d with
        | zero => exact .inl fun q h1 h2 => by omega
        | succ d ih =>
          rcases ih with ih | ih
          · by_cases hc : a < b - d
            · by_cases hl : Lt lt l b (π (b - d - 1))
              · left
                intro q h1 h2
                by_cases e : q = b - d - 1
                · rw [e]; exact hl
                · exact ih q (by omega) h2
              · exact .inr ⟨b - d, by omega, by omega, fun q h1 h2 => ih q h1 h2, fun _ => hl⟩
            · exact .inr ⟨a, Nat.le_refl _, hab, fun q h1 h2 => ih q (by omega) h2, fun h => by omega⟩
          · exact .inr ih
      have hj : ∃ j, a ≤ j ∧ j ≤ b ∧ (∀ q, j ≤ q → q < b → Lt lt l b (π q)) ∧ (a < j → ¬ Lt lt l b (π (j - 1))) := by
        rcases hex (b - a) with h | h
        · exact ⟨a, Nat.le_refl _, hab, fun q h1 h2 => h q (by omega) h2, fun h => by omega⟩
        · exact h
      obtain ⟨j, h1, h2, h3, h4⟩ := hj
      refine ⟨fun k => π (insI j b k), (hπ.mono (Nat.le_refl _) (by omega)).comp (insI_perm h1 h2), ins_sorted (Lt.ord hw l) h1 h2 sπ (fun q q1 q2 => by rw [hπb]; exact h3 q q1 q2) fun haj => ?_⟩
      rw [hπb]
      refine Lt.tot (fun e => ?_) (h4 haj)
      have := hπ.maps (k := j - 1) (by omega)
      omega
    · exact ⟨fun k => k, .id a _, fun p q _ _ h => by omega⟩
theorem srt_sorted {lt : α → α → Prop} (hw : Swo lt) (l : List α) (a b : Nat) : Srtd (Lt lt l) (srt (Lt lt l) a b) a b := by
  unfold srt
  rw [dif_pos (exists_sorted hw l a b)]
  exact (Classical.choose_spec (exists_sorted hw l a b)).2
theorem srtL_id {lt : α → α → Prop} (hw : Swo lt) {l : List α} {a b : Nat} (h : NonDec lt l a b) : srtL lt l a b = l := by
  rw [srtL_eq hw (.id a b) h.srtd, tab_id]
/-! ### Merging -/
def upI (a k x : Nat) : Nat := if a ≤ x ∧ x < k then x + 1 else if x = k then a else x
theorem upI_zero (a x : Nat) : upI a a x = x := by unfold upI; (repeat' split) <;> omega
theorem upI_step {a k : Nat} (h : a ≤ k) (x : Nat) : upI a k (swI k (k + 1) x) = upI a (k + 1) x := by unfold upI swI; (repeat' split) <;> omega
theorem upI_perm {a k b : Nat} (h : a ≤ k) (hb : k < b) : PermOn a b (upI a k) := by
  refine ⟨fun x => if x = a then k else if a < x ∧ x ≤ k then x - 1 else x, fun x => ?_, fun x => ?_, fun x hx => ?_⟩ <;> simp only [upI] <;> (repeat' split) <;> omega
theorem merge_one {lt : α → α → Prop} (hw : Swo lt) {l : List α} {a i b : Nat} (h1 : a < i) (h2 : i ≤ b) (hn : NonDec lt l (a + 1) b) (hlo : a + 1 < i → lt (ge l (i - 1)) (ge l a)) (hhi : i < b → ¬ lt (ge l i) (ge l a)) :
    srtL lt l a b = tb l (upI a (i - 1)) := by
  have hA : ∀ q, a < q → q < i → lt (ge l q) (ge l a) := fun q hq hqi => by
    have h3 := hlo (by omega)
    by_cases hc : lt (ge l q) (ge l a)
    · exact hc
    · exact (hw.neg _ _ _ (hn.le hw (p := q) (q := i - 1) (by omega) (by omega) (by omega)) hc h3).elim
  have hB : ∀ q, i ≤ q → q < b → ¬ lt (ge l q) (ge l a) := fun q hq hqb => hw.neg _ _ _ (hn.le hw (p := i) (by omega) hq hqb) (hhi (by omega))
  refine srtL_eq hw (upI_perm (by omega) (by omega)) fun p q hp hpq hq => ?_
  unfold upI
  by_cases p1 : p < i - 1
  · rw [if_pos ⟨hp, p1⟩]
    by_cases q1 : q < i - 1
    · rw [if_pos ⟨by omega, q1⟩]; exact Lt.asc (by omega) (hn _ _ (by omega) (by omega) (by omega))
    · rw [if_neg (by omega)]
      by_cases q2 : q = i - 1
      · rw [if_pos q2]; exact .inl (hA _ (by omega) (by omega))
      · rw [if_neg q2]; exact Lt.asc (by omega) (hn _ _ (by omega) (by omega) (by omega))
  · rw [if_neg (by omega), if_neg (by omega : ¬ (a ≤ q ∧ q < i - 1)), if_neg (by omega : ¬ q = i - 1)]
    by_cases p2 : p = i - 1
    · rw [if_pos p2]; exact Lt.asc (by omega) (hB q (by omega) hq)
    · rw [if_neg p2]; exact Lt.asc (by omega) (hn _ _ (by omega) (by omega) (by omega))
theorem merge_two {lt : α → α → Prop} (hw : Swo lt) {l : List α} {a i m : Nat} (h1 : a ≤ i) (h2 : i ≤ m) (hn : NonDec lt l a m) (hlo : a < i → ¬ lt (ge l m) (ge l (i - 1))) (hhi : i < m → lt (ge l m) (ge l i)) :
    srtL lt l a (m + 1) = tb l (insI i m) := by
  refine srtL_eq hw (insI_perm h1 h2) ?_
  have := ins_sorted (Lt.ord hw l) (π := fun k => k) h1 h2 hn.srtd (fun q hq hqm => ?_) fun ha => ?_
  · exact this
  · left
    have h3 := hhi (by omega)
    by_cases hc : lt (ge l m) (ge l q)
    · exact hc
    · exact (hw.neg _ _ _ hc (hn.le hw (p := i) h1 hq hqm) h3).elim
  · exact Lt.asc (by omega) (hlo ha)
theorem rotI_lo {a m b k : Nat} (h : k < a) : rotI a m b k = k := by unfold rotI; rw [if_neg (by omega), if_neg (by omega)]
theorem merge_main {lt : α → α → Prop} (hw : Swo lt) {l : List α} {a m b mid s s0 r0 : Nat} (hm1 : a < m) (hm2 : m < b) (hb : b ≤ l.length) (hmid : mid = (a + b) / 2) (n1 : NonDec lt l a m) (n2 : NonDec lt l m b)
    (hs0 : if mid < m then s0 = mid + m - b ∧ r0 = mid else s0 = a ∧ r0 = m) (hs1 : s0 ≤ s) (hs2 : s ≤ r0) (hA : s0 < s → ¬ lt (ge l (mid + m - s)) (ge l (s - 1))) (hB : s < r0 → lt (ge l (mid + m - 1 - s)) (ge l s)) :
    a ≤ s ∧ s ≤ mid ∧ s ≤ m ∧ m ≤ mid + m - s ∧ mid ≤ mid + m - s ∧ mid + m - s ≤ b ∧
    NonDec lt (tb l (rotI s m (mid + m - s))) a s ∧ NonDec lt (tb l (rotI s m (mid + m - s))) s mid ∧
    NonDec lt (srtL lt (tb l (rotI s m (mid + m - s))) a mid) mid (mid + m - s) ∧ NonDec lt (srtL lt (tb l (rotI s m (mid + m - s))) a mid) (mid + m - s) b ∧
    srtL lt (srtL lt (tb l (rotI s m (mid + m - s))) a mid) mid b = srtL lt l a b := by
  have hmid1 : 2 * mid ≤ a + b := by omega
  have hmid2 : a + b ≤ 2 * mid + 1 := by omega
  have hr : s0 ≤ r0 ∧ a ≤ s0 ∧ r0 ≤ mid ∧ r0 ≤ m ∧ (mid < m → s0 + b = mid + m ∧ r0 = mid) ∧ (¬ mid < m → s0 = a ∧ r0 = m) := by
    split at hs0 <;> omega
  clear hs0
  generalize he : mid + m - s = e at *
  obtain ⟨g0, g1, g2, g3, g4, g5⟩ := hr
  have hB' : s < r0 → lt (ge l (e - 1)) (ge l s) := fun h => by have := hB h; rwa [show mid + m - 1 - s = e - 1 by omega] at this
  clear hB
  have f1 : a ≤ s := by omega
  have f2 : s ≤ mid := by omega
  have f3 : s ≤ m := by omega
  have f4 : m ≤ e := by omega
  have f5 : mid ≤ e := by omega
  have f6 : e ≤ b := by
    by_cases h : mid < m
    · have := g4 h; omega
    · have := g5 h; omega
  have he2 : s + (e - m) = mid := by omega
  -- where a place of the turned row comes from
  have ρ1 : ∀ k, k < s → rotI s m e k = k := fun k h => rotI_lo h
  have ρ2 : ∀ k, s ≤ k → k < mid → rotI s m e k = k + (m - s) := fun k h h' => by unfold rotI; rw [if_pos (by omega)]
  have ρ3 : ∀ k, mid ≤ k → k < e → rotI s m e k = k - (e - m) := fun k h h' => by unfold rotI; rw [if_neg (by omega), if_pos (by omega)]
  have ρ4 : ∀ k, e ≤ k → rotI s m e k = k := fun k h => by unfold rotI; rw [if_neg (by omega), if_neg (by omega)]
  have hρ : PermOn a b (rotI s m e) := (rotI_perm f3 f4).mono f1 f6
  have hlen : ∀ k, k < b → k < l.length := fun k h => by omega
  have hρl : ∀ k, k < l.length → rotI s m e k < l.length := fun k h => hρ.lt hb h
  generalize hl1 : tb l (rotI s m e) = l1
  have hl1len : l1.length = l.length := by rw [← hl1, tab_len]
  have ge1 : ∀ k, k < b → ge l1 k = ge l (rotI s m e k) := fun k h => by rw [← hl1, ge_tab l _ (hlen k h)]
  have nd1 : NonDec lt l1 a s := fun p q hp hpq hq => by rw [ge1 p (by omega), ge1 q (by omega), ρ1 p (by omega), ρ1 q hq]; exact n1 p q hp hpq (by omega)
  have nd2 : NonDec lt l1 s mid := fun p q hp hpq hq => by rw [ge1 p (by omega), ge1 q (by omega), ρ2 p hp (by omega), ρ2 q (by omega) hq]; exact n2 _ _ (by omega) (by omega) (by omega)
  have nd3 : NonDec lt l1 mid e := fun p q hp hpq hq => by rw [ge1 p (by omega), ge1 q (by omega), ρ3 p hp (by omega), ρ3 q (by omega) hq]; exact n1 _ _ (by omega) (by omega) (by omega)
  have nd4 : NonDec lt l1 e b := fun p q hp hpq hq => by rw [ge1 p (by omega), ge1 q (by omega), ρ4 p hp, ρ4 q (by omega)]; exact n2 _ _ (by omega) (by omega) (by omega)
  -- the first half, sorted
  have hσ := srt_permOn (Lt lt l1) a mid
  have sσ := srt_sorted hw l1 a mid
  generalize hσe : srt (Lt lt l1) a mid = σ at hσ sσ
  have hl2 : srtL lt l1 a mid = tb l1 σ := by unfold srtL; rw [hσe]
  rw [hl2]
  have ge2 : ∀ k, mid ≤ k → k < b → ge (tb l1 σ) k = ge l1 k := fun k h h' => by rw [ge_tab l1 _ (by rw [hl1len]; exact hlen k h'), hσ.out (by omega)]
  have nd3' : NonDec lt (tb l1 σ) mid e := fun p q hp hpq hq => by rw [ge2 p hp (by omega), ge2 q (by omega) (by omega)]; exact nd3 p q hp hpq hq
  have nd4' : NonDec lt (tb l1 σ) e b := fun p q hp hpq hq => by rw [ge2 p (by omega) (by omega), ge2 q (by omega) hq]; exact nd4 p q hp hpq hq
  refine ⟨f1, f2, f3, f4, f5, f6, nd1, nd2, nd3', nd4', ?_⟩
  have hτ := srt_permOn (Lt lt (tb l1 σ)) mid b
  have sτ := srt_sorted hw (tb l1 σ) mid b
  generalize hτe : srt (Lt lt (tb l1 σ)) mid b = τ at hτ sτ
  have hl3 : srtL lt (tb l1 σ) mid b = tb (tb l1 σ) τ := by unfold srtL; rw [hτe]
  rw [hl3]
  have hσm := hσ.mono (Nat.le_refl a) (show mid ≤ b by omega)
  have hτm := hτ.mono (show a ≤ mid by omega) (Nat.le_refl b)
  have hlb : b ≤ l1.length := by rw [hl1len]; exact hb
  rw [tab_tab l1 σ τ (fun k hk => hτm.lt hlb hk), ← hl1, tab_tab l _ (fun k => σ (τ k)) (fun k hk => by rw [hl1len.symm] at hk ⊢; exact hσm.lt hlb (hτm.lt hlb hk))]
  refine (srtL_eq hw (hρ.comp (hσm.comp hτm)) fun p q hp hpq hq => ?_).symm
  -- what comes of the first half is ahead of what comes of the second
  have cross : ∀ x y, a ≤ x → x < mid → mid ≤ y → y < b → Lt lt l (rotI s m e x) (rotI s m e y) := by
    intro x y hx hx' hy hy'
    by_cases x1 : x < s
    · rw [ρ1 x x1]
      by_cases y1 : y < e
      · rw [ρ3 y hy y1]; exact Lt.asc (by omega) (n1 _ _ (by omega) (by omega) (by omega))
      · rw [ρ4 y (by omega)]
        refine Lt.asc (by omega) ?_
        have hss : s0 < s := by
          by_cases h : mid < m
          · have := g4 h; omega
          · have := g5 h; omega
        exact hw.neg _ _ _ (hw.neg _ _ _ (n2.le hw (p := e) (by omega) (by omega) hy') (hA hss)) (n1.le hw (q := s - 1) hx (by omega) (by omega))
    · rw [ρ2 x (by omega) hx']
      by_cases y1 : y < e
      · rw [ρ3 y hy y1]
        left
        have hsr : s < r0 := by
          by_cases h : mid < m
          · have := g4 h; omega
          · have := g5 h; omega
        by_cases hc : lt (ge l (x + (m - s))) (ge l (y - (e - m)))
        · exact hc
        · exact (hw.neg _ _ _ (n2.le hw (p := x + (m - s)) (q := e - 1) (by omega) (by omega) (by omega)) (hw.neg _ _ _ hc (n1.le hw (p := s) (by omega) (by omega) (by omega))) (hB' hsr)).elim
      · rw [ρ4 y (by omega)]
        exact Lt.asc (by omega) (n2 _ _ (by omega) (by omega) hy')
  have mono1 : ∀ x y, x < mid → y < mid → (x < y ↔ rotI s m e x < rotI s m e y) := by
    intro x y hx hy
    by_cases x1 : x < s <;> by_cases y1 : y < s
    · rw [ρ1 x x1, ρ1 y y1]
    · rw [ρ1 x x1, ρ2 y (by omega) hy]; omega
    · rw [ρ2 x (by omega) hx, ρ1 y y1]; omega
    · rw [ρ2 x (by omega) hx, ρ2 y (by omega) hy]; omega
  have mono2 : ∀ x y, mid ≤ x → mid ≤ y → (x < y ↔ rotI s m e x < rotI s m e y) := by
    intro x y hx hy
    by_cases x1 : x < e <;> by_cases y1 : y < e
    · rw [ρ3 x hx x1, ρ3 y hy y1]; omega
    · rw [ρ3 x hx x1, ρ4 y (by omega)]; omega
    · rw [ρ4 x (by omega), ρ3 y hy y1]; omega
    · rw [ρ4 x (by omega), ρ4 y (by omega)]
  by_cases q1 : q < mid
  · rw [show τ p = p from hτ.out (by omega), show τ q = q from hτ.out (by omega)]
    have h := sσ p q hp hpq q1
    have m1 := hσ.maps (k := p) (by omega)
    have m2 := hσ.maps (k := q) (by omega)
    rw [← hl1] at h
    exact (Lt.tb (hlen _ (by omega)) (hlen _ (by omega)) fun _ _ => mono1 _ _ m1.2 m2.2).1 h
  · by_cases p1 : p < mid
    · rw [show τ p = p from hτ.out (by omega)]
      have m1 := hσ.maps (k := p) (by omega)
      have m2 := hτ.maps (k := q) (by omega)
      rw [show σ (τ q) = τ q from hσ.out (by omega)]
      exact cross _ _ m1.1 m1.2 m2.1 m2.2
    · have h := sτ p q (by omega) hpq hq
      have m1 := hτ.maps (k := p) (by omega)
      have m2 := hτ.maps (k := q) (by omega)
      rw [show σ (τ p) = τ p from hσ.out (by omega), show σ (τ q) = τ q from hσ.out (by omega)]
      have h' : Lt lt l1 (τ p) (τ q) := by
        unfold Lt at h ⊢
        rw [ge2 _ m1.1 m1.2, ge2 _ m2.1 m2.2] at h
        exact h
      rw [← hl1] at h'
      exact (Lt.tb (hlen _ m1.2) (hlen _ m2.2) fun _ _ => mono2 _ _ m1.1 m2.1).1 h'
/-- blocks that have been sorted, then merged: the whole is sorted -/
theorem blocks_merge {lt : α → α → Prop} (hw : Swo lt) {l : List α} {m b : Nat} (hm : m ≤ b) (hb : b ≤ l.length) :
    NonDec lt (srtL lt (srtL lt l 0 m) m b) 0 m ∧ NonDec lt (srtL lt (srtL lt l 0 m) m b) m b ∧ srtL lt (srtL lt (srtL lt l 0 m) m b) 0 b = srtL lt l 0 b := by
  have hσ := srt_permOn (Lt lt l) 0 m
  have sσ := srt_sorted hw l 0 m
  generalize hσe : srt (Lt lt l) 0 m = σ at hσ sσ
  have hl1 : srtL lt l 0 m = tb l σ := by unfold srtL; rw [hσe]
  rw [hl1]
  have hτ := srt_permOn (Lt lt (tb l σ)) m b
  have sτ := srt_sorted hw (tb l σ) m b
  generalize hτe : srt (Lt lt (tb l σ)) m b = τ at hτ sτ
  have hl2 : srtL lt (tb l σ) m b = tb (tb l σ) τ := by unfold srtL; rw [hτe]
  rw [hl2]
  have hσm := hσ.mono (Nat.le_refl 0) hm
  have hτm := hτ.mono (Nat.zero_le m) (Nat.le_refl b)
  rw [tab_tab l σ τ (fun k hk => hτm.lt hb hk)]
  have st : ∀ k, k < m → σ (τ k) = σ k := fun k h => by rw [hτ.out (k := k) (by omega)]
  have ts : ∀ k, m ≤ k → k < b → σ (τ k) = τ k := fun k h h' => by have := hτ.maps (k := k) ⟨h, h'⟩; exact hσ.out (by omega)
  have s1 : Srtd (Lt lt l) (fun k => σ (τ k)) 0 m := fun p q hp hpq hq => by simp only [st p (by omega), st q hq]; exact sσ p q hp hpq hq
  have s2 : Srtd (Lt lt l) (fun k => σ (τ k)) m b := fun p q hp hpq hq => by
    simp only [ts p hp (by omega), ts q (by omega) hq]
    have h := sτ p q hp hpq hq
    have m1 := hτ.maps (k := p) (by omega)
    have m2 := hτ.maps (k := q) (by omega)
    unfold Lt at h ⊢
    rw [ge_tab l σ (by omega), ge_tab l σ (by omega), hσ.out (by omega), hσ.out (by omega)] at h
    exact h
  have hll : ∀ k, k < b → k < l.length := fun k h => by omega
  refine ⟨fun p q hp hpq hq => ?_, fun p q hp hpq hq => ?_, ?_⟩
  · rw [ge_tab l _ (hll p (by omega)), ge_tab l _ (hll q (by omega))]; exact Lt.not hw (s1 p q hp hpq hq)
  · rw [ge_tab l _ (hll p (by omega)), ge_tab l _ (hll q (by omega))]; exact Lt.not hw (s2 p q hp hpq hq)
  · -- what is alike keeps its order
    have hτm0 := hτm
    have hπ : PermOn 0 b (fun k => σ (τ k)) := hσm.comp hτm
    generalize hl3 : tb l (fun k => σ (τ k)) = l3
    have hl3len : l3.length = l.length := by rw [← hl3, tab_len]
    have hμ := srt_permOn (Lt lt l3) 0 b
    have sμ := srt_sorted hw l3 0 b
    generalize hμe : srt (Lt lt l3) 0 b = μ at hμ sμ
    have hl4 : srtL lt l3 0 b = tb l3 μ := by unfold srtL; rw [hμe]
    rw [hl4, ← hl3, tab_tab l _ μ (fun k hk => hμ.lt hb hk)]
    refine (srtL_eq hw (hπ.comp hμ) fun p q hp hpq hq => ?_).symm
    have h := sμ p q hp hpq hq
    have m1 := hμ.maps (k := p) (by omega)
    have m2 := hμ.maps (k := q) (by omega)
    rw [← hl3] at h
    refine (Lt.tb (hll _ m1.2) (hll _ m2.2) fun t1 t2 => ?_).1 h
    have dir : ∀ x y, x < b → y < b → ¬ lt (ge l (σ (τ x))) (ge l (σ (τ y))) → ¬ lt (ge l (σ (τ y))) (ge l (σ (τ x))) → x < y → σ (τ x) < σ (τ y) := by
      intro x y hx hy u1 u2 hxy
      have fin : Lt lt l (σ (τ x)) (σ (τ y)) → σ (τ x) < σ (τ y) := fun h => by
        rcases h with h | h
        · exact (u1 h).elim
        · exact h.2
      by_cases y1 : y < m
      · exact fin (s1 x y (Nat.zero_le _) hxy y1)
      · by_cases x1 : x < m
        · rw [st x x1, ts y (by omega) hy]
          have := hσ.maps (k := x) ⟨Nat.zero_le _, x1⟩
          have := hτ.maps (k := y) (by omega)
          omega
        · exact fin (s2 x y (by omega) hxy hy)
    constructor
    · exact dir _ _ m1.2 m2.2 t1 t2
    · intro hlt
      rcases Nat.lt_trichotomy (μ p) (μ q) with h | h | h
      · exact h
      · rw [h] at hlt; omega
      · have := dir _ _ m2.2 m1.2 t2 t1 h; omega
end
end Go.Srt
