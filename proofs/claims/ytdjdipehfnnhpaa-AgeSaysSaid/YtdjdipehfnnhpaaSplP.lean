/-
  Amounts in parts, plain: one by one to the one that has most left, and at once by a stable sort, come to the same.
-/
import Derived.Test.YtdjdipehfnnhpaaSrtP
namespace Go.Spl
open Go.Srt
def wsum (l : List Int) : Nat → Int
  | 0 => 0
  | k + 1 => wsum l k + ge l k
def qt (a W : Int) (l : List Int) (i : Nat) : Int := a * ge l i / W
def rm (a W : Int) (l : List Int) (i : Nat) : Int := a * ge l i % W
def dsum (a W : Int) (l : List Int) : Nat → Int
  | 0 => 0
  | k + 1 => dsum a W l k + qt a W l k
def rsum (a W : Int) (l : List Int) : Nat → Int
  | 0 => 0
  | k + 1 => rsum a W l k + rm a W l k
theorem all_sum (a W : Int) (l : List Int) : ∀ k, W * dsum a W l k + rsum a W l k = a * wsum l k
  | 0 => by simp [dsum, rsum, wsum]
  | k + 1 => by
    have ih := all_sum a W l k
    have h := Int.mul_ediv_add_emod (a * ge l k) W
    simp only [dsum, rsum, wsum, qt, rm, Int.mul_add]
    omega
theorem rsum_bd {a W : Int} (l : List Int) (hW : 0 < W) : ∀ k : Nat, 0 ≤ rsum a W l k ∧ rsum a W l k ≤ k * (W - 1)
  | 0 => by simp [rsum]
  | k + 1 => by
    have ih := rsum_bd (a := a) l hW k
    have h1 := Int.emod_nonneg (a * ge l k) (b := W) (by omega)
    have h2 := Int.emod_lt_of_pos (a * ge l k) hW
    have h3 : ((k + 1 : Nat) : Int) * (W - 1) = k * (W - 1) + (W - 1) := by rw [Int.natCast_add, Int.add_mul]; omega
    simp only [rsum, rm]
    omega
theorem left_bd {a : Int} (l : List Int) (n : Nat) (hW : 0 < wsum l n) : 0 ≤ a - dsum a (wsum l n) l n ∧ a - dsum a (wsum l n) l n < n := by
  have h1 := all_sum a (wsum l n) l n
  have h2 := rsum_bd (a := a) l hW n
  have hn : 0 < n := by
    rcases Nat.eq_zero_or_pos n with h | h
    · subst h; simp [wsum] at hW
    · exact h
  generalize wsum l n = W at *
  generalize dsum a W l n = d at *
  have h3 : W * (a - d) = rsum a W l n := by rw [Int.mul_sub, Int.mul_comm W a]; omega
  constructor
  · by_cases h : 0 ≤ a - d
    · exact h
    · have := Int.mul_neg_of_pos_of_neg hW (show a - d < 0 by omega)
      omega
  · by_cases h : a - d < n
    · exact h
    · have h4 := Int.mul_le_mul_of_nonneg_left (show (n : Int) ≤ a - d by omega) (show (0 : Int) ≤ W by omega)
      have h5 : (n : Int) * (W - 1) = W * n - n := by rw [Int.mul_sub, Int.mul_comm (n : Int) W]; omega
      omega
theorem wsum_bd {l : List Int} (h : ∀ k, k < l.length → 0 ≤ ge l k ∧ ge l k ≤ 1000000) : ∀ k : Nat, k ≤ l.length → 0 ≤ wsum l k ∧ wsum l k ≤ k * 1000000
  | 0, _ => by simp [wsum]
  | k + 1, hk => by
    have ih := wsum_bd h k (by omega)
    have := h k (by omega)
    simp only [wsum]
    omega
theorem wsum_mono {l : List Int} (h : ∀ k, k < l.length → 0 ≤ ge l k ∧ ge l k ≤ 1000000) {k : Nat} : ∀ m : Nat, k + m ≤ l.length → wsum l k ≤ wsum l (k + m)
  | 0, _ => Int.le_refl _
  | m + 1, hm => by
    have ih := wsum_mono h (k := k) m (by omega)
    have := h (k + m) (by omega)
    have e : wsum l (k + (m + 1)) = wsum l (k + m) + ge l (k + m) := rfl
    omega
theorem mul_bd {a w : Int} (h0 : 0 ≤ a) (h1 : a ≤ 1000000000000) (h2 : 0 ≤ w) (h3 : w ≤ 1000000) : 0 ≤ a * w ∧ a * w ≤ 1000000000000000000 := by
  refine ⟨Int.mul_nonneg h0 h2, ?_⟩
  have := Int.mul_le_mul h1 h3 h2 (by omega)
  omega
theorem qt_bd {a W : Int} {l : List Int} {i : Nat} (h0 : 0 ≤ a) (hW : 0 < W) (hw : 0 ≤ ge l i ∧ ge l i ≤ W) : 0 ≤ qt a W l i ∧ qt a W l i ≤ a := by
  unfold qt
  refine ⟨Int.ediv_nonneg (Int.mul_nonneg h0 hw.1) (by omega), ?_⟩
  have := Int.mul_le_mul_of_nonneg_left hw.2 h0
  exact Int.ediv_le_of_le_mul hW this
theorem dsum_bd {a W : Int} {l : List Int} (h0 : 0 ≤ a) (hW : 0 < W) {k : Nat} (hl : ∀ i, i < k → 0 ≤ ge l i) (hk : wsum l k ≤ W) : 0 ≤ dsum a W l k ∧ dsum a W l k ≤ a := by
  have h1 := all_sum a W l k
  have h2 := (rsum_bd (a := a) l hW k).1
  have h3 : 0 ≤ dsum a W l k := by
    clear h1 h2 hk
    induction k with
    | zero => simp [dsum]
    | succ k ih =>
      have := ih fun i hi => hl i (by omega)
      have h4 : 0 ≤ qt a W l k := Int.ediv_nonneg (Int.mul_nonneg h0 (hl k (by omega))) (by omega)
      simp only [dsum]
      omega
  refine ⟨h3, ?_⟩
  have h4 := Int.mul_le_mul_of_nonneg_left hk h0
  by_cases h : dsum a W l k ≤ a
  · exact h
  · have h5 := Int.mul_lt_mul_of_pos_left (show a < dsum a W l k by omega) hW
    rw [Int.mul_comm W a] at h5
    omega
theorem rm_eq (a W : Int) (l : List Int) (i : Nat) : a * ge l i - qt a W l i * W = rm a W l i := by
  unfold qt rm
  have := Int.ediv_mul_add_emod (a * ge l i) W
  omega
theorem qt_alt {a W : Int} (l : List Int) (i : Nat) (hW : 0 < W) : a / W * ge l i + a % W * ge l i / W = qt a W l i := by
  unfold qt
  have h := Int.mul_ediv_add_emod a W
  have e : a * ge l i = W * (a / W * ge l i) + a % W * ge l i := by
    rw [← Int.mul_assoc, ← Int.add_mul, h]
  rw [e, Int.add_comm (W * _), Int.add_mul_ediv_left _ _ (by omega), Int.add_comm]
/-! ### the order -/
def gtR (r : Nat → Int) (x y : Int) : Prop := r y.toNat < r x.toNat
theorem gtR_swo (r : Nat → Int) : Swo (gtR r) := ⟨fun x h => by unfold gtR at h; omega, fun x y z h1 h2 => by unfold gtR at *; omega, fun x y z h1 h2 => by unfold gtR at *; omega⟩
def idxL (n : Nat) : List Int := (List.range n).map fun k : Nat => (k : Int)
theorem idx_len (n : Nat) : (idxL n).length = n := by simp [idxL]
theorem idx_ge {n p : Nat} (h : p < n) : ge (idxL n) p = (p : Int) := by simp [idxL, ge, h]
noncomputable def ord (r : Nat → Int) (n : Nat) : Nat → Nat := srt (Lt (gtR r) (idxL n)) 0 n
theorem ord_perm (r : Nat → Int) (n : Nat) : PermOn 0 n (ord r n) := srt_permOn _ _ _
theorem ord_sorted (r : Nat → Int) (n : Nat) {p q : Nat} (hpq : p < q) (hq : q < n) : r (ord r n q) < r (ord r n p) ∨ (¬ r (ord r n p) < r (ord r n q) ∧ ord r n p < ord r n q) := by
  have h := srt_sorted (gtR_swo r) (idxL n) 0 n p q (by omega) hpq hq
  have m1 := ((ord_perm r n).maps (k := p) (by omega)).2
  have m2 := ((ord_perm r n).maps (k := q) (by omega)).2
  unfold Lt at h
  change (gtR r (ge (idxL n) (ord r n p)) (ge (idxL n) (ord r n q)) ∨ _ ∧ _) at h
  have e1 := idx_ge m1
  have e2 := idx_ge m2
  rcases h with h | ⟨h, h'⟩
  · rw [e1, e2] at h
    unfold gtR at h
    simp only [Int.toNat_natCast] at h
    exact .inl h
  · change ¬ gtR r (ge (idxL n) (ord r n q)) (ge (idxL n) (ord r n p)) at h
    rw [e1, e2] at h
    unfold gtR at h
    simp only [Int.toNat_natCast] at h
    exact .inr ⟨h, h'⟩
theorem ord_list (r : Nat → Int) (n : Nat) : srtL (gtR r) (idxL n) 0 n = (List.range n).map fun k : Nat => ((ord r n k : Nat) : Int) := by
  unfold srtL tb
  rw [idx_len]
  refine List.map_congr_left fun k hk => ?_
  rw [List.mem_range] at hk
  exact idx_ge ((ord_perm r n).maps (k := k) (by omega)).2
/-! ### who has had one -/
def took (σ : Nat → Nat) (t i : Nat) : Bool := (List.range t).any fun s => σ s == i
theorem took_zero (σ : Nat → Nat) (i : Nat) : took σ 0 i = false := rfl
theorem took_succ (σ : Nat → Nat) (t i : Nat) : took σ (t + 1) i = (took σ t i || σ t == i) := by simp [took, List.range_succ]
theorem took_self {σ : Nat → Nat} {n t : Nat} (h : PermOn 0 n σ) : took σ t (σ t) = false := by
  unfold took
  rw [List.any_eq_false]
  intro s hs
  rw [List.mem_range] at hs
  simp only [beq_iff_eq]
  intro e
  have := h.inj e
  omega
theorem took_ne {σ : Nat → Nat} {t i : Nat} (h : i ≠ σ t) : took σ (t + 1) i = took σ t i := by
  rw [took_succ]
  have : (σ t == i) = false := by simp; exact fun e => h e.symm
  rw [this, Bool.or_false]
theorem took_new (σ : Nat → Nat) (t : Nat) : took σ (t + 1) (σ t) = true := by rw [took_succ]; simp
def outL (q : Nat → Int) (σ : Nat → Nat) (n t : Nat) : List Int := (List.range n).map fun i => q i + if took σ t i = true then 1 else 0
theorem outL_len (q : Nat → Int) (σ : Nat → Nat) (n t : Nat) : (outL q σ n t).length = n := by simp [outL]
theorem outL_get (q : Nat → Int) (σ : Nat → Nat) {n : Nat} (t : Nat) {i : Nat} (h : i < n) (ht : took σ t i = false) : (outL q σ n t)[i]? = some (q i) := by
  simp [outL, h, ht]
theorem outL_zero (q : Nat → Int) (σ : Nat → Nat) (n : Nat) : outL q σ n 0 = (List.range n).map q := by
  unfold outL
  exact List.map_congr_left fun i _ => by rw [took_zero]; simp
theorem outL_step (q : Nat → Int) (σ : Nat → Nat) (n t : Nat) : (outL q σ n t).set (σ t) (q (σ t) + 1) = outL q σ n (t + 1) := by
  apply List.ext_getElem?
  intro i
  rw [List.getElem?_set]
  by_cases e : σ t = i
  · subst e
    rw [if_pos rfl, outL_len]
    by_cases hn : σ t < n
    · rw [if_pos hn]
      simp [outL, hn, took_new]
    · rw [if_neg hn]
      simp [outL, hn]
  · rw [if_neg e]
    unfold outL
    simp only [List.getElem?_map]
    by_cases hn : i < n
    · rw [List.getElem?_range hn]
      simp only [Option.map_some]
      rw [took_ne (fun h' => e h'.symm)]
    · rw [List.getElem?_eq_none (by simp; omega)]; rfl
def gotL (σ : Nat → Nat) (n t : Nat) : List Bool := (List.range n).map fun i => took σ t i
theorem gotL_len (σ : Nat → Nat) (n t : Nat) : (gotL σ n t).length = n := by simp [gotL]
theorem gotL_get (σ : Nat → Nat) {n : Nat} (t : Nat) {i : Nat} (h : i < n) : (gotL σ n t)[i]? = some (took σ t i) := by simp [gotL, h]
theorem gotL_step (σ : Nat → Nat) (n t : Nat) : (gotL σ n t).set (σ t) true = gotL σ n (t + 1) := by
  apply List.ext_getElem?
  intro i
  rw [List.getElem?_set]
  by_cases e : σ t = i
  · subst e
    rw [if_pos rfl, gotL_len]
    by_cases hn : σ t < n
    · rw [if_pos hn]
      simp [gotL, hn, took_new]
    · rw [if_neg hn]
      simp [gotL, hn]
  · rw [if_neg e]
    unfold gotL
    simp only [List.getElem?_map]
    by_cases hn : i < n
    · rw [List.getElem?_range hn]
      simp only [Option.map_some]
      rw [took_ne (fun h' => e h'.symm)]
    · rw [List.getElem?_eq_none (by simp; omega)]; rfl
/-! ### the one that has most left -/
def Best (r : Nat → Int) (tk : Nat → Bool) (k : Nat) (b : Int) : Prop :=
  (b = -1 ∧ ∀ j, j < k → tk j = true) ∨ ∃ c : Nat, b = c ∧ c < k ∧ tk c = false ∧ ∀ j, j < k → tk j = false → j ≠ c → r j < r c ∨ (¬ r c < r j ∧ c < j)
theorem best_zero (r : Nat → Int) (tk : Nat → Bool) : Best r tk 0 (-1) := .inl ⟨rfl, fun j h => by omega⟩
theorem best_skip {r : Nat → Int} {tk : Nat → Bool} {k : Nat} {b : Int} (h : Best r tk k b) (ht : tk k = true) : Best r tk (k + 1) b := by
  rcases h with ⟨rfl, h⟩ | ⟨c, rfl, hc, hf, h⟩
  · refine .inl ⟨rfl, fun j hj => ?_⟩
    by_cases e : j = k
    · rw [e]; exact ht
    · exact h j (by omega)
  · refine .inr ⟨c, rfl, by omega, hf, fun j hj hjf hne => ?_⟩
    by_cases e : j = k
    · rw [e, ht] at hjf; cases hjf
    · exact h j (by omega) hjf hne
theorem best_first {r : Nat → Int} {tk : Nat → Bool} {k : Nat} {b : Int} (h : Best r tk k b) (hb : b < 0) (ht : tk k = false) : Best r tk (k + 1) k := by
  rcases h with ⟨rfl, h⟩ | ⟨c, rfl, hc, hf, h⟩
  · refine .inr ⟨k, rfl, by omega, ht, fun j hj hjf hne => ?_⟩
    rw [h j (by omega)] at hjf; cases hjf
  · omega
theorem best_new {r : Nat → Int} {tk : Nat → Bool} {k c : Nat} (h : Best r tk k c) (hr : r c < r k) (ht : tk k = false) : Best r tk (k + 1) k := by
  rcases h with ⟨h, _⟩ | ⟨c', hc', hc, hf, h⟩
  · omega
  · have : c' = c := by omega
    subst this
    refine .inr ⟨k, rfl, by omega, ht, fun j hj hjf hne => ?_⟩
    by_cases e : j = c'
    · rw [e]; exact .inl hr
    · have := h j (by omega) hjf e
      omega
theorem best_old {r : Nat → Int} {tk : Nat → Bool} {k c : Nat} (h : Best r tk k c) (hr : ¬ r c < r k) : Best r tk (k + 1) c := by
  rcases h with ⟨h, _⟩ | ⟨c', hc', hc, hf, h⟩
  · omega
  · have : c' = c := by omega
    subst this
    refine .inr ⟨c', rfl, by omega, hf, fun j hj hjf hne => ?_⟩
    by_cases e : j = k
    · rw [e]; exact .inr ⟨hr, hc⟩
    · exact h j (by omega) hjf hne
theorem best_end {r : Nat → Int} {n t : Nat} (ht : t < n) {b : Int} (h : Best r (took (ord r n) t) n b) : b = ord r n t := by
  have hp := ord_perm r n
  have hm := (hp.maps (k := t) (by omega)).2
  rcases h with ⟨_, h⟩ | ⟨c, rfl, hc, hf, h⟩
  · have := h _ hm
    rw [took_self hp] at this; cases this
  · by_cases e : ord r n t = c
    · rw [e]
    · have h1 := h _ hm (took_self hp) e
      obtain ⟨π, p1, p2, p3⟩ := id hp
      have hs : ord r n (π c) = c := p1 c
      have hsn : π c < n := by
        by_cases hx : π c < n
        · exact hx
        · have := hp.out (k := π c) (by omega)
          omega
      have hst : t < π c := by
        rcases Nat.lt_trichotomy t (π c) with hx | hx | hx
        · exact hx
        · rw [hx] at e; exact absurd hs e
        · exfalso
          unfold took at hf
          rw [List.any_eq_false] at hf
          exact hf (π c) (List.mem_range.2 hx) (by simp [hs])
      have h2 := ord_sorted r n hst hsn
      rw [hs] at h2
      omega
end Go.Spl
