/-
  What is earned month by month stands in the books, in plain words.
-/
import Derived.Test.YtdjdipehfnnhpaaDoorTopP
import Derived.Test.YtdjdipehfnnhpaaDoorErE
namespace Go.Proofs.YtdjdipehfnnhpaaDoor
open Go Go.Acc Earn
set_option linter.unusedVariables false
def endI (f : Int) (i : Nat) : Int := Cal.last (dayI f i)
theorem endI_eq {f t : Int} {i : Nat} (f0 : 0 ≤ f) (hft : f ≤ t) (t1 : t ≤ 292193) (hi : (i : Int) < many f t) : endI f i = Cal.fm (Cal.mon f + (i + 1 : Nat)) - 1 ∧ 0 ≤ endI f i ∧ endI f i ≤ 292193 ∧ f ≤ endI f i ∧ (0 ≤ dayI f i ∧ dayI f i ≤ 292193) := by
  have hin : Cal.mon f + i ≤ Cal.mon t := by unfold many at hi; omega
  obtain ⟨⟨d0, d1⟩, hl⟩ := day_step f0 hft t1 hin
  have lb := last_bd d0 (show dayI f i ≤ 292193 by omega)
  have hfd : f ≤ dayI f i := by
    unfold dayI
    split
    · exact Int.le_refl _
    · have h1 := Cal.day_fm f f0 (by omega)
      have h2 := Cal.fm_succ (Cal.mon f)
      have h3 := (Cal.fm_le (Cal.mon f + 1) (Cal.mon f + i) (by omega)).1
      omega
  unfold endI
  exact ⟨hl, by omega, lb.2, by omega, d0, by omega⟩
theorem endI_lt {f t : Int} {i m : Nat} (f0 : 0 ≤ f) (hft : f ≤ t) (t1 : t ≤ 292193) (hi : (i : Int) < many f t) (hm : m < i) : endI f m < endI f i := by
  have h1 := (endI_eq f0 hft t1 (i := m) (by omega)).1
  have h2 := (endI_eq f0 hft t1 hi).1
  have h3 := (Cal.fm_le (Cal.mon f + (m + 1 : Nat)) (Cal.mon f + (i + 1 : Nat)) (by omega)).1
  rw [h1, h2]
  omega
theorem endI_next {f t : Int} {i : Nat} (f0 : 0 ≤ f) (hft : f ≤ t) (t1 : t ≤ 292193) (hi : (i : Int) < many f t) : dayI f (i + 1) = endI f i + 1 := by
  have h1 := (endI_eq f0 hft t1 hi).1
  rw [h1]
  unfold dayI
  rw [if_neg (by omega)]
  omega
theorem rnd_range {n d a : Int} (hd : 1 ≤ d) (h0 : 0 ≤ n) (h1 : n ≤ a * d) : 0 ≤ Rnd.rnd n d 2 ∧ Rnd.rnd n d 2 ≤ a := by
  rw [Rnd.rnd2]
  have e := Int.mul_ediv_add_emod n d
  have r0 := Int.emod_nonneg n (show d ≠ 0 by omega)
  have r1 := Int.emod_lt_of_pos n (show 0 < d by omega)
  have q0 : 0 ≤ n / d := Int.ediv_nonneg h0 (by omega)
  have q1 : n / d ≤ a := Int.ediv_le_of_le_mul (by omega) h1
  have key : ¬ (n / d = a ∧ 0 < n % d) := by
    rintro ⟨h2, h3⟩
    rw [h2, Int.mul_comm] at e
    omega
  split <;> omega
theorem ear_range {a f t d : Int} (ha : 0 ≤ a) (hft : f ≤ t) : 0 ≤ ear a f t d ∧ ear a f t d ≤ a := by
  have h := dys_bd (day := d) hft
  refine rnd_range (by omega) (Int.mul_nonneg ha h.1) (Int.mul_le_mul_of_nonneg_left h.2 ha)
theorem F_range {a f t k : Int} (ha : 0 ≤ a) (hft : f ≤ t) : 0 ≤ F a f t k ∧ F a f t k ≤ a := by
  unfold F
  split
  · omega
  · exact ear_range ha hft
theorem ear_all {a f t d : Int} (ha : 0 ≤ a) (hft : f ≤ t) (hd : t ≤ d) : ear a f t d = a := by
  have e : dys f t d = t - f + 1 := by rw [dys_ref hft]; split <;> (try split) <;> omega
  unfold ear
  rw [e, Rnd.rnd2, Int.mul_ediv_cancel _ (by omega), Int.mul_emod_left]
  split <;> omega
theorem F_end {a f t : Int} {i : Nat} (f0 : 0 ≤ f) (hft : f ≤ t) (t1 : t ≤ 292193) (hi : (i : Int) < many f t) : F a f t ((i + 1 : Nat) : Int) = ear a f t (endI f i) := by
  unfold F
  rw [if_neg (by omega), (endI_eq f0 hft t1 hi).1]
theorem end_all {f t : Int} {i : Nat} (f0 : 0 ≤ f) (hft : f ≤ t) (t1 : t ≤ 292193) (hi : ((i + 1 : Nat) : Int) = many f t) : t ≤ endI f i := by
  rw [(endI_eq f0 hft t1 (i := i) (by omega)).1]
  unfold many at hi
  have h1 := Cal.day_fm t (by omega) t1
  have h2 := Cal.fm_succ (Cal.mon t)
  rw [show Cal.mon f + ((i + 1 : Nat) : Int) = Cal.mon t + 1 by omega]
  omega
theorem mon_len (k : Nat) (a : Int) : Cal.fm a + 28 * k ≤ Cal.fm (a + k) := (Cal.fm_add a k).1
theorem many_bd {f t : Int} (f0 : 0 ≤ f) (hft : f ≤ t) (t1 : t ≤ 292193) (h : t < f + 1000) : many f t ≤ 37 := by
  unfold many
  have h1 := Cal.day_fm f f0 (by omega)
  have h2 := Cal.day_fm t (by omega) t1
  rcases Int.lt_or_le (Cal.mon t) (Cal.mon f) with hc | hc
  · omega
  have h3 := (Cal.fm_le (Cal.mon f) (Cal.mon t) hc).1
  omega
/-- what the books hold after so many months -/
structure Erd (a f t : Int) (i : Nat) (E : List En) : Prop where
  ok : bkChk plA E (-1) = 0
  len : E.length ≤ i + 1
  keys : ∀ y ∈ E, y.1 = keyT 99 ∨ ∃ j, j < i ∧ y.1 = keyT j
  was : ∀ m, m < i → ofB c40 0 (endI f m) E = -F a f t ((m + 1 : Nat) : Int)
  now : ∀ d, f ≤ d → (∀ m, m < i → endI f m ≤ d) → ofB c40 0 d E = -F a f t i ∧ ofB c20 0 d E = -a + F a f t i
theorem c_ne : c10 ≠ c20 ∧ c10 ≠ c40 ∧ c20 ≠ c40 := by decide +kernel
theorem erd_zero {a f t : Int} (a0 : 1 ≤ a) (a1 : a ≤ 1000000000000) (f0 : 0 ≤ f) (f1 : f ≤ 292193) : postE plA [] (-1) (mvX 99 f a c10 c20) = 0 ∧ Erd a f t 0 (postB [] (mvX 99 f a c10 c20)) := by
  have hx := enX_mv (n := 99) (at_ := f) (a := a) (by omega) f0 f1 (by omega) (by omega) a1 codes_ok.1 codes_ok.2.2.1 c_ne.1
  obtain ⟨e1, e2⟩ := post_mv plain_ok hx (by simp) plA_has.1 plA_has.2.2.1 f0 (by simp)
  refine ⟨e1, (postE_ok e1).2.2, ?_, ?_, fun m hm => by omega, fun d hd _ => ?_⟩
  · rw [e2, insE_len]; exact Nat.le_refl _
  · rw [e2]
    intro y hy
    rcases mem_insE.1 hy with rfl | hy
    · exact .inl rfl
    · cases hy
  · have hc := eq_true (show 0 ≤ f ∧ f ≤ d from ⟨f0, hd⟩)
    rw [e2, ofB_ins, ofB_ins]
    simp only [ofX_mv, hc, if_true, c_ne.1, c_ne.2.1, c_ne.2.2, if_false]
    have : F a f t ((0 : Nat) : Int) = 0 := by unfold F; exact if_pos rfl
    rw [this]
    simp only [ofB, List.map_nil, List.sum_nil]
    omega
theorem erd_skip {a f t : Int} {i : Nat} {E : List En} (h : Erd a f t i E) (f0 : 0 ≤ f) (hft : f ≤ t) (t1 : t ≤ 292193) (hi : (i : Int) < many f t) (hn : F a f t ((i + 1 : Nat) : Int) - F a f t i = 0) : Erd a f t (i + 1) E := by
  have he := endI_eq f0 hft t1 hi
  refine ⟨h.ok, by have := h.len; omega, fun y hy => ?_, fun m hm => ?_, fun d hd hall => ?_⟩
  · rcases h.keys y hy with hk | ⟨j, hj, hk⟩
    · exact .inl hk
    · exact .inr ⟨j, by omega, hk⟩
  · by_cases hmi : m = i
    · subst hmi
      rw [(h.now (endI f m) he.2.2.2.1 fun k hk => Int.le_of_lt (endI_lt f0 hft t1 hi hk)).1]
      omega
    · exact h.was m (by omega)
  · have := h.now d hd fun m hm => hall m (by omega)
    rw [this.1, this.2]
    omega
theorem erd_post {a f t : Int} {i : Nat} {E : List En} (h : Erd a f t i E) (a0 : 1 ≤ a) (a1 : a ≤ 1000000000000) (f0 : 0 ≤ f) (hft : f ≤ t) (t1 : t ≤ 292193) (hi : (i : Int) < many f t) (h37 : many f t ≤ 37) (hn : ¬ F a f t ((i + 1 : Nat) : Int) - F a f t i = 0) :
    postE plA E (-1) (mvX i (endI f i) (F a f t ((i + 1 : Nat) : Int) - F a f t i) c20 c40) = 0 ∧ Erd a f t (i + 1) (postB E (mvX i (endI f i) (F a f t ((i + 1 : Nat) : Int) - F a f t i) c20 c40)) := by
  have he := endI_eq f0 hft t1 hi
  have r1 := F_range (a := a) (f := f) (t := t) (k := ((i + 1 : Nat) : Int)) (by omega) hft
  have r2 := F_range (a := a) (f := f) (t := t) (k := (i : Int)) (by omega) hft
  generalize hN : F a f t ((i + 1 : Nat) : Int) - F a f t i = N at *
  have hx := enX_mv (n := i) (at_ := endI f i) (a := N) (by omega) he.2.1 he.2.2.1 hn (by omega) (by omega) codes_ok.2.2.1 codes_ok.2.2.2.2.1 c_ne.2.2
  have hno : ∀ y ∈ E, y.1 ≠ keyT i := fun y hy hk => by
    rcases h.keys y hy with hk' | ⟨j, hj, hk'⟩
    · have := keyT_inj ⟨99, by omega⟩ ⟨i, by omega⟩ (hk'.symm.trans hk)
      have := congrArg Fin.val this
      simp only at this
      omega
    · have := keyT_inj ⟨j, by omega⟩ ⟨i, by omega⟩ (hk'.symm.trans hk)
      have := congrArg Fin.val this
      simp only at this
      omega
  obtain ⟨e1, e2⟩ := post_mv h.ok hx hno plA_has.2.2.1 plA_has.2.2.2.2.1 he.2.1 (by have := h.len; omega)
  refine ⟨e1, (postE_ok e1).2.2, ?_, ?_, fun m hm => ?_, fun d hd hall => ?_⟩
  · rw [e2, insE_len]; have := h.len; omega
  · rw [e2]
    intro y hy
    rcases mem_insE.1 hy with rfl | hy
    · exact .inr ⟨i, by omega, rfl⟩
    · rcases h.keys y hy with hk | ⟨j, hj, hk⟩
      · exact .inl hk
      · exact .inr ⟨j, by omega, hk⟩
  · rw [e2, ofB_ins, ofX_mv]
    by_cases hmi : m = i
    · subst hmi
      rw [if_pos ⟨he.2.1, Int.le_refl _⟩, if_neg c_ne.2.2, if_pos rfl, (h.now (endI f m) he.2.2.2.1 fun k hk => Int.le_of_lt (endI_lt f0 hft t1 hi hk)).1]
      omega
    · have hlt := endI_lt f0 hft t1 hi (m := m) (by omega)
      rw [if_neg (by omega), h.was m (by omega)]
      omega
  · have hd2 := hall i (by omega)
    have h3 := h.now d hd fun m hm => hall m (by omega)
    have hc := eq_true (show 0 ≤ endI f i ∧ endI f i ≤ d from ⟨he.2.1, hd2⟩)
    rw [e2, ofB_ins, ofB_ins]
    simp only [ofX_mv, hc, if_true, c_ne.2.2, Ne.symm c_ne.2.2, if_false]
    rw [h3.1, h3.2]
    omega
end Go.Proofs.YtdjdipehfnnhpaaDoor
