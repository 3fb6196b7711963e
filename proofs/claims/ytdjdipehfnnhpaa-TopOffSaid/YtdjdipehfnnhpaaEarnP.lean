/-
  Plain law: what is earned by a day, month by month (no program in sight).
-/
import Derived.Test.YtdjdipehfnnhpaaRnd
import Derived.Test.YtdjdipehfnnhpaaCal
namespace Go.Proofs.Ytdjdipehfnnhpaa.Earn
open Go.Proofs.Ytdjdipehfnnhpaa
/-- the days that count -/
def dys (f t day : Int) : Int := if (if t < day then t else day) - f + 1 > 0 then (if t < day then t else day) - f + 1 else 0
def ear (a f t day : Int) : Int := Rnd.rnd (a * dys f t day) (t - f + 1) 2
/-- by the end of the k-th month -/
def F (a f t k : Int) : Int := if k = 0 then 0 else ear a f t (Cal.fm (Cal.mon f + k) - 1)
theorem dys_bd {f t day : Int} (h : f ≤ t) : 0 ≤ dys f t day ∧ dys f t day ≤ t - f + 1 := by
  unfold dys; split <;> split <;> omega
theorem dys_ref {f t day : Int} (h : f ≤ t) : dys f t day = (if t < day then t - f + 1 else if f ≤ day then day - f + 1 else 0) := by
  unfold dys; split <;> split <;> (try split) <;> omega
theorem prod_bd {a x : Int} (h0 : -1000000000000 ≤ a) (h1 : a ≤ 1000000000000) (h2 : 0 ≤ x) (h3 : x ≤ 292194) : -300000000000000000 ≤ a * x ∧ a * x ≤ 300000000000000000 := by
  have k1 : a * x ≤ 1000000000000 * x := Int.mul_le_mul_of_nonneg_right h1 h2
  have k2 : -1000000000000 * x ≤ a * x := Int.mul_le_mul_of_nonneg_right h0 h2
  omega
theorem rnd_bd {n d M : Int} (hd : 1 ≤ d) (h0 : -M ≤ n) (h1 : n ≤ M) (hM : 0 ≤ M) : -M ≤ Rnd.rnd n d 2 ∧ Rnd.rnd n d 2 ≤ M + 1 := by
  have h := Rnd.div_bd n hd h0 h1 hM
  rw [Rnd.rnd2]
  split <;> omega
theorem ear_bd {a f t day : Int} (h0 : -1000000000000 ≤ a) (h1 : a ≤ 1000000000000) (hf : 0 ≤ f) (ht : t ≤ 292193) (h : f ≤ t) : -300000000000000000 ≤ ear a f t day ∧ ear a f t day ≤ 300000000000000001 := by
  have hd := dys_bd (day := day) h
  have p := prod_bd h0 h1 hd.1 (by omega)
  exact rnd_bd (by omega) p.1 p.2 (by omega)
theorem F_bd {a f t k : Int} (h0 : -1000000000000 ≤ a) (h1 : a ≤ 1000000000000) (hf : 0 ≤ f) (ht : t ≤ 292193) (h : f ≤ t) : -300000000000000000 ≤ F a f t k ∧ F a f t k ≤ 300000000000000001 := by
  unfold F
  split
  · omega
  · exact ear_bd h0 h1 hf ht h
theorem vld_fm {k : Int} (h0 : 0 ≤ k) (h1 : k < 9600) : Cal.vld (1600 + k / 12) (1 + k % 12) 1 := by
  have := Cal.len_bd (1600 + k / 12) (1 + k % 12)
  unfold Cal.vld
  omega
theorem fm_day {k : Int} (h0 : 0 ≤ k) (h1 : k < 9600) : Cal.mon (Cal.fm k) = k ∧ Cal.dD (Cal.fm k) = 1 ∧ 0 ≤ Cal.fm k ∧ Cal.fm k ≤ 292193 := by
  have hv := vld_fm h0 h1
  obtain ⟨e1, e2, e3⟩ := Cal.date_of _ _ _ (Cal.fm k) hv rfl
  have hb := Cal.num_bd _ _ _ hv
  refine ⟨?_, e3, hb.1, hb.2⟩
  unfold Cal.mon
  rw [e1, e2]
  omega
theorem last_fm {n : Int} (h0 : 0 ≤ n) (h1 : n ≤ 292193) : Cal.last n = Cal.fm (Cal.mon n + 1) - 1 := by
  have hv := (Cal.date_ok n h0 h1).1
  have hd := Cal.day_fm n h0 h1
  rw [Cal.last_eq n h0 h1, Cal.fm_succ]
  have : Cal.ml (Cal.mon n) = Cal.len (Cal.dY n) (Cal.dM n) := by
    unfold Cal.ml Cal.mon
    unfold Cal.vld at hv
    rw [show 1600 + (12 * (Cal.dY n - 1600) + Cal.dM n - 1) / 12 = Cal.dY n by omega, show 1 + (12 * (Cal.dY n - 1600) + Cal.dM n - 1) % 12 = Cal.dM n by omega]
  omega
theorem add_fm {M j : Int} (h0 : 0 ≤ M) (h1 : M < 9600) (h2 : 0 ≤ M + j) (h3 : M + j < 9600) : Cal.add (Cal.fm M) j = Cal.fm (M + j) := by
  obtain ⟨e1, e2, _⟩ := fm_day h0 h1
  unfold Cal.add
  rw [e1, e2, if_pos ⟨h2, h3⟩, Cal.ofMon_fm]
  have := Cal.ml_bd (M + j)
  omega
theorem fm_le_day {n k : Int} (h0 : 0 ≤ n) (h1 : n ≤ 292193) : Cal.fm k ≤ n ↔ k ≤ Cal.mon n := by
  have hd := Cal.day_fm n h0 h1
  have hs := Cal.fm_succ (Cal.mon n)
  constructor
  · intro h
    rcases Int.lt_or_le (Cal.mon n) k with hk | hk
    · have := Cal.fm_le (Cal.mon n + 1) k (by omega); omega
    · exact hk
  · intro h
    have := Cal.fm_le k (Cal.mon n) h
    omega
end Go.Proofs.Ytdjdipehfnnhpaa.Earn
