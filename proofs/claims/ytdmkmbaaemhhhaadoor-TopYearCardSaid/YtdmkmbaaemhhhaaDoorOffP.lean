/-
  What is written off, in plain words: sums of steps, digits ahead of straight, falling ahead of units.
-/
import Derived.Test.YtdmkmbaaemhhhaaDoorFallF
namespace Go.Proofs.YtdmkmbaaemhhhaaDoor
open Go Go.Ev
set_option linter.unusedVariables false
theorem rnd2_eq {n d : Int} (hn : 0 ≤ n) (hd : 1 ≤ d) : Rnd.rnd n d 2 = (2 * n + d) / (2 * d) := by
  have hm : ∀ x, x * (2 * d) = 2 * (x * d) := fun x => Int.mul_left_comm _ _ _
  rw [Rnd.rnd2]
  by_cases h0 : n = 0
  · subst h0
    rw [Int.zero_emod, Int.zero_ediv, if_neg (by omega), Int.ediv_eq_zero_of_lt (by omega) (by omega)]
  have e := Rnd.divmod n d
  have l := Rnd.low (n := n) hd
  generalize n / d = q at *
  generalize n % d = r at *
  split
  · rename_i h
    refine (Rnd.uniq (d := 2 * d) (q := q + 1) (r := 2 * r - d) (by omega) (by omega) ?_).1.symm
    rw [hm, Int.add_mul]; omega
  · rename_i h
    refine (Rnd.uniq (d := 2 * d) (q := q) (r := 2 * r + d) (by omega) (by omega) ?_).1.symm
    rw [hm]; omega
theorem le_rnd2 {n d x : Int} (hn : 0 ≤ n) (hd : 1 ≤ d) : x ≤ Rnd.rnd n d 2 ↔ x * (2 * d) ≤ 2 * n + d := by
  rw [rnd2_eq hn hd, Int.le_ediv_iff_mul_le (by omega)]
theorem rnd2_mono {a n b m : Int} (ha : 0 ≤ a) (hn : 1 ≤ n) (hb : 0 ≤ b) (hm : 1 ≤ m) (h : a * m ≤ b * n) : Rnd.rnd a n 2 ≤ Rnd.rnd b m 2 := by
  rw [le_rnd2 hb hm]
  have h1 := (le_rnd2 ha hn (x := Rnd.rnd a n 2)).1 (Int.le_refl _)
  generalize Rnd.rnd a n 2 = q at *
  have h2 : q * (2 * n) * m ≤ (2 * a + n) * m := Int.mul_le_mul_of_nonneg_right h1 (by omega)
  refine Int.le_of_mul_le_mul_right (a := n) ?_ (by omega)
  have e1 : q * (2 * m) * n = q * (2 * n) * m := by ac_rfl
  rw [Int.add_mul, Int.mul_assoc 2 a m] at h2
  rw [e1, Int.add_mul, Int.mul_assoc 2 b n, Int.mul_comm m n]
  omega
theorem rnd2_all (D : Int) {n : Int} (hD : 0 ≤ D) (hn : 1 ≤ n) : Rnd.rnd (D * n) n 2 = D := by
  rw [rnd2_eq (Int.mul_nonneg hD (by omega)) hn]
  refine (Rnd.uniq (q := D) (r := n) (by omega) (by omega) ?_).1
  rw [Int.mul_left_comm]
theorem rnd2_zero {n : Int} (hn : 1 ≤ n) : Rnd.rnd 0 n 2 = 0 := by
  have := rnd2_all 0 (Int.le_refl _) hn
  rwa [Int.zero_mul] at this
theorem rnd2_le {a n D : Int} (ha : 0 ≤ a) (hn : 1 ≤ n) (hD : 0 ≤ D) (h : a ≤ D * n) : 0 ≤ Rnd.rnd a n 2 ∧ Rnd.rnd a n 2 ≤ D := by
  refine ⟨rnd_ge0 ha hn, ?_⟩
  have h2 := rnd2_mono ha hn (Int.mul_nonneg hD (show 0 ≤ n by omega)) hn (Int.mul_le_mul_of_nonneg_right h (show 0 ≤ n by omega))
  rwa [rnd2_all D hD hn] at h2
/-! ### sums of steps -/
theorem steps_take (F : Int → Int) {n k : Nat} (h : k ≤ n) : (steps F n).take k = steps F k := by
  unfold steps
  rw [← List.map_take, List.take_range, Nat.min_eq_left h]
theorem steps_sum (F : Int → Int) : ∀ k : Nat, (steps F k).sum = F (k : Int) - F 0
  | 0 => by simp [steps]
  | k + 1 => by
    rw [steps_succ, List.sum_append, steps_sum F k]
    have e : ((k + 1 : Nat) : Int) = (k : Int) + 1 := by omega
    rw [e]
    simp
    omega
theorem steps_bd {F : Int → Int} {n : Nat} {M : Int} (hm : ∀ k : Nat, k < n → F (k : Int) ≤ F ((k : Int) + 1)) (hb : ∀ k : Nat, k ≤ n → 0 ≤ F (k : Int) ∧ F (k : Int) ≤ M) (x : Int) (hx : x ∈ steps F n) : 0 ≤ x ∧ x ≤ M := by
  unfold steps at hx
  rw [List.mem_map] at hx
  obtain ⟨k, hk, rfl⟩ := hx
  rw [List.mem_range] at hk
  have h1 := hm k hk
  have h2 := hb k (by omega)
  have h3 := hb (k + 1) (by omega)
  have e : ((k + 1 : Nat) : Int) = (k : Int) + 1 := by omega
  rw [e] at h3
  omega
/-! ### straight -/
def lnS (D n k : Int) : Int := Rnd.rnd (D * k) n 2
theorem lnS_bd {D n k : Int} (hD : 0 ≤ D) (hn : 1 ≤ n) (h0 : 0 ≤ k) (h1 : k ≤ n) : 0 ≤ lnS D n k ∧ lnS D n k ≤ D :=
  rnd2_le (Int.mul_nonneg hD h0) hn hD (Int.mul_le_mul_of_nonneg_left h1 hD)
theorem lnS_mono {D n k : Int} (hD : 0 ≤ D) (hn : 1 ≤ n) (h0 : 0 ≤ k) : lnS D n k ≤ lnS D n (k + 1) :=
  rnd2_mono (Int.mul_nonneg hD h0) hn (Int.mul_nonneg hD (by omega)) hn (Int.mul_le_mul_of_nonneg_right (Int.mul_le_mul_of_nonneg_left (by omega) hD) (by omega))
theorem lnS_0 {D n : Int} (hn : 1 ≤ n) : lnS D n 0 = 0 := by unfold lnS; rw [Int.mul_zero, rnd2_zero hn]
theorem lnS_n {D n : Int} (hD : 0 ≤ D) (hn : 1 ≤ n) : lnS D n n = D := rnd2_all D hD hn
/-! ### digits -/
theorem half2 (k : Int) : 2 * (k * (k - 1) / 2) = k * (k - 1) := by
  have h : k * (k - 1) % 2 = 0 := by
    rw [Int.mul_emod]
    rcases Int.emod_two_eq k with h | h
    · rw [h, Int.zero_mul]; rfl
    · have h2 : (k - 1) % 2 = 0 := by omega
      rw [h2, Int.mul_zero]; rfl
  omega
theorem half2' (k : Int) : 2 * (k * (k + 1) / 2) = k * (k + 1) := by
  have := half2 (k + 1)
  rw [show k + 1 - 1 = k by omega, Int.mul_comm (k + 1) k] at this
  exact this
def lnG (n k : Int) : Int := k * n - k * (k - 1) / 2
def lnT (n : Int) : Int := n * (n + 1) / 2
def lnD (D n k : Int) : Int := Rnd.rnd (D * lnG n k) (lnT n) 2
theorem lnT_bd {n : Int} (h0 : 1 ≤ n) (h1 : n ≤ 40) : 1 ≤ lnT n ∧ lnT n ≤ 820 := by
  have e := half2' n
  unfold lnT
  have h2 : n * (n + 1) ≤ 40 * (n + 1) := Int.mul_le_mul_of_nonneg_right h1 (by omega)
  have h3 : 1 * (n + 1) ≤ n * (n + 1) := Int.mul_le_mul_of_nonneg_right h0 (by omega)
  omega
theorem lnG_step (n k : Int) : lnG n (k + 1) = lnG n k + (n - k) := by
  have e1 := half2 k
  have e2 := half2' k
  have e3 : (k + 1) * n = k * n + n := by rw [Int.add_mul, Int.one_mul]
  have e4 : k * (k + 1) = k * k + k := by rw [Int.mul_add, Int.mul_one]
  have e5 : k * (k - 1) = k * k - k := by rw [Int.mul_sub, Int.mul_one]
  unfold lnG
  rw [show (k + 1) * (k + 1 - 1) = k * (k + 1) by rw [show k + 1 - 1 = k by omega, Int.mul_comm]]
  omega
theorem lnG_0 (n : Int) : lnG n 0 = 0 := by simp [lnG]
theorem lnG_n (n : Int) : lnG n n = lnT n := by
  have e1 := half2 n
  have e2 := half2' n
  have e4 : n * (n + 1) = n * n + n := by rw [Int.mul_add, Int.mul_one]
  have e5 : n * (n - 1) = n * n - n := by rw [Int.mul_sub, Int.mul_one]
  unfold lnG lnT
  omega
theorem lnG_bd {n : Int} : ∀ (k : Nat), (k : Int) ≤ n → 0 ≤ lnG n (k : Int)
  | 0, _ => by rw [Int.ofNat_zero, lnG_0]; omega
  | k + 1, h => by
    have := lnG_bd (n := n) k (by omega)
    rw [show ((k + 1 : Nat) : Int) = (k : Int) + 1 by omega, lnG_step]
    omega
theorem lnG_le {n : Int} : ∀ (j k : Nat), (k : Int) + j = n → lnG n (k : Int) ≤ lnT n
  | 0, k, h => by
    have : (k : Int) = n := by omega
    rw [this, lnG_n]; omega
  | j + 1, k, h => by
    have := lnG_le (n := n) j (k + 1) (by omega)
    rw [show ((k + 1 : Nat) : Int) = (k : Int) + 1 by omega, lnG_step] at this
    omega
theorem lnD_bd {D : Int} {n k : Nat} (hD : 0 ≤ D) (hn : 1 ≤ n) (hn2 : n ≤ 40) (h1 : k ≤ n) : 0 ≤ lnD D n k ∧ lnD D n k ≤ D := by
  have hT := lnT_bd (n := n) (by omega) (by omega)
  exact rnd2_le (Int.mul_nonneg hD (lnG_bd k (by omega))) hT.1 hD (Int.mul_le_mul_of_nonneg_left (lnG_le (n - k) k (by omega)) hD)
theorem lnD_mono {D : Int} {n k : Nat} (hD : 0 ≤ D) (hn : 1 ≤ n) (hn2 : n ≤ 40) (h1 : k < n) : lnD D n k ≤ lnD D n ((k : Int) + 1) := by
  have hT := lnT_bd (n := n) (by omega) (by omega)
  have hs := lnG_step n k
  have hg := lnG_bd (n := n) k (by omega)
  exact rnd2_mono (Int.mul_nonneg hD hg) hT.1 (Int.mul_nonneg hD (by omega)) hT.1 (Int.mul_le_mul_of_nonneg_right (Int.mul_le_mul_of_nonneg_left (by omega) hD) (by omega))
theorem lnD_0 {D n : Int} (h0 : 1 ≤ n) (h1 : n ≤ 40) : lnD D n 0 = 0 := by unfold lnD; rw [lnG_0, Int.mul_zero, rnd2_zero (lnT_bd h0 h1).1]
theorem lnD_n {D n : Int} (hD : 0 ≤ D) (h0 : 1 ≤ n) (h1 : n ≤ 40) : lnD D n n = D := by unfold lnD; rw [lnG_n]; exact rnd2_all D hD (lnT_bd h0 h1).1
theorem lnS_D {D : Int} {n k : Nat} (hD : 0 ≤ D) (hn : 1 ≤ n) (hn2 : n ≤ 40) (h1 : k ≤ n) : lnS D n k ≤ lnD D n k := by
  have hT := lnT_bd (n := n) (by omega) (by omega)
  have hg := lnG_bd (n := n) k (by omega)
  refine rnd2_mono (Int.mul_nonneg hD (by omega)) (by omega) (Int.mul_nonneg hD hg) hT.1 ?_
  rw [Int.mul_assoc, Int.mul_assoc]
  refine Int.mul_le_mul_of_nonneg_left ?_ hD
  have e1 := half2 (k : Int)
  have e2 := half2' (n : Int)
  have hgd : lnG n k = (k : Int) * n - (k : Int) * ((k : Int) - 1) / 2 := rfl
  have hTd : lnT n = (n : Int) * ((n : Int) + 1) / 2 := rfl
  rw [← hTd] at e2
  have e3 : 2 * lnG n k = 2 * ((k : Int) * n) - (k : Int) * ((k : Int) - 1) := by omega
  have e5 : (k : Int) * ((k : Int) - 1) = (k : Int) * k - k := by rw [Int.mul_sub, Int.mul_one]
  have e6 : 2 * ((k : Int) * lnT n) = (k : Int) * ((n : Int) * ((n : Int) + 1)) := by rw [Int.mul_left_comm, e2]
  have e7 : 2 * (lnG n k * n) = (2 * ((k : Int) * n) - ((k : Int) * k - k)) * n := by rw [← Int.mul_assoc, e3, e5]
  have p : 0 ≤ (k : Int) * n * ((n : Int) - k) := Int.mul_nonneg (Int.mul_nonneg (by omega) (by omega)) (by omega)
  have e8 : (k : Int) * ((n : Int) * ((n : Int) + 1)) = (k : Int) * n * n + (k : Int) * n := by rw [← Int.mul_assoc, Int.mul_add, Int.mul_one]
  have e9 : (2 * ((k : Int) * n) - ((k : Int) * k - k)) * n = 2 * ((k : Int) * n * n) - ((k : Int) * n * k - (k : Int) * n) := by
    rw [Int.sub_mul, Int.sub_mul, Int.mul_assoc 2, Int.mul_right_comm (k : Int) k n]
  have e10 : (k : Int) * n * ((n : Int) - k) = (k : Int) * n * n - (k : Int) * n * k := Int.mul_sub _ _ _
  omega
/-! ### falling -/
theorem rnd1_ge {x d : Int} (hd : 1 ≤ d) : x ≤ Rnd.rnd x d 1 * d := by
  have e := Rnd.divmod x d
  have l := Rnd.low (n := x) hd
  rw [Rnd.rnd1]
  split
  · omega
  · rw [Int.add_mul]; omega
theorem fall_step {rest rate left n D : Int} {m : Nat} (h1 : rest ≤ left) (hn : 0 ≤ n) (hD : 0 ≤ D) (h : (left - rest) * n ≤ D * ((m : Int) + 1)) :
    (left - fallD rest rate ((m : Int) + 1) left - rest) * n ≤ D * m := by
  have hc : fallD rest rate ((m : Int) + 1) left = left - rest ∨ Rnd.rnd (left - rest) ((m : Int) + 1) 1 ≤ fallD rest rate ((m : Int) + 1) left := by
    unfold fallD
    generalize Rnd.rnd (left - rest) ((m : Int) + 1) 1 = C
    generalize Rnd.rnd (left * rate) 1000000 2 = A
    by_cases hca : C > A
    · rw [if_pos hca]
      split
      · exact .inl rfl
      · exact .inr (Int.le_refl _)
    · rw [if_neg hca]
      split
      · exact .inl rfl
      · right; omega
  rcases hc with hc | hc
  · rw [hc, show left - (left - rest) - rest = 0 by omega, Int.zero_mul]
    exact Int.mul_nonneg hD (by omega)
  · have g := rnd1_ge (x := left - rest) (d := (m : Int) + 1) (by omega)
    generalize Rnd.rnd (left - rest) ((m : Int) + 1) 1 = C at *
    generalize fallD rest rate ((m : Int) + 1) left = d at *
    rw [show left - d - rest = left - rest - d by omega]
    generalize left - rest = x at *
    have k1 : C * ((m : Int) + 1) ≤ d * ((m : Int) + 1) := Int.mul_le_mul_of_nonneg_right hc (by omega)
    have k2 : (x - d) * ((m : Int) + 1) ≤ x * m := by
      rw [Int.sub_mul, Int.mul_add x, Int.mul_one]; omega
    refine Int.le_of_mul_le_mul_right (a := (m : Int) + 1) ?_ (by omega)
    have k3 : (x - d) * ((m : Int) + 1) * n ≤ x * m * n := Int.mul_le_mul_of_nonneg_right k2 hn
    have k4 : x * n * m ≤ D * ((m : Int) + 1) * m := Int.mul_le_mul_of_nonneg_right h (by omega)
    rw [Int.mul_right_comm (x - d), Int.mul_right_comm D]
    rw [Int.mul_right_comm x] at k3
    omega
theorem fall_pre {rest rate n D : Int} (h0 : 0 ≤ rest) (hr : 0 ≤ rate) (hn : 0 ≤ n) (hD : 0 ≤ D) : ∀ (m k : Nat) (left : Int), k ≤ m → rest ≤ left → (left - rest) * n ≤ D * (m : Int) →
    (left - rest - ((fallL rest rate m left).take k).sum) * n ≤ D * ((m : Int) - k) ∧ 0 ≤ left - rest - ((fallL rest rate m left).take k).sum
  | m, 0, left, _, h1, h => by
    simp only [List.take_zero, List.sum_nil, Int.sub_zero, Int.ofNat_zero]
    exact ⟨h, by omega⟩
  | 0, k + 1, left, hk, h1, h => by omega
  | m + 1, k + 1, left, hk, h1, h => by
    rw [show ((m + 1 : Nat) : Int) = (m : Int) + 1 by omega] at h ⊢
    have hb := fallD_bd (rate := rate) (n := (m : Int) + 1) h0 h1 (by omega) (Int.mul_nonneg (by omega) hr)
    have hs := fall_step (rate := rate) h1 hn hD h
    have ih := fall_pre h0 hr hn hD m k (left - fallD rest rate ((m : Int) + 1) left) (by omega) (by omega) hs
    rw [fallL, List.take_succ_cons, List.sum_cons]
    rw [show (m : Int) + 1 - ((k + 1 : Nat) : Int) = (m : Int) - k by omega]
    rw [show left - rest - (fallD rest rate ((m : Int) + 1) left + (List.take k (fallL rest rate m (left - fallD rest rate ((m : Int) + 1) left))).sum) = left - fallD rest rate ((m : Int) + 1) left - rest - (List.take k (fallL rest rate m (left - fallD rest rate ((m : Int) + 1) left))).sum by omega]
    exact ih
theorem fallL_bd {rest rate : Int} (h0 : 0 ≤ rest) (hr : 0 ≤ rate) : ∀ (m : Nat) (left : Int), rest ≤ left → ∀ x ∈ fallL rest rate m left, 0 ≤ x ∧ x ≤ left - rest
  | 0, _, _, x, hx => by simp [fallL] at hx
  | m + 1, left, h1, x, hx => by
    have hb := fallD_bd (rate := rate) (n := (m : Int) + 1) h0 h1 (by omega) (Int.mul_nonneg (by omega) hr)
    rw [fallL, List.mem_cons] at hx
    rcases hx with rfl | hx
    · exact hb
    · have := fallL_bd h0 hr m (left - fallD rest rate ((m : Int) + 1) left) (by omega) x hx
      omega
/-! ### units of one each -/
theorem psum_ones : ∀ (n k : Nat), k ≤ n → psum (List.replicate n 1) k = k
  | n, 0, _ => rfl
  | n, k + 1, h => by
    rw [psum, psum_ones n k (by omega), List.getD_eq_getElem?_getD, List.getElem?_replicate, if_pos (by omega)]
    simp
theorem unitF_ones {cost rest : Int} {n k : Nat} (h : k ≤ n) : unitF cost rest n (List.replicate n 1) k = (cost - rest) * k / n := by
  unfold unitF capped
  rw [Int.toNat_natCast, psum_ones n k h, if_neg (by omega), Rnd.rnd0]
theorem unitV_ones {cost rest : Int} {n : Nat} (h0 : 0 ≤ rest) (h1 : rest ≤ cost) (h2 : cost ≤ 1000000000000) (hn : 1 ≤ n) (hn2 : n ≤ 40) :
    unitV cost rest n (List.replicate n 1) = (.tup [.vec 0, .int .i64 0], [.vec 3 1 ((steps (fun k => unitF cost rest n (List.replicate n 1) k) n).map (V.int .i64))]) := by
  unfold unitV
  rw [if_pos (offE_t (by omega)), if_pos (by omega), if_pos (by rw [List.length_replicate]; omega), if_neg ?_, List.length_replicate]
  rw [Bool.not_eq_true, List.any_eq_false]
  intro x hx
  rw [List.mem_replicate] at hx
  rw [hx.2]
  decide
structure OffLaw (D : Int) (n k : Nat) (x y z u : List Int) : Prop where
  lx : x.length = n
  ly : y.length = n
  lz : z.length = n
  lu : u.length = n
  bx : ∀ v ∈ x, 0 ≤ v ∧ v ≤ 1000000000001
  bY : ∀ v ∈ y, 0 ≤ v ∧ v ≤ 1000000000001
  bz : ∀ v ∈ z, 0 ≤ v ∧ v ≤ 1000000000001
  bu : ∀ v ∈ u, 0 ≤ v ∧ v ≤ 1000000000001
  sx : x.sum = D
  sy : y.sum = D
  sz : z.sum = D
  su : u.sum = D
  ba : (x.take k).sum ≤ (y.take k).sum
  cd : (u.take k).sum ≤ (z.take k).sum
  ad : 0 ≤ (x.take k).sum - (u.take k).sum ∧ (x.take k).sum - (u.take k).sum ≤ 1
  nn : (0 ≤ (x.take k).sum ∧ (x.take k).sum ≤ 1000000000000) ∧ 0 ≤ (u.take k).sum ∧ (u.take k).sum ≤ 1000000000000
theorem off_law {cost rest rate : Int} {n k : Nat} (h0 : 0 ≤ rest) (h1 : rest ≤ cost) (h2 : cost ≤ 1000000000000) (hr : 0 ≤ rate) (hn : 1 ≤ n) (hn2 : n ≤ 40) (hk : k ≤ n) :
    OffLaw (cost - rest) n k (steps (lnS (cost - rest) n) n) (steps (lnD (cost - rest) n) n) (fallL rest rate n cost) (steps (fun k => unitF cost rest n (List.replicate n 1) k) n) := by
  have hD : 0 ≤ cost - rest := by omega
  have hN : (1 : Int) ≤ n := by omega
  have hpos : (0 : Int) < n := by omega
  have z0 : ((0 : Nat) : Int) = 0 := rfl
  have u0 : unitF cost rest n (List.replicate n 1) 0 = 0 := by
    have := unitF_ones (cost := cost) (rest := rest) (n := n) (k := 0) (Nat.zero_le _)
    rw [z0] at this
    rw [this, Int.mul_zero, Int.zero_ediv]
  have un : unitF cost rest n (List.replicate n 1) n = cost - rest := by
    rw [unitF_ones (Nat.le_refl _), Int.mul_ediv_cancel _ (by omega)]
  have ub : ∀ j : Nat, j ≤ n → 0 ≤ unitF cost rest n (List.replicate n 1) j ∧ unitF cost rest n (List.replicate n 1) j ≤ cost - rest := fun j hj => by
    rw [unitF_ones hj]
    exact ⟨Int.ediv_nonneg (Int.mul_nonneg hD (by omega)) (by omega), Int.ediv_le_of_le_mul hpos (Int.mul_le_mul_of_nonneg_left (by omega) hD)⟩
  have um : ∀ j : Nat, j < n → unitF cost rest n (List.replicate n 1) j ≤ unitF cost rest n (List.replicate n 1) ((j : Int) + 1) := fun j hj => by
    have e : ((j + 1 : Nat) : Int) = (j : Int) + 1 := by omega
    rw [← e, unitF_ones (show j ≤ n by omega), unitF_ones (show j + 1 ≤ n by omega)]
    exact Int.ediv_le_ediv hpos (Int.mul_le_mul_of_nonneg_left (by omega) hD)
  have fp := fun j (hj : j ≤ n) => fall_pre (rest := rest) (rate := rate) (n := (n : Int)) (D := cost - rest) h0 hr (by omega) hD n j cost hj h1 (Int.le_refl _)
  have sx : (steps (lnS (cost - rest) n) n).sum = cost - rest := by rw [steps_sum, lnS_n hD hN, lnS_0 hN, Int.sub_zero]
  have sy : (steps (lnD (cost - rest) n) n).sum = cost - rest := by rw [steps_sum, lnD_n hD hN (by omega), lnD_0 hN (by omega), Int.sub_zero]
  have tx : ((steps (lnS (cost - rest) n) n).take k).sum = lnS (cost - rest) n k := by rw [steps_take _ hk, steps_sum, lnS_0 hN, Int.sub_zero]
  have ty : ((steps (lnD (cost - rest) n) n).take k).sum = lnD (cost - rest) n k := by rw [steps_take _ hk, steps_sum, lnD_0 hN (by omega), Int.sub_zero]
  have tu : ((steps (fun k => unitF cost rest n (List.replicate n 1) k) n).take k).sum = (cost - rest) * k / n := by
    rw [steps_take _ hk, steps_sum]
    simp only [u0]
    rw [unitF_ones hk, Int.sub_zero]
  have e2 : lnS (cost - rest) n k = Rnd.rnd ((cost - rest) * k) n 2 := rfl
  refine ⟨steps_len _ _, steps_len _ _, fallL_len _ _ _ _, steps_len _ _, ?_, ?_, ?_, ?_, sx, sy, ?_, ?_, ?_, ?_, ?_, ?_⟩
  · intro v hv
    have := steps_bd (M := cost - rest) (fun j _ => lnS_mono hD hN (by omega)) (fun j hj => lnS_bd hD hN (by omega) (by omega)) v hv
    omega
  · intro v hv
    have := steps_bd (M := cost - rest) (fun j hj => lnD_mono hD hn hn2 hj) (fun j hj => lnD_bd hD hn hn2 hj) v hv
    omega
  · intro v hv
    have := fallL_bd h0 hr n cost h1 v hv
    omega
  · intro v hv
    have := steps_bd (F := fun k => unitF cost rest n (List.replicate n 1) k) (M := cost - rest) um ub v hv
    omega
  · have h := fp n (Nat.le_refl _)
    rw [List.take_of_length_le (by rw [fallL_len]; exact Nat.le_refl _), Int.sub_self, Int.mul_zero] at h
    have h3 : ¬ 0 < cost - rest - (fallL rest rate n cost).sum := fun hh => by
      have := Int.mul_pos hh hpos
      omega
    omega
  · rw [steps_sum]
    simp only [u0]
    rw [un, Int.sub_zero]
  · rw [tx, ty]
    exact lnS_D hD hn hn2 hk
  · rw [tu]
    have h := (fp k hk).1
    refine Int.ediv_le_of_le_mul hpos ?_
    rw [Int.sub_mul, Int.mul_sub] at h
    omega
  · rw [tx, tu, e2, Rnd.rnd2]
    split <;> omega
  · rw [tx, tu, ← unitF_ones hk]
    have a := lnS_bd (n := (n : Int)) (k := (k : Int)) hD hN (by omega) (by omega)
    have b := ub k hk
    omega
end Go.Proofs.YtdmkmbaaemhhhaaDoor
