/-
  Steps of the proof of TopDesk: EvB FallE OffP Fill LnE.
-/
import Derived.Test.YtcmpjagpggjfiaaGreatDoorT14
import Derived.Test.YtcmpjagpggjfiaaGreatDoorT09
set_option linter.unusedVariables false
set_option linter.unusedSimpArgs false
section
namespace Go.Proofs.YtcmpjagpggjfiaaGreatDoor
open Go Go.Ev Go.RowKit
def rndF : List V → Option (V × List Ev.Blk)
 | [.int .i64 n, .int .i64 d, .int .i64 way] => if -4000000000000000000 ≤ n ∧ n ≤ 4000000000000000000 ∧ 1 ≤ d ∧ d ≤ 4000000000000000000 ∧ 0 ≤ way ∧ way ≤ 3 then some (.int .i64 (Rnd.rnd n d way), []) else none
 | _ => none
theorem rndF_eq {n d way : Int} (h : -4000000000000000000 ≤ n ∧ n ≤ 4000000000000000000 ∧ 1 ≤ d ∧ d ≤ 4000000000000000000 ∧ 0 ≤ way ∧ way ≤ 3) : rndF [.int .i64 n, .int .i64 d, .int .i64 way] = some (.int .i64 (Rnd.rnd n d way), []) := by
 unfold rndF; simp only [h, and_self, if_true]
theorem rounded_snd {J : World → Prop} : Snd Tryz.prog J 123 rndF := by
 intro args r bs h
 unfold rndF at h
 split at h
 ·rename_i n d way
  split at h
  ·rename_i hc
   obtain ⟨rfl, rfl⟩ := some_pair h
   refine sound_plain (callOk Tryz.func123 rfl rfl) rfl rfl fun w _ => (rounded_any n d way w hc.1 hc.2.1 hc.2.2.1 hc.2.2.2.1 hc.2.2.2.2.1 hc.2.2.2.2.2).mono ?_
   rintro e w' ⟨he, k, rfl⟩
   exact ⟨he, below_drewN (.refl _ _) k⟩
  ·cases h
 ·cases h
def steps (F : Int → Int) (n : Nat) : List Int := (List.range n).map fun k : Nat => F ((k : Int) + 1) - F (k : Int)
theorem steps_succ (F : Int → Int) (k : Nat) : steps F (k + 1) = steps F k ++ [F ((k : Int) + 1) - F (k : Int)] := by
 simp [steps, List.range_succ]
theorem steps_len (F : Int → Int) (k : Nat) : (steps F k).length = k := by simp [steps]
end Go.Proofs.YtcmpjagpggjfiaaGreatDoor
end
section
namespace Go.Proofs.YtcmpjagpggjfiaaGreatDoor
open Go Go.Ev Go.RowKit
set_option maxHeartbeats 4000000
def offE (c r n : Int) : Int := if 0 ≤ c ∧ c ≤ 1000000000000 ∧ 0 ≤ r ∧ r ≤ c ∧ 1 ≤ n ∧ n ≤ 40 then 0 else 1
theorem offE_t {c r n : Int} (h : 0 ≤ c ∧ c ≤ 1000000000000 ∧ 0 ≤ r ∧ r ≤ c ∧ 1 ≤ n ∧ n ≤ 40) : offE c r n = 0 := by unfold offE; rw [if_pos h]
theorem offE_f {c r n : Int} (h : ¬ (0 ≤ c ∧ c ≤ 1000000000000 ∧ 0 ≤ r ∧ r ≤ c ∧ 1 ≤ n ∧ n ≤ 40)) : offE c r n = 1 := by unfold offE; rw [if_neg h]
def offF : List V → Option (V × List Ev.Blk)
 | [.int .i64 c, .int .i64 r, .int .i64 n] => some (.int .i64 (offE c r n), [])
 | _ => none
theorem offF_eq (c r n : Int) : offF [.int .i64 c, .int .i64 r, .int .i64 n] = some (.int .i64 (offE c r n), []) := rfl
theorem look_snd {J : World → Prop} (hJ : Stable J) : Snd Tryz.prog J 124 offF := by
 intro args r bs h
 unfold offF at h
 split at h
 ·rename_i c r n
  obtain ⟨rfl, rfl⟩ := some_pair h
  refine evFn (l := []) (nv := nv0) (fz := fz0) (dr := dr124) (dd := dd124) (lam := []) (ms := ms0) trivial hJ trivial ms0_ok Tryz.func124 rfl rfl (Nat.le_of_ble_eq_true rfl) (Nat.le_of_ble_eq_true rfl) drOk124 ?_
  dsimp only [Tryz.f124, dr124, dd124, Option.getD_some]
  refine ev_start ?_
  by_cases h1 : c < 0
  ·simp (disch := omega) only [h1, offE_f (c := c) (r := r) (n := n) (by omega), go_sem, evP_D, evD_guard, evD_cons, evD_zero, evD_nil]
  by_cases h2 : 1000000000000 < c
  ·simp (disch := omega) only [h1, h2, offE_f (c := c) (r := r) (n := n) (by omega), go_sem, evP_D, evD_guard, evD_cons, evD_zero, evD_nil]
  by_cases h3 : r < 0
  ·simp (disch := omega) only [h1, h2, h3, offE_f (c := c) (r := r) (n := n) (by omega), go_sem, evP_D, evD_guard, evD_cons, evD_zero, evD_nil]
  by_cases h4 : c < r
  ·simp (disch := omega) only [h1, h2, h3, h4, offE_f (c := c) (r := r) (n := n) (by omega), go_sem, evP_D, evD_guard, evD_cons, evD_zero, evD_nil]
  by_cases h5 : n < 1
  ·simp (disch := omega) only [h1, h2, h3, h4, h5, offE_f (c := c) (r := r) (n := n) (by omega), go_sem, evP_D, evD_guard, evD_cons, evD_zero, evD_nil]
  by_cases h6 : 40 < n
  ·simp (disch := omega) only [h1, h2, h3, h4, h5, h6, offE_f (c := c) (r := r) (n := n) (by omega), go_sem, evP_D, evD_guard, evD_cons, evD_zero, evD_nil]
  simp (disch := omega) only [h1, h2, h3, h4, h5, h6, offE_t (c := c) (r := r) (n := n) (by omega), go_sem, evP_D, evD_guard, evD_cons, evD_zero, evD_nil]
 ·cases h
theorem rnd_ge0 {n d way : Int} (hn : 0 ≤ n) (hd : 1 ≤ d) : 0 ≤ Rnd.rnd n d way := by
 have h := Int.ediv_nonneg hn (show 0 ≤ d by omega)
 unfold Rnd.rnd
 split <;> (try split) <;> (try split) <;> (try split) <;> (try split) <;> omega
end Go.Proofs.YtcmpjagpggjfiaaGreatDoor
end
section
namespace Go.Proofs.YtcmpjagpggjfiaaGreatDoor
open Go Go.Ev
theorem rnd2_eq {n d : Int} (hn : 0 ≤ n) (hd : 1 ≤ d) : Rnd.rnd n d 2 = (2 * n + d) / (2 * d) := by
 have hm : ∀ x, x * (2 * d) = 2 * (x * d) := fun x => Int.mul_left_comm _ _ _
 rw [Rnd.rnd2]
 by_cases h0 : n = 0
 ·subst h0
  rw [Int.zero_emod, Int.zero_ediv, if_neg (by omega), Int.ediv_eq_zero_of_lt (by omega) (by omega)]
 have e := Rnd.divmod n d
 have l := Rnd.low (n := n) hd
 generalize n / d = q at *
 generalize n % d = r at *
 split
 ·rename_i h
  refine (Rnd.uniq (d := 2 * d) (q := q + 1) (r := 2 * r - d) (by omega) (by omega) ?_).1.symm
  rw [hm, Int.add_mul]; omega
 ·rename_i h
  refine (Rnd.uniq (d := 2 * d) (q := q) (r := 2 * r + d) (by omega) (by omega) ?_).1.symm
  rw [hm]; omega
theorem le_rnd2 {n d x : Int} (hn : 0 ≤ n) (hd : 1 ≤ d) : x ≤ Rnd.rnd n d 2 ↔ x * (2 * d) ≤ 2 * n + d := by
 rw [rnd2_eq hn hd, Int.le_ediv_iff_mul_le (by omega)]
theorem rnd2_mono {a n b m : Int} (ha : 0 ≤ a) (hn : 1 ≤ n) (hb : 0 ≤ b) (hm : 1 ≤ m) (h : a * m ≤ b * n) : Rnd.rnd a n 2 ≤ Rnd.rnd b m 2 := by
 rw [le_rnd2 hb hm]
 have h1 := (le_rnd2 ha hn (x := Rnd.rnd a n 2)).1 (Int.le_refl _)
 generalize Rnd.rnd a n 2 = q at *
 have h2 : q * (2 * n) * m ≤ (2 * a + n) * m := Int.mul_le_mul_of_nonneg_right h1 (by omega)
 refine Int.le_of_mul_le_mul_right (a := n) ?_ (by omega)
 have e1 : q * (2 * m) * n = q * (2 * n) * m := by ac_rfl
 rw [Int.add_mul, Int.mul_assoc 2 a m] at h2
 rw [e1, Int.add_mul, Int.mul_assoc 2 b n, Int.mul_comm m n]
 omega
theorem rnd2_all (D : Int) {n : Int} (hD : 0 ≤ D) (hn : 1 ≤ n) : Rnd.rnd (D * n) n 2 = D := by
 rw [rnd2_eq (Int.mul_nonneg hD (by omega)) hn]
 refine (Rnd.uniq (q := D) (r := n) (by omega) (by omega) ?_).1
 rw [Int.mul_left_comm]
theorem rnd2_zero {n : Int} (hn : 1 ≤ n) : Rnd.rnd 0 n 2 = 0 := by
 have := rnd2_all 0 (Int.le_refl _) hn
 rwa [Int.zero_mul] at this
theorem rnd2_le {a n D : Int} (ha : 0 ≤ a) (hn : 1 ≤ n) (hD : 0 ≤ D) (h : a ≤ D * n) : 0 ≤ Rnd.rnd a n 2 ∧ Rnd.rnd a n 2 ≤ D := by
 refine ⟨rnd_ge0 ha hn, ?_⟩
 have h2 := rnd2_mono ha hn (Int.mul_nonneg hD (show 0 ≤ n by omega)) hn (Int.mul_le_mul_of_nonneg_right h (show 0 ≤ n by omega))
 rwa [rnd2_all D hD hn] at h2
/-! ### sums of steps -/
theorem steps_sum (F : Int → Int) : ∀ k : Nat, (steps F k).sum = F (k : Int) - F 0
 | 0 => by simp [steps]
 | k + 1 => by
  rw [steps_succ, List.sum_append, steps_sum F k]
  have e : ((k + 1 : Nat) : Int) = (k : Int) + 1 := by omega
  rw [e]
  simp
  omega
theorem steps_bd {F : Int → Int} {n : Nat} {M : Int} (hm : ∀ k : Nat, k < n → F (k : Int) ≤ F ((k : Int) + 1)) (hb : ∀ k : Nat, k ≤ n → 0 ≤ F (k : Int) ∧ F (k : Int) ≤ M) (x : Int) (hx : x ∈ steps F n) : 0 ≤ x ∧ x ≤ M := by
 unfold steps at hx
 rw [List.mem_map] at hx
 obtain ⟨k, hk, rfl⟩ := hx
 rw [List.mem_range] at hk
 have h1 := hm k hk
 have h2 := hb k (by omega)
 have h3 := hb (k + 1) (by omega)
 have e : ((k + 1 : Nat) : Int) = (k : Int) + 1 := by omega
 rw [e] at h3
 omega
/-! ### straight -/
def lnS (D n k : Int) : Int := Rnd.rnd (D * k) n 2
theorem lnS_bd {D n k : Int} (hD : 0 ≤ D) (hn : 1 ≤ n) (h0 : 0 ≤ k) (h1 : k ≤ n) : 0 ≤ lnS D n k ∧ lnS D n k ≤ D :=
 rnd2_le (Int.mul_nonneg hD h0) hn hD (Int.mul_le_mul_of_nonneg_left h1 hD)
theorem lnS_mono {D n k : Int} (hD : 0 ≤ D) (hn : 1 ≤ n) (h0 : 0 ≤ k) : lnS D n k ≤ lnS D n (k + 1) :=
 rnd2_mono (Int.mul_nonneg hD h0) hn (Int.mul_nonneg hD (by omega)) hn (Int.mul_le_mul_of_nonneg_right (Int.mul_le_mul_of_nonneg_left (by omega) hD) (by omega))
theorem lnS_0 {D n : Int} (hn : 1 ≤ n) : lnS D n 0 = 0 := by unfold lnS; rw [Int.mul_zero, rnd2_zero hn]
theorem lnS_n {D n : Int} (hD : 0 ≤ D) (hn : 1 ≤ n) : lnS D n n = D := rnd2_all D hD hn
/-! ### digits -/
theorem half2 (k : Int) : 2 * (k * (k - 1) / 2) = k * (k - 1) := by
 have h : k * (k - 1) % 2 = 0 := by
  rw [Int.mul_emod]
  rcases Int.emod_two_eq k with h | h
  ·rw [h, Int.zero_mul]; rfl
  ·have h2 : (k - 1) % 2 = 0 := by omega
   rw [h2, Int.mul_zero]; rfl
 omega
theorem half2' (k : Int) : 2 * (k * (k + 1) / 2) = k * (k + 1) := by
 have := half2 (k + 1)
 rw [show k + 1 - 1 = k by omega, Int.mul_comm (k + 1) k] at this
 exact this
def lnG (n k : Int) : Int := k * n - k * (k - 1) / 2
def lnT (n : Int) : Int := n * (n + 1) / 2
def lnD (D n k : Int) : Int := Rnd.rnd (D * lnG n k) (lnT n) 2
theorem lnT_bd {n : Int} (h0 : 1 ≤ n) (h1 : n ≤ 40) : 1 ≤ lnT n ∧ lnT n ≤ 820 := by
 have e := half2' n
 unfold lnT
 have h2 : n * (n + 1) ≤ 40 * (n + 1) := Int.mul_le_mul_of_nonneg_right h1 (by omega)
 have h3 : 1 * (n + 1) ≤ n * (n + 1) := Int.mul_le_mul_of_nonneg_right h0 (by omega)
 omega
theorem lnG_step (n k : Int) : lnG n (k + 1) = lnG n k + (n - k) := by
 have e1 := half2 k
 have e2 := half2' k
 have e3 : (k + 1) * n = k * n + n := by rw [Int.add_mul, Int.one_mul]
 have e4 : k * (k + 1) = k * k + k := by rw [Int.mul_add, Int.mul_one]
 have e5 : k * (k - 1) = k * k - k := by rw [Int.mul_sub, Int.mul_one]
 unfold lnG
 rw [show (k + 1) * (k + 1 - 1) = k * (k + 1) by rw [show k + 1 - 1 = k by omega, Int.mul_comm]]
 omega
theorem lnG_0 (n : Int) : lnG n 0 = 0 := by simp [lnG]
theorem lnG_n (n : Int) : lnG n n = lnT n := by
 have e1 := half2 n
 have e2 := half2' n
 have e4 : n * (n + 1) = n * n + n := by rw [Int.mul_add, Int.mul_one]
 have e5 : n * (n - 1) = n * n - n := by rw [Int.mul_sub, Int.mul_one]
 unfold lnG lnT
 omega
theorem lnG_bd {n : Int} : ∀ (k : Nat), (k : Int) ≤ n → 0 ≤ lnG n (k : Int)
 | 0, _ => by rw [Int.ofNat_zero, lnG_0]; omega
 | k + 1, h => by
  have := lnG_bd (n := n) k (by omega)
  rw [show ((k + 1 : Nat) : Int) = (k : Int) + 1 by omega, lnG_step]
  omega
theorem lnG_le {n : Int} : ∀ (j k : Nat), (k : Int) + j = n → lnG n (k : Int) ≤ lnT n
 | 0, k, h => by
  have : (k : Int) = n := by omega
  rw [this, lnG_n]; omega
 | j + 1, k, h => by
  have := lnG_le (n := n) j (k + 1) (by omega)
  rw [show ((k + 1 : Nat) : Int) = (k : Int) + 1 by omega, lnG_step] at this
  omega
theorem lnD_bd {D : Int} {n k : Nat} (hD : 0 ≤ D) (hn : 1 ≤ n) (hn2 : n ≤ 40) (h1 : k ≤ n) : 0 ≤ lnD D n k ∧ lnD D n k ≤ D := by
 have hT := lnT_bd (n := n) (by omega) (by omega)
 exact rnd2_le (Int.mul_nonneg hD (lnG_bd k (by omega))) hT.1 hD (Int.mul_le_mul_of_nonneg_left (lnG_le (n - k) k (by omega)) hD)
theorem lnD_mono {D : Int} {n k : Nat} (hD : 0 ≤ D) (hn : 1 ≤ n) (hn2 : n ≤ 40) (h1 : k < n) : lnD D n k ≤ lnD D n ((k : Int) + 1) := by
 have hT := lnT_bd (n := n) (by omega) (by omega)
 have hs := lnG_step n k
 have hg := lnG_bd (n := n) k (by omega)
 exact rnd2_mono (Int.mul_nonneg hD hg) hT.1 (Int.mul_nonneg hD (by omega)) hT.1 (Int.mul_le_mul_of_nonneg_right (Int.mul_le_mul_of_nonneg_left (by omega) hD) (by omega))
/-! ### falling -/
/-! ### units of one each -/
structure OffLaw (D : Int) (n k : Nat) (x y z u : List Int) : Prop where
 lx : x.length = n
 ly : y.length = n
 lz : z.length = n
 lu : u.length = n
 bx : ∀ v ∈ x, 0 ≤ v ∧ v ≤ 1000000000001
 bY : ∀ v ∈ y, 0 ≤ v ∧ v ≤ 1000000000001
 bz : ∀ v ∈ z, 0 ≤ v ∧ v ≤ 1000000000001
 bu : ∀ v ∈ u, 0 ≤ v ∧ v ≤ 1000000000001
 sx : x.sum = D
 sy : y.sum = D
 sz : z.sum = D
 su : u.sum = D
 ba : (x.take k).sum ≤ (y.take k).sum
 cd : (u.take k).sum ≤ (z.take k).sum
 ad : 0 ≤ (x.take k).sum - (u.take k).sum ∧ (x.take k).sum - (u.take k).sum ≤ 1
 nn : (0 ≤ (x.take k).sum ∧ (x.take k).sum ≤ 1000000000000) ∧ 0 ≤ (u.take k).sum ∧ (u.take k).sum ≤ 1000000000000
end Go.Proofs.YtcmpjagpggjfiaaGreatDoor
end
section
namespace Go.Proofs.YtcmpjagpggjfiaaGreatDoor
open Go Go.Ev
/-! ### rows that are filled one by one -/
def fillL {α : Type} (d : α) (f : Nat → α) (n k : Nat) : List α := (List.range n).map fun i => if i < k then f i else d
theorem fillL_zero {α : Type} (d : α) (f : Nat → α) (n : Nat) : fillL d f n 0 = List.replicate n d := by
 apply List.ext_getElem?
 intro i
 by_cases h : i < n <;> simp [fillL, h, List.getElem?_replicate]
theorem fillL_len {α : Type} (d : α) (f : Nat → α) (n k : Nat) : (fillL d f n k).length = n := by simp [fillL]
theorem fillL_set {α : Type} (d : α) (f : Nat → α) {n k : Nat} : (fillL d f n k).set k (f k) = fillL d f n (k + 1) := by
 apply List.ext_getElem?
 intro i
 rw [List.getElem?_set]
 by_cases e : k = i
 ·subst e
  rw [if_pos rfl, fillL_len]
  by_cases hn : k < n
  ·rw [if_pos hn]; simp [fillL, hn]
  ·rw [if_neg hn]; simp [fillL, hn]
 ·rw [if_neg e]
  by_cases hn : i < n
  ·have : (i < k + 1) ↔ (i < k) := by omega
   simp [fillL, hn, this]
  ·simp [fillL, hn]
theorem fillL_end {α : Type} (d : α) (f : Nat → α) (n : Nat) : fillL d f n n = (List.range n).map f := by
 unfold fillL
 exact List.map_congr_left fun i hi => by rw [List.mem_range] at hi; rw [if_pos hi]
theorem fillL_at {α : Type} (d : α) (f : Nat → α) {n k i : Nat} (h : i < n) (hk : ¬ i < k) : (fillL d f n k)[i]? = some d := by simp [fillL, h, hk]
theorem fillL_map {α β : Type} (g : α → β) (d : α) (f : Nat → α) (n k : Nat) : (fillL d f n k).map g = fillL (g d) (fun i => g (f i)) n k := by
 unfold fillL
 rw [List.map_map]
 exact List.map_congr_left fun i _ => by simp only [Function.comp]; split <;> rfl
end Go.Proofs.YtcmpjagpggjfiaaGreatDoor
end
section
namespace Go.Proofs.YtcmpjagpggjfiaaGreatDoor
open Go Go.Ev Go.RowKit
set_option maxHeartbeats 4000000
theorem parts_sound {J : World → Prop} (hJ : Stable J) (g : FuncId) (cs : List V) (G : List V → Option (V × List Ev.Blk)) (hG : Snd Tryz.prog J g G) (hd : V.dataL cs = true) (F : Int → Int) (n : Nat) (hn : n ≤ 1000)
  (hp : ∀ k : Nat, k ≤ n → G (.int .i64 k :: cs) = some (.int .i64 (F k), [])) (hb : ∀ k : Nat, k ≤ n → -4000000000000000000 ≤ F k ∧ F k ≤ 4000000000000000000) :
  SoundAt Tryz.prog J 125 [.int .i64 n, .fn g cs] (.vec 0) [.vec 3 1 ((steps F n).map (V.int .i64))] := by
 have f1 : (0 : Int) ≤ n := by omega
 have f2 : (n : Int) * 8 ≤ 140737488355328 := by omega
 have f3 : (n : Int) ≤ 9223372036854775807 := by omega
 have hst : steps F n = (List.range n).map fun k : Nat => F ((k : Int) + 1) - F (k : Int) := rfl
 refine evFn (l := [(g, G)]) (nv := nv0) (fz := fz0) (dr := dr125) (dd := dd125) (lam := []) (ms := ms0) ⟨hG, trivial⟩ hJ trivial ms0_ok Tryz.func125 rfl rfl (Nat.le_of_ble_eq_true rfl) (Nat.le_of_ble_eq_true rfl) drOk125 ?_
 dsimp only [Tryz.f125, dr125, dd125, Option.getD_some]
 refine ev_start ?_
 simp (disch := omega) only [makeV, f1, f2, f3, Int.toNat_natCast, List.length_replicate, go_sem, evP_D, evD_guard, evD_cons, evD_zero, evD_nil]
 refine evQ_loop [1, 5, 10, 11] [64] (fun σ => ∃ (k : Nat), k ≤ n ∧ σ = ⟨[(1, .fn g cs), (5, .vec 64), (10, .int .i64 n), (11, .int .i64 k)],
   [(64, .vec 3 1 ((fillL 0 (fun k : Nat => F ((k : Int) + 1) - F (k : Int)) n k).map (V.int .i64)))]⟩)
   (fun σ => n - (match Ev.look 11 σ.env with | some (.int _ n) => n.toNat | _ => 0)) ?_ ?_
 ·simp only [refsInL_data hd, go_sem, evP_D, evD_guard, evD_cons, evD_zero, evD_nil]
  exact ⟨0, Nat.zero_le _, by rw [fillL_map, fillL_zero]; rfl⟩
 ·rintro σ ⟨k, hk, rfl⟩
  by_cases hlt : k < n
  ·have hlt' : (k : Int) < n := by omega
   have h1 := hp (k + 1) hlt
   have h0 := hp k hk
   have b1 := hb (k + 1) hlt
   have b0 := hb k hk
   have e1 : ((k + 1 : Nat) : Int) = (k : Int) + 1 := by omega
   rw [e1] at h1 b1
   have hset := fillL_set (0 : Int) (fun k : Nat => F ((k : Int) + 1) - F (k : Int)) (n := n) (k := k)
   have hat := fillL_at (0 : Int) (fun k : Nat => F ((k : Int) + 1) - F (k : Int)) (n := n) (k := k) hlt (Nat.lt_irrefl k)
   simp (disch := (first | omega | assumption)) only [hlt', h0, h1, idx_nat, List.length_map, List.getElem?_map, hat, fillL_len, hd, refsInL_data hd, scrubL_data hd, V.dataL, V.data, go_sem, evP_D, evD_guard, evD_cons, evD_zero, evD_nil]
   exact ⟨⟨k + 1, hlt, by rw [← hset, List.map_set]; rfl⟩, by
    have e3 : ((k : Int) + 1).toNat = k + 1 := by omega
    rw [e3, Int.toNat_natCast]; omega⟩
  ·have hk' : k = n := by omega
   subst hk'
   have hlt' : ¬ ((k : Int) < k) := by omega
   simp (disch := (first | omega | assumption)) only [hlt', hst, fillL_end, go_sem, evP_D, evD_guard, evD_cons, evD_zero, evD_nil]
def ls1C (cost rest n : Int) : List V := [.rd (.int .i64 cost) 0, .rd (.int .i64 rest) 0, .rd (.int .i64 n) 0]
def ls1F : List V → Option (V × List Ev.Blk)
 | [.int .i64 k, .rd (.int .i64 cost) 0, .rd (.int .i64 rest) 0, .rd (.int .i64 n) 0] => if (0 ≤ rest ∧ rest ≤ cost ∧ cost ≤ 1000000000000) ∧ 1 ≤ n ∧ n ≤ 40 ∧ 0 ≤ k ∧ k ≤ n then some (.int .i64 (lnS (cost - rest) n k), []) else none
 | _ => none
theorem ls1F_eq {cost rest n k : Int} (h : (0 ≤ rest ∧ rest ≤ cost ∧ cost ≤ 1000000000000) ∧ 1 ≤ n ∧ n ≤ 40 ∧ 0 ≤ k ∧ k ≤ n) : ls1F (.int .i64 k :: ls1C cost rest n) = some (.int .i64 (lnS (cost - rest) n k), []) := if_pos h
theorem lnm_bd {D k : Int} (h0 : 0 ≤ D) (h1 : D ≤ 1000000000000) (h2 : 0 ≤ k) (h3 : k ≤ 1000) : 0 ≤ D * k ∧ D * k ≤ 1000000000000000 := by
 have k1 : D * k ≤ 1000000000000 * k := Int.mul_le_mul_of_nonneg_right h1 h2
 have k2 : 0 ≤ D * k := Int.mul_nonneg h0 h2
 omega
theorem ls1_snd {J : World → Prop} (hJ : Stable J) : Snd Tryz.prog J 126 ls1F := by
 intro args r bs h
 unfold ls1F at h
 split at h
 ·rename_i k cost rest n
  split at h
  ·rename_i hc
   obtain ⟨rfl, rfl⟩ := some_pair h
   have hm := lnm_bd (D := cost - rest) (k := k) (by omega) (by omega) (by omega) (by omega)
   have hr : rndF [.int .i64 ((cost - rest) * k), .int .i64 n, .int .i64 2] = some (.int .i64 (lnS (cost - rest) n k), []) := rndF_eq (by omega)
   refine evFn (l := [(123, rndF)]) (nv := nv0) (fz := fz0) (dr := dr126) (dd := dd126) (lam := []) (ms := ms0) ⟨rounded_snd, trivial⟩ hJ trivial ms0_ok Tryz.func126 rfl rfl (Nat.le_of_ble_eq_true rfl) (Nat.le_of_ble_eq_true rfl) drOk126 ?_
   dsimp only [Tryz.f126, dr126, dd126, Option.getD_some]
   refine ev_start ?_
   simp (disch := omega) only [hr, go_sem, evP_D, evD_guard, evD_cons, evD_zero, evD_nil]
  ·cases h
 ·cases h
theorem straight_sound {J : World → Prop} (hJ : Stable J) (cost rest : Int) (n : Nat) (h0 : 0 ≤ rest) (h1 : rest ≤ cost) (h2 : cost ≤ 1000000000000) (hn : 1 ≤ n) (hn2 : n ≤ 40) :
  SoundAt Tryz.prog J 58 [.int .i64 cost, .int .i64 rest, .int .i64 n] (.tup [.vec 0, .int .i64 0]) [.vec 3 1 ((steps (lnS (cost - rest) n) n).map (V.int .i64))] := by
 have hP := parts_sound hJ 126 (ls1C cost rest n) ls1F (ls1_snd hJ) rfl (lnS (cost - rest) n) n (by omega) (fun k hk => ls1F_eq (by omega)) (fun k hk => by
  have := lnS_bd (D := cost - rest) (n := n) (k := k) (by omega) (by omega) (by omega) (by omega)
  omega)
 have hL := offE_t (c := cost) (r := rest) (n := (n : Int)) (by omega)
 unfold ls1C at hP
 refine evFn (l := [(124, offF), (125, at1 _ (_, [.vec 3 1 ((steps (lnS (cost - rest) n) n).map (V.int .i64))]))]) (nv := nv0) (fz := fz0) (dr := dr58) (dd := dd58) (lam := []) (ms := ms0) ⟨look_snd hJ, at1_snd hP, trivial⟩ hJ trivial ms0_ok Tryz.func58 rfl rfl (Nat.le_of_ble_eq_true rfl) (Nat.le_of_ble_eq_true rfl) drOk58 ?_
 dsimp only [Tryz.f58, dr58, dd58, Option.getD_some]
 refine ev_start ?_
 simp (disch := omega) only [offF_eq, hL, at1_eq, List.mapM_cons, List.mapM_nil, Option.bind_eq_bind, Option.pure_def, Option.bind_some, go_sem, evP_D, evD_guard, evD_cons, evD_zero, evD_nil]
def ld1C (cost rest n all : Int) : List V := [.rd (.int .i64 cost) 0, .rd (.int .i64 rest) 0, .rd (.int .i64 n) 0, .rd (.int .i64 all) 0]
def ld1F : List V → Option (V × List Ev.Blk)
 | [.int .i64 k, .rd (.int .i64 cost) 0, .rd (.int .i64 rest) 0, .rd (.int .i64 n) 0, .rd (.int .i64 all) 0] => if (0 ≤ rest ∧ rest ≤ cost ∧ cost ≤ 1000000000000) ∧ 1 ≤ n ∧ n ≤ 40 ∧ 0 ≤ k ∧ k ≤ n ∧ all = lnT n then some (.int .i64 (lnD (cost - rest) n k), []) else none
 | _ => none
theorem ld1F_eq {cost rest n k : Int} (h : (0 ≤ rest ∧ rest ≤ cost ∧ cost ≤ 1000000000000) ∧ 1 ≤ n ∧ n ≤ 40 ∧ 0 ≤ k ∧ k ≤ n) : ld1F (.int .i64 k :: ld1C cost rest n (lnT n)) = some (.int .i64 (lnD (cost - rest) n k), []) := if_pos ⟨h.1, h.2.1, h.2.2.1, h.2.2.2.1, h.2.2.2.2, rfl⟩
theorem ld1_snd {J : World → Prop} (hJ : Stable J) : Snd Tryz.prog J 127 ld1F := by
 intro args r bs h
 unfold ld1F at h
 split at h
 ·rename_i k cost rest n all
  split at h
  ·rename_i hc
   obtain ⟨rfl, rfl⟩ := some_pair h
   obtain ⟨hc0, hc1, hc2, hc3, hc4, rfl⟩ := hc
   have hT := lnT_bd hc1 hc2
   obtain ⟨k, rfl⟩ : ∃ m : Nat, k = m := ⟨k.toNat, by omega⟩
   obtain ⟨n, rfl⟩ : ∃ m : Nat, n = m := ⟨n.toNat, by omega⟩
   have hg0 := lnG_bd (n := n) k (by omega)
   have hg1 := lnG_le (n := n) (n - k) k (by omega)
   have hm := lnm_bd (D := cost - rest) (k := lnG n k) (by omega) (by omega) hg0 (by omega)
   have hr : rndF [.int .i64 ((cost - rest) * lnG n k), .int .i64 (lnT n), .int .i64 2] = some (.int .i64 (lnD (cost - rest) n k), []) := rndF_eq (by omega)
   have p1 : 0 ≤ (k : Int) * n ∧ (k : Int) * n ≤ 1600 := by
    have a1 := Int.mul_le_mul (show (k : Int) ≤ 40 by omega) (show (n : Int) ≤ 40 by omega) (by omega) (by omega)
    exact ⟨Int.mul_nonneg (by omega) (by omega), by omega⟩
   have p2 : 0 ≤ (k : Int) * ((k : Int) - 1) ∧ (k : Int) * ((k : Int) - 1) ≤ 1600 := by
    by_cases hk0 : k = 0
    ·subst hk0; simp
    ·have a1 := Int.mul_le_mul (show (k : Int) ≤ 40 by omega) (show (k : Int) - 1 ≤ 40 by omega) (by omega) (by omega)
     exact ⟨Int.mul_nonneg (by omega) (by omega), by omega⟩
   have t2 : ((k : Int) * ((k : Int) - 1)).tdiv 2 = (k : Int) * ((k : Int) - 1) / 2 := Int.tdiv_eq_ediv_of_nonneg p2.1
   have hgd : (k : Int) * n - (k : Int) * ((k : Int) - 1) / 2 = lnG n k := rfl
   refine evFn (l := [(123, rndF)]) (nv := nv0) (fz := fz0) (dr := dr127) (dd := dd127) (lam := []) (ms := ms0) ⟨rounded_snd, trivial⟩ hJ trivial ms0_ok Tryz.func127 rfl rfl (Nat.le_of_ble_eq_true rfl) (Nat.le_of_ble_eq_true rfl) drOk127 ?_
   dsimp only [Tryz.f127, dr127, dd127, Option.getD_some]
   refine ev_start ?_
   simp (disch := omega) only [t2, hgd, hr, go_sem, evP_D, evD_guard, evD_cons, evD_zero, evD_nil]
  ·cases h
 ·cases h
theorem digits_sound {J : World → Prop} (hJ : Stable J) (cost rest : Int) (n : Nat) (h0 : 0 ≤ rest) (h1 : rest ≤ cost) (h2 : cost ≤ 1000000000000) (hn : 1 ≤ n) (hn2 : n ≤ 40) :
  SoundAt Tryz.prog J 60 [.int .i64 cost, .int .i64 rest, .int .i64 n] (.tup [.vec 0, .int .i64 0]) [.vec 3 1 ((steps (lnD (cost - rest) n) n).map (V.int .i64))] := by
 have hP := parts_sound hJ 127 (ld1C cost rest n (lnT n)) ld1F (ld1_snd hJ) rfl (lnD (cost - rest) n) n (by omega) (fun k hk => ld1F_eq (by omega)) (fun k hk => by
  have := lnD_bd (D := cost - rest) (n := n) (k := k) (by omega) (by omega) (by omega) (by omega)
  omega)
 have hL := offE_t (c := cost) (r := rest) (n := (n : Int)) (by omega)
 have p1 : 0 ≤ (n : Int) * ((n : Int) + 1) ∧ (n : Int) * ((n : Int) + 1) ≤ 2000 := by
  have a1 := Int.mul_le_mul (show (n : Int) ≤ 40 by omega) (show (n : Int) + 1 ≤ 41 by omega) (by omega) (by omega)
  exact ⟨Int.mul_nonneg (by omega) (by omega), by omega⟩
 have t2 : ((n : Int) * ((n : Int) + 1)).tdiv 2 = lnT n := Int.tdiv_eq_ediv_of_nonneg p1.1
 have hT := lnT_bd (n := (n : Int)) (by omega) (by omega)
 unfold ld1C at hP
 refine evFn (l := [(124, offF), (125, at1 _ (_, [.vec 3 1 ((steps (lnD (cost - rest) n) n).map (V.int .i64))]))]) (nv := nv0) (fz := fz0) (dr := dr60) (dd := dd60) (lam := []) (ms := ms0) ⟨look_snd hJ, at1_snd hP, trivial⟩ hJ trivial ms0_ok Tryz.func60 rfl rfl (Nat.le_of_ble_eq_true rfl) (Nat.le_of_ble_eq_true rfl) drOk60 ?_
 dsimp only [Tryz.f60, dr60, dd60, Option.getD_some]
 refine ev_start ?_
 simp (disch := omega) only [offF_eq, hL, at1_eq, t2, List.mapM_cons, List.mapM_nil, Option.bind_eq_bind, Option.pure_def, Option.bind_some, go_sem, evP_D, evD_guard, evD_cons, evD_zero, evD_nil]
end Go.Proofs.YtcmpjagpggjfiaaGreatDoor
end
