/-
  What is written off the same each time, or by digits, run by the machine.
-/
import Derived.Test.YtdmkmbaaemhhhaaGreatDoorR12
set_option linter.unusedVariables false
set_option linter.unusedSimpArgs false
namespace Go.Proofs.YtdmkmbaaemhhhaaGreatDoor
open Go Go.Ev Go.RowKit
set_option maxHeartbeats 4000000
theorem parts_sound {J : World → Prop} (hJ : Stable J) (g : FuncId) (cs : List V) (G : List V → Option (V × List Blk)) (hG : Snd Tryz.prog J g G) (hd : V.dataL cs = true) (F : Int → Int) (n : Nat) (hn : n ≤ 1000)
  (hp : ∀ k : Nat, k ≤ n → G (.int .i64 k :: cs) = some (.int .i64 (F k), [])) (hb : ∀ k : Nat, k ≤ n → -4000000000000000000 ≤ F k ∧ F k ≤ 4000000000000000000) :
  SoundAt Tryz.prog J 205 [.int .i64 n, .fn g cs] (.vec 0) [.vec 3 1 ((steps F n).map (V.int .i64))] := by
 have f1 : (0 : Int) ≤ n := by omega
 have f2 : (n : Int) * 8 ≤ 140737488355328 := by omega
 have f3 : (n : Int) ≤ 9223372036854775807 := by omega
 have hst : steps F n = (List.range n).map fun k : Nat => F ((k : Int) + 1) - F (k : Int) := rfl
 refine evFn (l := [(g, G)]) (nv := nv0) (fz := fz0) (dr := dr205) (dd := dd205) (lam := []) (ms := ms0) ⟨hG, trivial⟩ hJ trivial ms0_ok Tryz.func205 rfl rfl (Nat.le_of_ble_eq_true rfl) (Nat.le_of_ble_eq_true rfl) drOk205 ?_
 dsimp only [Tryz.f205, dr205, dd205, Option.getD_some]
 refine ev_start ?_
 simp (disch := omega) only [makeV, f1, f2, f3, Int.toNat_natCast, List.length_replicate, go_sem, evP_D, evD_guard, evD_cons, evD_zero, evD_nil]
 refine evQ_loop [1, 5, 10, 11] [64] (fun σ => ∃ (k : Nat), k ≤ n ∧ σ = ⟨[(1, .fn g cs), (5, .vec 64), (10, .int .i64 n), (11, .int .i64 k)],
   [(64, .vec 3 1 ((fillL 0 (fun k : Nat => F ((k : Int) + 1) - F (k : Int)) n k).map (V.int .i64)))]⟩)
   (fun σ => n - (match Ev.look 11 σ.env with | some (.int _ n) => n.toNat | _ => 0)) ?_ ?_
 ·simp only [refsInL_data hd, go_sem, evP_D, evD_guard, evD_cons, evD_zero, evD_nil]
  exact ⟨0, Nat.zero_le _, by rw [fillL_map, fillL_zero]; rfl⟩
 ·rintro σ ⟨k, hk, rfl⟩
  by_cases hlt : k < n
  ·have hlt' : (k : Int) < n := by omega
   have h1 := hp (k + 1) hlt
   have h0 := hp k hk
   have b1 := hb (k + 1) hlt
   have b0 := hb k hk
   have e1 : ((k + 1 : Nat) : Int) = (k : Int) + 1 := by omega
   rw [e1] at h1 b1
   have hset := fillL_set (0 : Int) (fun k : Nat => F ((k : Int) + 1) - F (k : Int)) (n := n) (k := k)
   have hat := fillL_at (0 : Int) (fun k : Nat => F ((k : Int) + 1) - F (k : Int)) (n := n) (k := k) hlt (Nat.lt_irrefl k)
   simp (disch := (first | omega | assumption)) only [hlt', h0, h1, idx_nat, List.length_map, List.getElem?_map, hat, fillL_len, hd, refsInL_data hd, scrubL_data hd, V.dataL, V.data, go_sem, evP_D, evD_guard, evD_cons, evD_zero, evD_nil]
   exact ⟨⟨k + 1, hlt, by rw [← hset, List.map_set]; rfl⟩, by
    have e3 : ((k : Int) + 1).toNat = k + 1 := by omega
    rw [e3, Int.toNat_natCast]; omega⟩
  ·have hk' : k = n := by omega
   subst hk'
   have hlt' : ¬ ((k : Int) < k) := by omega
   simp (disch := (first | omega | assumption)) only [hlt', hst, fillL_end, go_sem, evP_D, evD_guard, evD_cons, evD_zero, evD_nil]
def ls1C (cost rest n : Int) : List V := [.rd (.int .i64 cost) 0, .rd (.int .i64 rest) 0, .rd (.int .i64 n) 0]
def ls1F : List V → Option (V × List Blk)
 | [.int .i64 k, .rd (.int .i64 cost) 0, .rd (.int .i64 rest) 0, .rd (.int .i64 n) 0] => if (0 ≤ rest ∧ rest ≤ cost ∧ cost ≤ 1000000000000) ∧ 1 ≤ n ∧ n ≤ 40 ∧ 0 ≤ k ∧ k ≤ n then some (.int .i64 (lnS (cost - rest) n k), []) else none
 | _ => none
theorem ls1F_eq {cost rest n k : Int} (h : (0 ≤ rest ∧ rest ≤ cost ∧ cost ≤ 1000000000000) ∧ 1 ≤ n ∧ n ≤ 40 ∧ 0 ≤ k ∧ k ≤ n) : ls1F (.int .i64 k :: ls1C cost rest n) = some (.int .i64 (lnS (cost - rest) n k), []) := if_pos h
theorem lnm_bd {D k : Int} (h0 : 0 ≤ D) (h1 : D ≤ 1000000000000) (h2 : 0 ≤ k) (h3 : k ≤ 1000) : 0 ≤ D * k ∧ D * k ≤ 1000000000000000 := by
 have k1 : D * k ≤ 1000000000000 * k := Int.mul_le_mul_of_nonneg_right h1 h2
 have k2 : 0 ≤ D * k := Int.mul_nonneg h0 h2
 omega
theorem ls1_snd {J : World → Prop} (hJ : Stable J) : Snd Tryz.prog J 208 ls1F := by
 intro args r bs h
 unfold ls1F at h
 split at h
 ·rename_i k cost rest n
  split at h
  ·rename_i hc
   obtain ⟨rfl, rfl⟩ := some_pair h
   have hm := lnm_bd (D := cost - rest) (k := k) (by omega) (by omega) (by omega) (by omega)
   have hr : rndF [.int .i64 ((cost - rest) * k), .int .i64 n, .int .i64 2] = some (.int .i64 (lnS (cost - rest) n k), []) := rndF_eq (by omega)
   refine evFn (l := [(207, rndF)]) (nv := nv0) (fz := fz0) (dr := dr208) (dd := dd208) (lam := []) (ms := ms0) ⟨rounded_snd, trivial⟩ hJ trivial ms0_ok Tryz.func208 rfl rfl (Nat.le_of_ble_eq_true rfl) (Nat.le_of_ble_eq_true rfl) drOk208 ?_
   dsimp only [Tryz.f208, dr208, dd208, Option.getD_some]
   refine ev_start ?_
   simp (disch := omega) only [hr, go_sem, evP_D, evD_guard, evD_cons, evD_zero, evD_nil]
  ·cases h
 ·cases h
theorem straight_sound {J : World → Prop} (hJ : Stable J) (cost rest : Int) (n : Nat) (h0 : 0 ≤ rest) (h1 : rest ≤ cost) (h2 : cost ≤ 1000000000000) (hn : 1 ≤ n) (hn2 : n ≤ 40) :
  SoundAt Tryz.prog J 166 [.int .i64 cost, .int .i64 rest, .int .i64 n] (.tup [.vec 0, .int .i64 0]) [.vec 3 1 ((steps (lnS (cost - rest) n) n).map (V.int .i64))] := by
 have hP := parts_sound hJ 208 (ls1C cost rest n) ls1F (ls1_snd hJ) rfl (lnS (cost - rest) n) n (by omega) (fun k hk => ls1F_eq (by omega)) (fun k hk => by
  have := lnS_bd (D := cost - rest) (n := n) (k := k) (by omega) (by omega) (by omega) (by omega)
  omega)
 have hL := offE_t (c := cost) (r := rest) (n := (n : Int)) (by omega)
 unfold ls1C at hP
 refine evFn (l := [(204, offF), (205, at1 _ (_, [.vec 3 1 ((steps (lnS (cost - rest) n) n).map (V.int .i64))]))]) (nv := nv0) (fz := fz0) (dr := dr166) (dd := dd166) (lam := []) (ms := ms0) ⟨look_snd hJ, at1_snd hP, trivial⟩ hJ trivial ms0_ok Tryz.func166 rfl rfl (Nat.le_of_ble_eq_true rfl) (Nat.le_of_ble_eq_true rfl) drOk166 ?_
 dsimp only [Tryz.f166, dr166, dd166, Option.getD_some]
 refine ev_start ?_
 simp (disch := omega) only [offF_eq, hL, at1_eq, List.mapM_cons, List.mapM_nil, Option.bind_eq_bind, Option.pure_def, Option.bind_some, go_sem, evP_D, evD_guard, evD_cons, evD_zero, evD_nil]
def ld1C (cost rest n all : Int) : List V := [.rd (.int .i64 cost) 0, .rd (.int .i64 rest) 0, .rd (.int .i64 n) 0, .rd (.int .i64 all) 0]
def ld1F : List V → Option (V × List Blk)
 | [.int .i64 k, .rd (.int .i64 cost) 0, .rd (.int .i64 rest) 0, .rd (.int .i64 n) 0, .rd (.int .i64 all) 0] => if (0 ≤ rest ∧ rest ≤ cost ∧ cost ≤ 1000000000000) ∧ 1 ≤ n ∧ n ≤ 40 ∧ 0 ≤ k ∧ k ≤ n ∧ all = lnT n then some (.int .i64 (lnD (cost - rest) n k), []) else none
 | _ => none
theorem ld1F_eq {cost rest n k : Int} (h : (0 ≤ rest ∧ rest ≤ cost ∧ cost ≤ 1000000000000) ∧ 1 ≤ n ∧ n ≤ 40 ∧ 0 ≤ k ∧ k ≤ n) : ld1F (.int .i64 k :: ld1C cost rest n (lnT n)) = some (.int .i64 (lnD (cost - rest) n k), []) := if_pos ⟨h.1, h.2.1, h.2.2.1, h.2.2.2.1, h.2.2.2.2, rfl⟩
theorem ld1_snd {J : World → Prop} (hJ : Stable J) : Snd Tryz.prog J 206 ld1F := by
 intro args r bs h
 unfold ld1F at h
 split at h
 ·rename_i k cost rest n all
  split at h
  ·rename_i hc
   obtain ⟨rfl, rfl⟩ := some_pair h
   obtain ⟨hc0, hc1, hc2, hc3, hc4, rfl⟩ := hc
   have hT := lnT_bd hc1 hc2
   obtain ⟨k, rfl⟩ : ∃ m : Nat, k = m := ⟨k.toNat, by omega⟩
   obtain ⟨n, rfl⟩ : ∃ m : Nat, n = m := ⟨n.toNat, by omega⟩
   have hg0 := lnG_bd (n := n) k (by omega)
   have hg1 := lnG_le (n := n) (n - k) k (by omega)
   have hm := lnm_bd (D := cost - rest) (k := lnG n k) (by omega) (by omega) hg0 (by omega)
   have hr : rndF [.int .i64 ((cost - rest) * lnG n k), .int .i64 (lnT n), .int .i64 2] = some (.int .i64 (lnD (cost - rest) n k), []) := rndF_eq (by omega)
   have p1 : 0 ≤ (k : Int) * n ∧ (k : Int) * n ≤ 1600 := by
    have a1 := Int.mul_le_mul (show (k : Int) ≤ 40 by omega) (show (n : Int) ≤ 40 by omega) (by omega) (by omega)
    exact ⟨Int.mul_nonneg (by omega) (by omega), by omega⟩
   have p2 : 0 ≤ (k : Int) * ((k : Int) - 1) ∧ (k : Int) * ((k : Int) - 1) ≤ 1600 := by
    by_cases hk0 : k = 0
    ·subst hk0; simp
    ·have a1 := Int.mul_le_mul (show (k : Int) ≤ 40 by omega) (show (k : Int) - 1 ≤ 40 by omega) (by omega) (by omega)
     exact ⟨Int.mul_nonneg (by omega) (by omega), by omega⟩
   have t2 : ((k : Int) * ((k : Int) - 1)).tdiv 2 = (k : Int) * ((k : Int) - 1) / 2 := Int.tdiv_eq_ediv_of_nonneg p2.1
   have hgd : (k : Int) * n - (k : Int) * ((k : Int) - 1) / 2 = lnG n k := rfl
   refine evFn (l := [(207, rndF)]) (nv := nv0) (fz := fz0) (dr := dr206) (dd := dd206) (lam := []) (ms := ms0) ⟨rounded_snd, trivial⟩ hJ trivial ms0_ok Tryz.func206 rfl rfl (Nat.le_of_ble_eq_true rfl) (Nat.le_of_ble_eq_true rfl) drOk206 ?_
   dsimp only [Tryz.f206, dr206, dd206, Option.getD_some]
   refine ev_start ?_
   simp (disch := omega) only [t2, hgd, hr, go_sem, evP_D, evD_guard, evD_cons, evD_zero, evD_nil]
  ·cases h
 ·cases h
theorem digits_sound {J : World → Prop} (hJ : Stable J) (cost rest : Int) (n : Nat) (h0 : 0 ≤ rest) (h1 : rest ≤ cost) (h2 : cost ≤ 1000000000000) (hn : 1 ≤ n) (hn2 : n ≤ 40) :
  SoundAt Tryz.prog J 165 [.int .i64 cost, .int .i64 rest, .int .i64 n] (.tup [.vec 0, .int .i64 0]) [.vec 3 1 ((steps (lnD (cost - rest) n) n).map (V.int .i64))] := by
 have hP := parts_sound hJ 206 (ld1C cost rest n (lnT n)) ld1F (ld1_snd hJ) rfl (lnD (cost - rest) n) n (by omega) (fun k hk => ld1F_eq (by omega)) (fun k hk => by
  have := lnD_bd (D := cost - rest) (n := n) (k := k) (by omega) (by omega) (by omega) (by omega)
  omega)
 have hL := offE_t (c := cost) (r := rest) (n := (n : Int)) (by omega)
 have p1 : 0 ≤ (n : Int) * ((n : Int) + 1) ∧ (n : Int) * ((n : Int) + 1) ≤ 2000 := by
  have a1 := Int.mul_le_mul (show (n : Int) ≤ 40 by omega) (show (n : Int) + 1 ≤ 41 by omega) (by omega) (by omega)
  exact ⟨Int.mul_nonneg (by omega) (by omega), by omega⟩
 have t2 : ((n : Int) * ((n : Int) + 1)).tdiv 2 = lnT n := Int.tdiv_eq_ediv_of_nonneg p1.1
 have hT := lnT_bd (n := (n : Int)) (by omega) (by omega)
 unfold ld1C at hP
 refine evFn (l := [(204, offF), (205, at1 _ (_, [.vec 3 1 ((steps (lnD (cost - rest) n) n).map (V.int .i64))]))]) (nv := nv0) (fz := fz0) (dr := dr165) (dd := dd165) (lam := []) (ms := ms0) ⟨look_snd hJ, at1_snd hP, trivial⟩ hJ trivial ms0_ok Tryz.func165 rfl rfl (Nat.le_of_ble_eq_true rfl) (Nat.le_of_ble_eq_true rfl) drOk165 ?_
 dsimp only [Tryz.f165, dr165, dd165, Option.getD_some]
 refine ev_start ?_
 simp (disch := omega) only [offF_eq, hL, at1_eq, t2, List.mapM_cons, List.mapM_nil, Option.bind_eq_bind, Option.pure_def, Option.bind_some, go_sem, evP_D, evD_guard, evD_cons, evD_zero, evD_nil]
end Go.Proofs.YtdmkmbaaemhhhaaGreatDoor
