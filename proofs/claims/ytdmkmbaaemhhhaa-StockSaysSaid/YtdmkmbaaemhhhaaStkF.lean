/-
  What pieces cost that go, run by the machine: the mean.
-/
import Derived.Test.YtdmkmbaaemhhhaaStkE
namespace Go.Stk
/-- what the operations on the way come to -/
theorem mean_bd {a c n : Int} (a1 : 1 ≤ a) (a2 : a ≤ 40000000) (c0 : 0 ≤ c) (_c1 : c ≤ 40000000000000) (n0 : 0 ≤ n) (n1 : n ≤ a) :
    0 ≤ c.tdiv a ∧ c.tdiv a ≤ c ∧ 0 ≤ c.tdiv a * n ∧ c.tdiv a * n ≤ c ∧ 0 ≤ c.tmod a ∧ c.tmod a < a ∧ 0 ≤ c.tmod a * n ∧ c.tmod a * n ≤ 1600000000000000 ∧ 2 * c.tmod a * n = 2 * (c.tmod a * n) ∧
      0 ≤ Go.Proofs.Ytdmkmbaaemhhhaa.Rnd.rnd (c.tmod a * n) a 2 ∧ Go.Proofs.Ytdmkmbaaemhhhaa.Rnd.rnd (c.tmod a * n) a 2 ≤ c ∧ 0 ≤ costM (a, c) n ∧ costM (a, c) n ≤ c ∧ costM (a, c) n = c.tdiv a * n + Go.Proofs.Ytdmkmbaaemhhhaa.Rnd.rnd (c.tmod a * n) a 2 ∧
      costM (a, c) n = c.tdiv a * n + (2 * c.tmod a * n + a).tdiv (2 * a) ∧ 0 ≤ (2 * c.tmod a * n + a).tdiv (2 * a) ∧ (2 * c.tmod a * n + a).tdiv (2 * a) ≤ c := by
  have hr : 0 ≤ c.tmod a := Int.tmod_nonneg _ c0
  have hr2 := (Go.Proofs.Ytdmkmbaaemhhhaa.Rnd.tmod_bd c a1).2
  have hq : 0 ≤ c.tdiv a := Int.tdiv_nonneg c0 (by omega)
  have hq2 : c.tdiv a ≤ c := by
    rw [Int.tdiv_eq_ediv_of_nonneg c0]
    exact Int.ediv_le_self _ c0
  have hb := cost_bd (s := (a, c)) (n := n) c0 a1 n0 n1
  have hs := cost_same (s := (a, c)) (n := n) c0 a1 n0
  have e1 : costM (a, c) n = c.tdiv a * n + Go.Proofs.Ytdmkmbaaemhhhaa.Rnd.rnd (c.tmod a * n) a 2 := rfl
  have e2 : costR (a, c) n = c.tdiv a * n + (2 * c.tmod a * n + a).tdiv (2 * a) := rfl
  rw [e2] at hs
  have b1 : 0 ≤ c.tdiv a * n := Int.mul_nonneg hq n0
  have b2 : 0 ≤ c.tmod a * n := Int.mul_nonneg hr n0
  have b3 : c.tmod a * n ≤ 40000000 * 40000000 := Int.mul_le_mul (by omega) (by omega) n0 (by omega)
  have b4 : 2 * c.tmod a * n = 2 * (c.tmod a * n) := Int.mul_assoc ..
  have b5 : 0 ≤ (2 * c.tmod a * n + a).tdiv (2 * a) := Int.tdiv_nonneg (by omega) (by omega)
  refine ⟨hq, hq2, b1, by omega, hr, hr2, b2, by omega, b4, by omega, by omega, hb.1, hb.2, e1, hs, b5, by omega⟩
end Go.Stk
namespace Go.Proofs.Ytdmkmbaaemhhhaa
open Go Go.Ev Go.RowKit Go.Stk
set_option maxHeartbeats 4000000
set_option linter.unusedSimpArgs false
set_option linter.unusedVariables false

def lotV (s : Lt) : V := .agg [.int .i64 s.1, .int .i64 s.2]
def smR : Option (List Int × Lt) → V × List Blk
  | none => (.tup [.zero, .agg [.int .i64 0, .int .i64 0], .int .i64 8], [])
  | some (out, a, c) => (.tup [.vec 0, .agg [.int .i64 a, .int .i64 c], .int .i64 0], [.vec 3 1 (out.map (V.int .i64))])
theorem smR_none : smR none = (.tup [.zero, .agg [.int .i64 0, .int .i64 0], .int .i64 8], []) := rfl
theorem smR_some (out : List Int) (a c : Int) : smR (some (out, a, c)) = (.tup [.vec 0, .agg [.int .i64 a, .int .i64 c], .int .i64 0], [.vec 3 1 (out.map (V.int .i64))]) := rfl
def smV (l : List Mv) : V × List Blk := if lookE l = 0 then smR (meanG l (0, 0) []) else (.tup [.zero, .agg [.int .i64 0, .int .i64 0], .int .i64 (lookE l)], [])
set_option maxHeartbeats 8000000 in
theorem smean_sound {J : World → Prop} (hJ : Stable J) (l : List Mv) : SoundAt Try.prog J 6 [.row 2 (l.map mvV)] (smV l).1 (smV l).2 := by
  refine SoundAt.row 0 rfl (callOk Try.func6 rfl rfl) fun hlen => ?_
  simp only [maxLen, List.length_map] at hlen
  have hL := slook_sound hJ l
  by_cases he : lookE l = 0
  case neg =>
    have e : smV l = (.tup [.zero, .agg [.int .i64 0, .int .i64 0], .int .i64 (lookE l)], []) := if_neg he
    rw [e]
    refine evFn (l := [(16, at1 _ (_, []))]) (nv := nv0) (fz := fz0) (dr := dr6) (dd := dd6) (lam := []) (ms := ms0) ⟨at1_snd hL, trivial⟩ hJ trivial ms0_ok Try.func6 rfl rfl (Nat.le_of_ble_eq_true rfl) (Nat.le_of_ble_eq_true rfl) drOk6 ?_
    dsimp only [Try.f6, dr6, dd6, Option.getD_some]
    refine ev_start ?_
    simp (disch := omega) only [at1_eq, he, go_sem, evP_D, evD_guard, evD_cons, evD_zero, evD_nil]
  have e : smV l = smR (meanG l (0, 0) []) := if_pos he
  rw [e]
  obtain ⟨R, hR⟩ : ∃ R, R = meanG l (0, 0) [] := ⟨_, rfl⟩
  rw [← hR]
  rw [he] at hL
  obtain ⟨h40, hm⟩ := look_0 he
  refine evFn (l := [(16, at1 _ (_, [])), (18, rndF)]) (nv := (nvL [(7, (3, 1))])) (fz := fz0) (dr := dr6) (dd := dd6) (lam := []) (ms := ms0) ⟨at1_snd hL, rounded_snd, trivial⟩ hJ trivial ms0_ok Try.func6 rfl rfl (Nat.le_of_ble_eq_true rfl) (Nat.le_of_ble_eq_true rfl) drOk6 ?_
  dsimp only [Try.f6, dr6, dd6, Option.getD_some]
  refine ev_start ?_
  simp (disch := omega) only [at1_eq, List.length_map, go_sem, evP_D, evD_guard, evD_cons, evD_zero, evD_nil]
  refine evQ_loop [3, 6, 7, 17, 18, 19] [24, 48, 56] (fun σ => ∃ (k : Nat) (a c : Int) (out : List Int), (k ≤ l.length ∧ meanG (l.drop k) (a, c) out = R ∧ 0 ≤ a ∧ a ≤ k * 1000000 ∧ 0 ≤ c ∧ c ≤ k * 1000000000000 ∧ out.length ≤ k) ∧
    σ = ⟨[(3, .ptr 24 0), (6, .ptr 48 0), (7, .vec 56), (17, .row 2 (l.map mvV)), (18, .int .i64 l.length), (19, .int .i64 k)], [(24, .box (.agg [.int .i64 0, .int .i64 0])), (48, .box (.agg [.int .i64 a, .int .i64 c])), (56, .vec 3 1 (out.map (V.int .i64)))]⟩)
    (fun σ => l.length - (match Ev.look 19 σ.env with | some (.int _ n) => n.toNat | _ => 0)) ?_ ?_
  · simp only [go_sem, evP_D, evD_guard, evD_cons, evD_zero, evD_nil]
    exact ⟨0, 0, 0, [], ⟨Nat.zero_le _, hR.symm, by omega, by omega, by omega, by omega, Nat.le_refl _⟩, rfl⟩
  · rintro σ ⟨k, a, c, out, ⟨hk, hd, a0, a1, c0, c1, ho⟩, rfl⟩
    by_cases hlt : k < l.length
    case neg =>
      have hk' : k = l.length := by omega
      subst hk'
      have hlt' : ¬ ((l.length : Int) < l.length) := by omega
      rw [List.drop_length] at hd
      have hd' : some (out, a, c) = R := hd
      subst hd'
      simp (disch := (first | omega | assumption)) only [hlt', smR_some, go_sem, evP_D, evD_guard, evD_cons, evD_zero, evD_nil]
    have hlt' : (k : Int) < l.length := by omega
    have hg := mv_get hlt
    have hms := sub_ms hlt
    have hok := mvE_ok (mvs_at hm hlt)
    rw [mv_drop hlt] at hd
    unfold meanG at hd
    generalize mvG l k = m at *
    obtain ⟨x, y⟩ := m
    simp only at hok hd
    have hgv := mvV_get hg
    by_cases k1 : 0 < x
    · rw [if_pos k1] at hd
      simp (disch := (first | omega | assumption)) only [hlt', idx_nat, List.length_map, hgv, k1, go_sem, evP_D, evD_guard, evD_cons, evD_zero, evD_nil]
      exact ⟨⟨k + 1, a + x, c + y, out, ⟨hlt, hd, by omega, by omega, by omega, by omega, by omega⟩, rfl⟩, hms⟩
    rw [if_neg k1, show -x = 0 - x by omega] at hd
    by_cases k2 : a < 0 - x
    · rw [if_pos k2] at hd
      subst hd
      simp (disch := (first | omega | assumption)) only [hlt', idx_nat, List.length_map, hgv, k1, k2, smR_none, go_sem, evP_D, evD_guard, evD_cons, evD_zero, evD_nil]
    rw [if_neg k2] at hd
    obtain ⟨q1, q2, q3, q4, q5, q6, q7, q8, q9, q10, q11, q12, q13, q14, -, -, -⟩ := mean_bd (a := a) (c := c) (n := 0 - x) (by omega) (by omega) c0 (by omega) (by omega) (by omega)
    have r1 : rndF [.int .i64 (c.tmod a * (0 - x)), .int .i64 a, .int .i64 2] = some (.int .i64 (Rnd.rnd (c.tmod a * (0 - x)) a 2), []) := rndF_eq (by omega)
    have k3 : a ≠ 0 := by omega
    rw [q14] at q12 q13 hd
    generalize Rnd.rnd (c.tmod a * (0 - x)) a 2 = w at *
    simp (disch := (first | omega | assumption)) only [hlt', idx_nat, List.length_map, hgv, k1, k2, k3, r1, go_sem, evP_D, evD_guard, evD_cons, evD_zero, evD_nil]
    exact ⟨⟨k + 1, a + x, c - (c.tdiv a * (0 - x) + w), out ++ [c.tdiv a * (0 - x) + w], ⟨hlt, hd, by omega, by omega, by omega, by omega, by simp; omega⟩, by rw [List.map_append]; rfl⟩, hms⟩
set_option maxHeartbeats 8000000 in
theorem rmean_sound {J : World → Prop} (hJ : Stable J) (l : List Mv) (he : lookE l = 0) (hsum : sumE 0 l = true) : SoundAt Try.prog J 9 [.row 2 (l.map mvV)] (.tup [.vec 0, .agg [.int .i64 (rmeanG l (0, 0) []).2.1, .int .i64 (rmeanG l (0, 0) []).2.2]]) [.vec 3 1 ((rmeanG l (0, 0) []).1.map (V.int .i64))] := by
  refine SoundAt.row 0 rfl (callOk Try.func9 rfl rfl) fun hlen => ?_
  simp only [maxLen, List.length_map] at hlen
  obtain ⟨R, hR⟩ : ∃ R, R = rmeanG l (0, 0) [] := ⟨_, rfl⟩
  rw [← hR]
  obtain ⟨h40, hm⟩ := look_0 he
  refine evFn (l := []) (nv := (nvL [(5, (3, 1))])) (fz := fz0) (dr := dr9) (dd := dd9) (lam := []) (ms := ms0) trivial hJ trivial ms0_ok Try.func9 rfl rfl (Nat.le_of_ble_eq_true rfl) (Nat.le_of_ble_eq_true rfl) drOk9 ?_
  dsimp only [Try.f9, dr9, dd9, Option.getD_some]
  refine ev_start ?_
  simp (disch := omega) only [List.length_map, go_sem, evP_D, evD_guard, evD_cons, evD_zero, evD_nil]
  refine evQ_loop [3, 4, 5, 12, 13, 14] [24, 32, 40] (fun σ => ∃ (k : Nat) (a c : Int) (out : List Int), (k ≤ l.length ∧ rmeanG (l.drop k) (a, c) out = R ∧ sumE a (l.drop k) = true ∧ 0 ≤ a ∧ a ≤ k * 1000000 ∧ 0 ≤ c ∧ c ≤ k * 1000000000000 ∧ out.length ≤ k) ∧
    σ = ⟨[(3, .ptr 24 0), (4, .ptr 32 0), (5, .vec 40), (12, .row 2 (l.map mvV)), (13, .int .i64 l.length), (14, .int .i64 k)], [(24, .box (.agg [.int .i64 0, .int .i64 0])), (32, .box (.agg [.int .i64 a, .int .i64 c])), (40, .vec 3 1 (out.map (V.int .i64)))]⟩)
    (fun σ => l.length - (match Ev.look 14 σ.env with | some (.int _ n) => n.toNat | _ => 0)) ?_ ?_
  · simp only [go_sem, evP_D, evD_guard, evD_cons, evD_zero, evD_nil]
    exact ⟨0, 0, 0, [], ⟨Nat.zero_le _, hR.symm, hsum, by omega, by omega, by omega, by omega, Nat.le_refl _⟩, rfl⟩
  · rintro σ ⟨k, a, c, out, ⟨hk, hd, hsm, a0, a1, c0, c1, ho⟩, rfl⟩
    by_cases hlt : k < l.length
    case neg =>
      have hk' : k = l.length := by omega
      subst hk'
      have hlt' : ¬ ((l.length : Int) < l.length) := by omega
      rw [List.drop_length] at hd
      have hd' : (out, a, c) = R := hd
      subst hd'
      simp (disch := (first | omega | assumption)) only [hlt', go_sem, evP_D, evD_guard, evD_cons, evD_zero, evD_nil]
    have hlt' : (k : Int) < l.length := by omega
    have hg := mv_get hlt
    have hms := sub_ms hlt
    have hok := mvE_ok (mvs_at hm hlt)
    rw [mv_drop hlt] at hd hsm
    unfold rmeanG at hd
    unfold sumE at hsm
    generalize mvG l k = m at *
    obtain ⟨x, y⟩ := m
    simp only [Bool.and_eq_true, decide_eq_true_eq] at hok hd hsm
    obtain ⟨hs1, hs2⟩ := hsm
    have hgv := mvV_get hg
    by_cases k1 : 0 < x
    · rw [if_pos k1] at hd
      simp (disch := (first | omega | assumption)) only [hlt', idx_nat, List.length_map, hgv, k1, go_sem, evP_D, evD_guard, evD_cons, evD_zero, evD_nil]
      exact ⟨⟨k + 1, a + x, c + y, out, ⟨hlt, hd, hs2, by omega, by omega, by omega, by omega, by omega⟩, rfl⟩, hms⟩
    rw [if_neg k1] at hd
    have en : -x = 0 - x := by omega
    have ea : a + x = a - (0 - x) := by omega
    rw [en] at hd
    rw [ea] at hs2 hs1
    obtain ⟨q1, q2, q3, q4, q5, q6, q7, q8, q9, -, -, q12, q13, -, q14, q15, q16⟩ := mean_bd (a := a) (c := c) (n := 0 - x) (by omega) (by omega) c0 (by omega) (by omega) (by omega)
    have eR : costR (a, c) (0 - x) = c.tdiv a * (0 - x) + (2 * c.tmod a * (0 - x) + a).tdiv (2 * a) := rfl
    rw [q14] at q12 q13
    rw [eR] at hd
    have k3 : a ≠ 0 := by omega
    have k4 : 2 * a ≠ 0 := by omega
    generalize hw : (2 * c.tmod a * (0 - x) + a).tdiv (2 * a) = w at *
    simp (disch := (first | omega | assumption)) only [hlt', idx_nat, List.length_map, hgv, k1, k3, k4, hw, go_sem, evP_D, evD_guard, evD_cons, evD_zero, evD_nil]
    exact ⟨⟨k + 1, a - (0 - x), c - (c.tdiv a * (0 - x) + w), out ++ [c.tdiv a * (0 - x) + w], ⟨hlt, hd, hs2, by omega, by omega, by omega, by omega, by simp; omega⟩, by rw [List.map_append]; rfl⟩, hms⟩
end Go.Proofs.Ytdmkmbaaemhhhaa
