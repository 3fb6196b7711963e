/-
  What pieces cost that go, run by the machine: may moves be; the mean.
-/
import Derived.Test.YtdmkmbaaemhhhaaEvB
import Derived.Test.YtdmkmbaaemhhhaaStkP
namespace Go.Stk
def mvG (l : List Mv) (k : Nat) : Mv := l.getD k (0, 0)
theorem mv_get {l : List Mv} {k : Nat} (h : k < l.length) : l[k]? = some (mvG l k) := by unfold mvG; rw [List.getD_eq_getElem?_getD, List.getElem?_eq_getElem h]; rfl
theorem mv_at {l : List Mv} {k : Nat} (h : k < l.length) : l[k] = mvG l k := by
  have := mv_get h
  rw [List.getElem?_eq_getElem h] at this
  exact Option.some.inj this
theorem mv_drop {l : List Mv} {k : Nat} (h : k < l.length) : l.drop k = mvG l k :: l.drop (k + 1) := by rw [List.drop_eq_getElem_cons h, mv_at h]
theorem mvsE_drop {l : List Mv} {k : Nat} (h : k < l.length) : mvsE (l.drop k) = if mvE (mvG l k) = 0 then mvsE (l.drop (k + 1)) else mvE (mvG l k) := by rw [mv_drop h]; rfl
theorem mvs_at {l : List Mv} (h : mvsE l = 0) {k : Nat} (hk : k < l.length) : mvE (mvG l k) = 0 := mvsE_ok h _ (List.mem_of_getElem? (mv_get hk))
theorem mvE_1 {a b : Int} (h : a = 0 ∨ a < -1000000 ∨ 1000000 < a ∨ b < 0 ∨ 1000000000000 < b) : mvE (a, b) = 1 := if_pos h
theorem mvE_3 {a b : Int} (h : ¬ (a = 0 ∨ a < -1000000 ∨ 1000000 < a ∨ b < 0 ∨ 1000000000000 < b)) (h2 : a < 0 ∧ b ≠ 0) : mvE (a, b) = 3 := by unfold mvE; rw [if_neg h, if_pos h2]
theorem mvE_0 {a b : Int} (h : ¬ (a = 0 ∨ a < -1000000 ∨ 1000000 < a ∨ b < 0 ∨ 1000000000000 < b)) (h2 : ¬ (a < 0 ∧ b ≠ 0)) : mvE (a, b) = 0 := by unfold mvE; rw [if_neg h, if_neg h2]
def lookE (l : List Mv) : Int := if 40 < l.length then 2 else mvsE l
def movE (l : List Mv) : Int := if lookE l ≠ 0 then lookE l else if sumE 0 l = true then 0 else 8
theorem look_0 {l : List Mv} (h : lookE l = 0) : l.length ≤ 40 ∧ mvsE l = 0 := by
  unfold lookE at h
  split at h
  · omega
  · exact ⟨by omega, h⟩
/-- the number of pieces so far -/
def pcs (l : List Mv) : Nat → Int
  | 0 => 0
  | k + 1 => pcs l k + (mvG l k).1
end Go.Stk
namespace Go.Proofs.Ytdmkmbaaemhhhaa
open Go Go.Ev Go.RowKit Go.Stk
set_option maxHeartbeats 4000000
set_option linter.unusedSimpArgs false
set_option linter.unusedVariables false

def mvV (m : Mv) : V := .agg [.int .i64 m.1, .int .i64 m.2]
theorem mvV_get {l : List Mv} {k : Nat} {a b : Int} (h : l[k]? = some (a, b)) : (l.map mvV)[k]? = some (.agg [.int .i64 a, .int .i64 b]) := by rw [List.getElem?_map, h]; rfl
theorem sub_ms {n k : Nat} (h : k < n) : n - ((k : Int) + 1).toNat < n - (k : Int).toNat := by
  have e3 : ((k : Int) + 1).toNat = k + 1 := by omega
  rw [e3, Int.toNat_natCast]; exact Nat.sub_lt_sub_left h (Nat.lt_succ_self k)
set_option maxHeartbeats 4000000 in
theorem slook_sound {J : World → Prop} (hJ : Stable J) (l : List Mv) : SoundAt Try.prog J 16 [.row 2 (l.map mvV)] (.int .i64 (lookE l)) [] := by
  refine SoundAt.row 0 rfl (callOk Try.func16 rfl rfl) fun hlen => ?_
  simp only [maxLen, List.length_map] at hlen
  refine evFn (l := []) (nv := nv0) (fz := fz0) (dr := dr16) (dd := dd16) (lam := []) (ms := ms0) trivial hJ trivial ms0_ok Try.func16 rfl rfl (Nat.le_of_ble_eq_true rfl) (Nat.le_of_ble_eq_true rfl) drOk16 ?_
  dsimp only [Try.f16, dr16, dd16, Option.getD_some]
  refine ev_start ?_
  by_cases h3 : 40 < l.length
  · have h3' : (40 : Int) < l.length := by omega
    have e2 : lookE l = 2 := if_pos h3
    simp (disch := omega) only [h3', e2, go_sem, evP_D, evD_guard, evD_cons, evD_zero, evD_nil]
  have h3' : ¬ (40 : Int) < l.length := by omega
  have e2 : lookE l = mvsE l := if_neg h3
  rw [e2]
  obtain ⟨R, hR⟩ : ∃ R, R = mvsE l := ⟨_, rfl⟩
  rw [← hR]
  simp (disch := omega) only [h3', List.length_map, go_sem, evP_D, evD_guard, evD_cons, evD_zero, evD_nil]
  refine evQ_loop [8, 9, 10] [] (fun σ => ∃ (k : Nat), (k ≤ l.length ∧ mvsE (l.drop k) = R) ∧ σ = ⟨[(8, .row 2 (l.map mvV)), (9, .int .i64 l.length), (10, .int .i64 k)], []⟩)
    (fun σ => l.length - (match Ev.look 10 σ.env with | some (.int _ n) => n.toNat | _ => 0)) ?_ ?_
  · simp only [go_sem, evP_D, evD_guard, evD_cons, evD_zero, evD_nil]
    exact ⟨0, ⟨Nat.zero_le _, hR.symm⟩, rfl⟩
  · rintro σ ⟨k, ⟨hk, hd⟩, rfl⟩
    by_cases hlt : k < l.length
    case neg =>
      have hk' : k = l.length := by omega
      subst hk'
      have hlt' : ¬ ((l.length : Int) < l.length) := by omega
      rw [List.drop_length] at hd
      subst hd
      have e0 : mvsE [] = 0 := rfl
      simp (disch := (first | omega | assumption)) only [hlt', e0, go_sem, evP_D, evD_guard, evD_cons, evD_zero, evD_nil]
    have hlt' : (k : Int) < l.length := by omega
    have hg := mv_get hlt
    have hms := sub_ms hlt
    rw [mvsE_drop hlt] at hd
    generalize mvG l k = m at *
    obtain ⟨a, b⟩ := m
    have hgv := mvV_get hg
    by_cases c1 : a = 0
    · rw [mvE_1 (.inl c1), if_neg (by omega)] at hd
      subst hd
      simp (disch := (first | omega | assumption)) only [hlt', idx_nat, List.length_map, hgv, c1, go_sem, evP_D, evD_guard, evD_cons, evD_zero, evD_nil]
    by_cases c2 : a < -1000000
    · rw [mvE_1 (by omega), if_neg (by omega)] at hd
      subst hd
      simp (disch := (first | omega | assumption)) only [hlt', idx_nat, List.length_map, hgv, c1, c2, go_sem, evP_D, evD_guard, evD_cons, evD_zero, evD_nil]
    by_cases c3 : 1000000 < a
    · rw [mvE_1 (by omega), if_neg (by omega)] at hd
      subst hd
      simp (disch := (first | omega | assumption)) only [hlt', idx_nat, List.length_map, hgv, c1, c2, c3, go_sem, evP_D, evD_guard, evD_cons, evD_zero, evD_nil]
    by_cases c4 : b < 0
    · rw [mvE_1 (by omega), if_neg (by omega)] at hd
      subst hd
      simp (disch := (first | omega | assumption)) only [hlt', idx_nat, List.length_map, hgv, c1, c2, c3, c4, go_sem, evP_D, evD_guard, evD_cons, evD_zero, evD_nil]
    by_cases c5 : 1000000000000 < b
    · rw [mvE_1 (by omega), if_neg (by omega)] at hd
      subst hd
      simp (disch := (first | omega | assumption)) only [hlt', idx_nat, List.length_map, hgv, c1, c2, c3, c4, c5, go_sem, evP_D, evD_guard, evD_cons, evD_zero, evD_nil]
    by_cases c6 : a < 0
    · by_cases c7 : b = 0
      · rw [mvE_0 (by omega) (by omega), if_pos rfl] at hd
        simp (disch := (first | omega | assumption)) only [hlt', idx_nat, List.length_map, hgv, c1, c2, c3, c4, c5, c6, c7, go_sem, evP_D, evD_guard, evD_cons, evD_zero, evD_nil]
        exact ⟨⟨k + 1, ⟨hlt, hd⟩, rfl⟩, hms⟩
      · rw [mvE_3 (by omega) ⟨c6, c7⟩, if_neg (by omega)] at hd
        subst hd
        simp (disch := (first | omega | assumption)) only [hlt', idx_nat, List.length_map, hgv, c1, c2, c3, c4, c5, c6, c7, go_sem, evP_D, evD_guard, evD_cons, evD_zero, evD_nil]
    · rw [mvE_0 (by omega) (by omega), if_pos rfl] at hd
      simp (disch := (first | omega | assumption)) only [hlt', idx_nat, List.length_map, hgv, c1, c2, c3, c4, c5, c6, go_sem, evP_D, evD_guard, evD_cons, evD_zero, evD_nil]
      exact ⟨⟨k + 1, ⟨hlt, hd⟩, rfl⟩, hms⟩
set_option maxHeartbeats 4000000 in
theorem rmoves_sound {J : World → Prop} (hJ : Stable J) (l : List Mv) : SoundAt Try.prog J 7 [.row 2 (l.map mvV)] (.int .i64 (movE l)) [] := by
  refine SoundAt.row 0 rfl (callOk Try.func7 rfl rfl) fun hlen => ?_
  simp only [maxLen, List.length_map] at hlen
  refine evFn (l := [(19, withinF)]) (nv := nv0) (fz := fz0) (dr := dr7) (dd := dd7) (lam := []) (ms := ms0) ⟨within_snd hJ, trivial⟩ hJ trivial ms0_ok Try.func7 rfl rfl (Nat.le_of_ble_eq_true rfl) (Nat.le_of_ble_eq_true rfl) drOk7 ?_
  dsimp only [Try.f7, dr7, dd7, Option.getD_some]
  refine ev_start ?_
  by_cases h3 : 40 < l.length
  · have h3' : (40 : Int) < l.length := by omega
    have e2 : movE l = 2 := by unfold movE lookE; rw [if_pos h3]; rfl
    simp (disch := omega) only [h3', e2, go_sem, evP_D, evD_guard, evD_cons, evD_zero, evD_nil]
  have h3' : ¬ (40 : Int) < l.length := by omega
  have e2 : lookE l = mvsE l := if_neg h3
  have e3 : movE l = if mvsE l = 0 then (if sumE 0 l = true then 0 else 8) else mvsE l := by
    unfold movE; rw [e2]
    by_cases h : mvsE l = 0
    · rw [if_neg (by simp [h]), if_pos h]
    · rw [if_pos h, if_neg h]
  rw [e3]
  obtain ⟨R, hR⟩ : ∃ R, R = mvsE l := ⟨_, rfl⟩
  rw [← hR]
  simp (disch := omega) only [h3', List.length_map, go_sem, evP_D, evD_guard, evD_cons, evD_zero, evD_nil]
  refine evQ_loop [0, 11, 12, 13] [] (fun σ => ∃ (k : Nat), (k ≤ l.length ∧ mvsE (l.drop k) = R) ∧ σ = ⟨[(0, .row 2 (l.map mvV)), (11, .row 2 (l.map mvV)), (12, .int .i64 l.length), (13, .int .i64 k)], []⟩)
    (fun σ => l.length - (match Ev.look 13 σ.env with | some (.int _ n) => n.toNat | _ => 0)) ?_ ?_
  · simp only [go_sem, evP_D, evD_guard, evD_cons, evD_zero, evD_nil]
    exact ⟨0, ⟨Nat.zero_le _, hR.symm⟩, rfl⟩
  · rintro σ ⟨k, ⟨hk, hd⟩, rfl⟩
    by_cases hlt : k < l.length
    case neg =>
      have hk' : k = l.length := by omega
      subst hk'
      have hlt' : ¬ ((l.length : Int) < l.length) := by omega
      rw [List.drop_length] at hd
      have hR0 : R = 0 := hd.symm
      rw [if_pos hR0]
      have hm := hR.symm.trans hR0
      clear hd hR hR0
      obtain ⟨Q, hQ⟩ : ∃ Q, Q = sumE 0 l := ⟨_, rfl⟩
      rw [← hQ]
      simp (disch := (first | omega | assumption)) only [hlt', List.length_map, go_sem, evP_D, evD_guard, evD_cons, evD_zero, evD_nil]
      refine evQ_loop [5, 41, 42, 43] [] (fun σ => ∃ (k : Nat) (c : Int), (k ≤ l.length ∧ sumE c (l.drop k) = Q ∧ -1000000 * (k : Int) ≤ c ∧ c ≤ 1000000 * k) ∧ σ = ⟨[(5, .int .i64 c), (41, .row 2 (l.map mvV)), (42, .int .i64 l.length), (43, .int .i64 k)], []⟩)
        (fun σ => l.length - (match Ev.look 43 σ.env with | some (.int _ n) => n.toNat | _ => 0)) ?_ ?_
      · simp only [go_sem, evP_D, evD_guard, evD_cons, evD_zero, evD_nil]
        exact ⟨0, 0, ⟨Nat.zero_le _, hQ.symm, by omega, by omega⟩, rfl⟩
      · rintro σ ⟨k, c, ⟨hk, hd, b0, b1⟩, rfl⟩
        by_cases hlt : k < l.length
        case neg =>
          have hk' : k = l.length := by omega
          subst hk'
          have hlt' : ¬ ((l.length : Int) < l.length) := by omega
          rw [List.drop_length] at hd
          have hQ1 : Q = true := hd.symm
          subst hQ1
          simp (disch := (first | omega | assumption)) only [hlt', go_sem, evP_D, evD_guard, evD_cons, evD_zero, evD_nil]
        have hlt' : (k : Int) < l.length := by omega
        have hg := mv_get hlt
        have hms := sub_ms hlt
        have hok := mvE_ok (mvs_at hm hlt)
        rw [mv_drop hlt] at hd
        unfold sumE at hd
        generalize mvG l k = m at *
        obtain ⟨a, b⟩ := m
        simp only at hok hd
        have hgv := mvV_get hg
        by_cases c1 : c + a < 0
        · rw [decide_eq_false (by omega), Bool.false_and] at hd
          subst hd
          simp (disch := (first | omega | assumption)) only [hlt', idx_nat, List.length_map, hgv, c1, go_sem, evP_D, evD_guard, evD_cons, evD_zero, evD_nil]
        · rw [decide_eq_true (by omega), Bool.true_and] at hd
          simp (disch := (first | omega | assumption)) only [hlt', idx_nat, List.length_map, hgv, c1, go_sem, evP_D, evD_guard, evD_cons, evD_zero, evD_nil]
          exact ⟨⟨k + 1, c + a, ⟨hlt, hd, by omega, by omega⟩, rfl⟩, hms⟩
    have hlt' : (k : Int) < l.length := by omega
    have hg := mv_get hlt
    have hms := sub_ms hlt
    rw [mvsE_drop hlt] at hd
    generalize mvG l k = m at *
    obtain ⟨a, b⟩ := m
    have hgv := mvV_get hg
    by_cases c1 : a = 0
    · rw [mvE_1 (.inl c1), if_neg (by omega)] at hd
      subst hd
      simp (disch := (first | omega | assumption)) only [hlt', idx_nat, List.length_map, hgv, c1, if_false, go_sem, evP_D, evD_guard, evD_cons, evD_zero, evD_nil]
    by_cases c2 : -1000000 ≤ a ∧ a ≤ 1000000
    case neg =>
      rw [mvE_1 (by omega), if_neg (by omega)] at hd
      subst hd
      have d2 : decide (-1000000 ≤ a ∧ a ≤ 1000000) = false := decide_eq_false c2
      simp (disch := (first | omega | assumption)) only [hlt', idx_nat, List.length_map, hgv, c1, withinF_eq, d2, if_false, go_sem, evP_D, evD_guard, evD_cons, evD_zero, evD_nil]
    have d2 : decide (-1000000 ≤ a ∧ a ≤ 1000000) = true := decide_eq_true c2
    by_cases c3 : 0 ≤ b ∧ b ≤ 1000000000000
    case neg =>
      rw [mvE_1 (by omega), if_neg (by omega)] at hd
      subst hd
      have d3 : decide (0 ≤ b ∧ b ≤ 1000000000000) = false := decide_eq_false c3
      simp (disch := (first | omega | assumption)) only [hlt', idx_nat, List.length_map, hgv, c1, withinF_eq, d2, d3, if_false, go_sem, evP_D, evD_guard, evD_cons, evD_zero, evD_nil]
    have d3 : decide (0 ≤ b ∧ b ≤ 1000000000000) = true := decide_eq_true c3
    by_cases c6 : a < 0
    · by_cases c7 : 0 < b
      · rw [mvE_3 (by omega) ⟨c6, by omega⟩, if_neg (by omega)] at hd
        subst hd
        simp (disch := (first | omega | assumption)) only [hlt', idx_nat, List.length_map, hgv, c1, withinF_eq, d2, d3, c6, c7, if_false, go_sem, evP_D, evD_guard, evD_cons, evD_zero, evD_nil]
      · rw [mvE_0 (by omega) (by omega), if_pos rfl] at hd
        simp (disch := (first | omega | assumption)) only [hlt', idx_nat, List.length_map, hgv, c1, withinF_eq, d2, d3, c6, c7, go_sem, evP_D, evD_guard, evD_cons, evD_zero, evD_nil]
        exact ⟨⟨k + 1, ⟨hlt, hd⟩, rfl⟩, hms⟩
    · rw [mvE_0 (by omega) (by omega), if_pos rfl] at hd
      simp (disch := (first | omega | assumption)) only [hlt', idx_nat, List.length_map, hgv, c1, withinF_eq, d2, d3, c6, go_sem, evP_D, evD_guard, evD_cons, evD_zero, evD_nil]
      exact ⟨⟨k + 1, ⟨hlt, hd⟩, rfl⟩, hms⟩
end Go.Proofs.Ytdmkmbaaemhhhaa
