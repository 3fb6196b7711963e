/-
  What pieces cost that go, run by the machine: pieces by their places.
-/
import Derived.Test.YtdmkmbaaemhhhaaStkF
namespace Go.Stk
def spG (l : List Sp) (k : Nat) : Sp := l.getD k (0, 0, 0)
theorem sp_get {l : List Sp} {k : Nat} (h : k < l.length) : l[k]? = some (spG l k) := by unfold spG; rw [List.getD_eq_getElem?_getD, List.getElem?_eq_getElem h]; rfl
theorem sp_at {l : List Sp} {k : Nat} (h : k < l.length) : l[k] = spG l k := by
  have := sp_get h
  rw [List.getElem?_eq_getElem h] at this
  exact Option.some.inj this
theorem sp_drop {l : List Sp} {k : Nat} (h : k < l.length) : l.drop k = spG l k :: l.drop (k + 1) := by rw [List.drop_eq_getElem_cons h, sp_at h]
theorem sp_take {l : List Sp} {k : Nat} (h : k < l.length) : l.take (k + 1) = l.take k ++ [spG l k] := by rw [List.take_add_one, sp_get h]; rfl
/-- the first j spans are sold from -/
def partL (gone to : Int) (S : List Sp) (j : Nat) : List Sp := sellL gone to (S.take j) ++ S.drop j
def partC (gone to : Int) (S : List Sp) (j : Nat) : Int := sellC gone to (S.take j)
theorem partL_zero (gone to : Int) (S : List Sp) : partL gone to S 0 = S := rfl
theorem partC_zero (gone to : Int) (S : List Sp) : partC gone to S 0 = 0 := rfl
theorem sellL_len (gone to : Int) (S : List Sp) : (sellL gone to S).length = S.length := List.length_map ..
theorem partL_len (gone to : Int) (S : List Sp) (j : Nat) : (partL gone to S j).length = S.length := by
  unfold partL; rw [List.length_append, sellL_len, List.length_take, List.length_drop]; omega
theorem partL_end (gone to : Int) (S : List Sp) : partL gone to S S.length = sellL gone to S := by unfold partL; rw [List.take_length, List.drop_length, List.append_nil]
theorem partC_end (gone to : Int) (S : List Sp) : partC gone to S S.length = sellC gone to S := by unfold partC; rw [List.take_length]
theorem partC_step {gone to : Int} {S : List Sp} {j : Nat} (h : j < S.length) : partC gone to S (j + 1) = partC gone to S j + (spanS gone to (spG S j)).2 := by
  unfold partC; rw [sp_take h, sellC_app]; simp [sellC]
theorem partL_step {gone to : Int} {S : List Sp} {j : Nat} (h : j < S.length) : partL gone to S (j + 1) = sellL gone to (S.take j) ++ (spanS gone to (spG S j)).1 :: S.drop (j + 1) := by
  unfold partL; rw [sp_take h, sellL_app, List.append_assoc]; rfl
theorem partL_now {gone to : Int} {S : List Sp} {j : Nat} (h : j < S.length) : partL gone to S j = sellL gone to (S.take j) ++ spG S j :: S.drop (j + 1) := by
  unfold partL; rw [sp_drop h]
theorem take_len {gone to : Int} {S : List Sp} {j : Nat} (h : j < S.length) : (sellL gone to (S.take j)).length = j := by rw [sellL_len, List.length_take]; omega
theorem partL_get {gone to : Int} {S : List Sp} {j : Nat} (h : j < S.length) : (partL gone to S j)[j]? = some (spG S j) := by
  rw [partL_now h, List.getElem?_append_right (by rw [take_len h]; exact Nat.le_refl _), take_len h, Nat.sub_self]; rfl
theorem partL_set {gone to : Int} {S : List Sp} {j : Nat} (h : j < S.length) : (partL gone to S j).set j (spanS gone to (spG S j)).1 = partL gone to S (j + 1) := by
  rw [partL_now h, partL_step h, List.set_append_right _ _ (by rw [take_len h]; exact Nat.le_refl _), take_len h, Nat.sub_self]; rfl
theorem partL_same {gone to : Int} {S : List Sp} {j : Nat} (h : j < S.length) (e : (spanS gone to (spG S j)).1 = spG S j) : partL gone to S (j + 1) = partL gone to S j := by
  rw [partL_now h, partL_step h, e]
/-- what a span may be -/
def spOk (inn : Int) (s : Sp) : Prop := 0 ≤ s.1 ∧ s.1 ≤ s.2.1 ∧ s.2.1 ≤ inn ∧ s.2.1 - s.1 ≤ 1000000 ∧ 0 ≤ s.2.2 ∧ s.2.2 ≤ 1000000000000
theorem span_bd {inn gone to f t c : Int} (h : spOk inn (f, t, c)) (h1 : ¬ min t to ≤ max f gone) :
    0 ≤ c * (min t to - max f gone) ∧ c * (min t to - max f gone) ≤ 1000000000000000000 ∧ 0 ≤ (c * (min t to - max f gone)).tdiv (t - max f gone) ∧ (c * (min t to - max f gone)).tdiv (t - max f gone) ≤ c := by
  obtain ⟨h2, h3, h4, h5, h6, h7⟩ := h
  simp only at h2 h3 h4 h5 h6 h7
  have d0 : 0 ≤ min t to - max f gone := by omega
  have d1 : min t to - max f gone ≤ t - max f gone := by omega
  have d2 : t - max f gone ≤ 1000000 := by omega
  have d3 : 1 ≤ t - max f gone := by omega
  generalize min t to - max f gone = d at *
  generalize t - max f gone = D at *
  have e0 : 0 ≤ c * d := Int.mul_nonneg h6 d0
  have e1 : c * d ≤ 1000000000000 * 1000000 := Int.mul_le_mul h7 (by omega) d0 (by omega)
  refine ⟨e0, by omega, Int.tdiv_nonneg e0 (by omega), ?_⟩
  rw [Int.tdiv_eq_ediv_of_nonneg e0]
  have e2 : c * d ≤ c * D := Int.mul_le_mul_of_nonneg_left d1 h6
  have : c * d / D < c + 1 := by
    rw [Int.ediv_lt_iff_lt_mul (by omega), Int.add_mul]
    omega
  omega
theorem span_ok {inn gone to : Int} {s : Sp} (h : spOk inn s) (hg : 0 ≤ gone) : spOk inn (spanS gone to s).1 ∧ 0 ≤ (spanS gone to s).2 ∧ (spanS gone to s).2 ≤ 1000000000000 := by
  obtain ⟨f, t, c⟩ := s
  have h' := h
  obtain ⟨h2, h3, h4, h5, h6, h7⟩ := h
  simp only at h2 h3 h4 h5 h6 h7
  unfold spanS
  simp only
  by_cases k1 : min t to ≤ max f gone
  · rw [if_pos k1]; exact ⟨h', Int.le_refl _, by omega⟩
  rw [if_neg k1]
  by_cases k2 : min t to < t
  · have hb := span_bd h' k1
    rw [if_pos k2]
    generalize (c * (min t to - max f gone)).tdiv (t - max f gone) = p at *
    exact ⟨⟨by show 0 ≤ min t to; omega, by show min t to ≤ t; omega, h4, by show t - min t to ≤ 1000000; omega, by show 0 ≤ c - p; omega, by show c - p ≤ 1000000000000; omega⟩, hb.2.2.1, by show p ≤ 1000000000000; omega⟩
  · rw [if_neg k2]
    exact ⟨⟨by show 0 ≤ min t to; omega, by show min t to ≤ t; omega, h4, by show t - min t to ≤ 1000000; omega, by show 0 ≤ c - c; omega, by show c - c ≤ 1000000000000; omega⟩, h6, h7⟩
def spsOk (inn : Int) (S : List Sp) : Prop := ∀ s ∈ S, spOk inn s
theorem sps_at {inn : Int} {S : List Sp} (h : spsOk inn S) {j : Nat} (hj : j < S.length) : spOk inn (spG S j) := h _ (List.mem_of_getElem? (sp_get hj))
theorem sps_sell {inn gone to : Int} {S : List Sp} (h : spsOk inn S) (hg : 0 ≤ gone) : spsOk inn (sellL gone to S) := by
  intro s hs
  obtain ⟨x, hx, rfl⟩ := List.mem_map.1 hs
  exact (span_ok (h x hx) hg).1
theorem sps_add {inn x y : Int} {S : List Sp} (h : spsOk inn S) (hi : 0 ≤ inn) (hx : 0 < x) (hx1 : x ≤ 1000000) (hy : 0 ≤ y) (hy1 : y ≤ 1000000000000) : spsOk (inn + x) (S ++ [(inn, inn + x, y)]) := by
  intro s hs
  rw [List.mem_append] at hs
  rcases hs with hs | hs
  · obtain ⟨h2, h3, h4, h5, h6, h7⟩ := h s hs
    exact ⟨h2, h3, by omega, h5, h6, h7⟩
  · simp at hs
    subst hs
    exact ⟨hi, by show inn ≤ inn + x; omega, Int.le_refl _, by show inn + x - inn ≤ 1000000; omega, hy, hy1⟩
theorem partC_bd {inn gone to : Int} {S : List Sp} (h : spsOk inn S) (hg : 0 ≤ gone) : ∀ {j : Nat}, j ≤ S.length → 0 ≤ partC gone to S j ∧ partC gone to S j ≤ j * 1000000000000
  | 0, _ => by rw [partC_zero]; omega
  | j + 1, hj => by
    have ih := partC_bd (gone := gone) (to := to) h hg (j := j) (by omega)
    have hs := (span_ok (to := to) (sps_at h (j := j) (by omega)) hg).2
    rw [partC_step (by omega)]
    omega
/-- lots that are left -/
theorem lots_step {S : List Sp} {j : Nat} (h : j < S.length) : lotsG (S.take (j + 1)) = if (spG S j).1 < (spG S j).2.1 then lotsG (S.take j) ++ [((spG S j).2.1 - (spG S j).1, (spG S j).2.2)] else lotsG (S.take j) := by
  rw [sp_take h, lots_app]
  by_cases c : (spG S j).1 < (spG S j).2.1
  · rw [if_pos c]
    unfold lotsG
    rw [List.filter_cons_of_pos (by simpa using c)]
    rfl
  · rw [if_neg c]
    have : lotsG [spG S j] = [] := by
      unfold lotsG
      rw [List.filter_cons_of_neg (by simpa using c)]
      rfl
    rw [this, List.append_nil]
theorem lots_len (S : List Sp) : (lotsG S).length ≤ S.length := by unfold lotsG; rw [List.length_map]; exact List.length_filter_le ..
end Go.Stk
namespace Go.Proofs.Ytdmkmbaaemhhhaa
open Go Go.Ev Go.RowKit Go.Stk
set_option maxHeartbeats 4000000
set_option linter.unusedSimpArgs false
set_option linter.unusedVariables false

theorem minI (a b : Int) : (if b < a then b else a) = min a b := by split <;> omega
theorem maxI (a b : Int) : (if b > a then b else a) = max a b := by split <;> omega
def spV (s : Sp) : V := .agg [.int .i64 s.1, .int .i64 s.2.1, .int .i64 s.2.2]
theorem spV_get {l : List Sp} {k : Nat} {a b c : Int} (h : l[k]? = some (a, b, c)) : (l.map spV)[k]? = some (.agg [.int .i64 a, .int .i64 b, .int .i64 c]) := by rw [List.getElem?_map, h]; rfl
set_option maxHeartbeats 8000000 in
theorem rfifo_sound {J : World → Prop} (hJ : Stable J) (l : List Mv) (he : lookE l = 0) : SoundAt Try.prog J 8 [.row 2 (l.map mvV)] (.tup [.vec 0, .vec 1]) [.vec 3 1 ((rfifoG l [] 0 0 []).1.map (V.int .i64)), .vec 29 2 ((lotsG (rfifoG l [] 0 0 []).2).map lotV)] := by
  refine SoundAt.row 0 rfl (callOk Try.func8 rfl rfl) fun hlen => ?_
  simp only [maxLen, List.length_map] at hlen
  obtain ⟨R, hR⟩ : ∃ R, R = rfifoG l [] 0 0 [] := ⟨_, rfl⟩
  rw [← hR]
  obtain ⟨h40, hm⟩ := look_0 he
  refine evFn (l := []) (nv := (nvL [(4, (54, 3)), (7, (3, 1)), (17, (29, 2))])) (fz := fz0) (dr := dr8) (dd := dd8) (lam := []) (ms := ms0) trivial hJ trivial ms0_ok Try.func8 rfl rfl (Nat.le_of_ble_eq_true rfl) (Nat.le_of_ble_eq_true rfl) drOk8 ?_
  dsimp only [Try.f8, dr8, dd8, Option.getD_some]
  refine ev_start ?_
  simp (disch := omega) only [List.length_map, go_sem, evP_D, evD_guard, evD_cons, evD_zero, evD_nil]
  refine evQ_loop [4, 5, 6, 7, 20, 21, 22] [32, 56] (fun σ => ∃ (k : Nat) (S : List Sp) (inn gone : Int) (out : List Int), (k ≤ l.length ∧ rfifoG (l.drop k) S inn gone out = R ∧ 0 ≤ inn ∧ inn ≤ k * 1000000 ∧ 0 ≤ gone ∧ gone ≤ k * 1000000 ∧ spsOk inn S ∧ S.length ≤ k ∧ out.length ≤ k) ∧
    σ = ⟨[(4, .vec 32), (5, .int .i64 inn), (6, .int .i64 gone), (7, .vec 56), (20, .row 2 (l.map mvV)), (21, .int .i64 l.length), (22, .int .i64 k)], [(32, .vec 54 3 (S.map spV)), (56, .vec 3 1 (out.map (V.int .i64)))]⟩)
    (fun σ => l.length - (match Ev.look 22 σ.env with | some (.int _ n) => n.toNat | _ => 0)) ?_ ?_
  · simp only [go_sem, evP_D, evD_guard, evD_cons, evD_zero, evD_nil]
    exact ⟨0, [], 0, 0, [], ⟨Nat.zero_le _, hR.symm, by omega, by omega, by omega, by omega, fun s hs => (by simp at hs), Nat.le_refl _, Nat.le_refl _⟩, rfl⟩
  · rintro σ ⟨k, S, inn, gone, out, ⟨hk, hd, i0, i1, g0, g1, hS, hSl, ho⟩, rfl⟩
    by_cases hlt : k < l.length
    case neg =>
      have hk' : k = l.length := by omega
      subst hk'
      have hlt' : ¬ ((l.length : Int) < l.length) := by omega
      rw [List.drop_length] at hd
      have hd' : (out, S) = R := hd
      subst hd'
      simp (disch := (first | omega | assumption)) only [hlt', List.length_map, go_sem, evP_D, evD_guard, evD_cons, evD_zero, evD_nil]
      refine evQ_loop [7, 17, 104, 105, 106] [32, 56, 136] (fun σ => ∃ (j : Nat), j ≤ S.length ∧ σ = ⟨[(7, .vec 56), (17, .vec 136), (104, .vec 32), (105, .int .i64 S.length), (106, .int .i64 j)], [(32, .vec 54 3 (S.map spV)), (56, .vec 3 1 (out.map (V.int .i64))), (136, .vec 29 2 ((lotsG (S.take j)).map lotV))]⟩)
        (fun σ => S.length - (match Ev.look 106 σ.env with | some (.int _ n) => n.toNat | _ => 0)) ?_ ?_
      · simp only [go_sem, evP_D, evD_guard, evD_cons, evD_zero, evD_nil]
        exact ⟨0, Nat.zero_le _, rfl⟩
      · rintro σ ⟨j, hj, rfl⟩
        by_cases hjl : j < S.length
        case neg =>
          have hj' : j = S.length := by omega
          subst hj'
          have hjl' : ¬ ((S.length : Int) < S.length) := by omega
          simp (disch := (first | omega | assumption)) only [hjl', List.take_length, go_sem, evP_D, evD_guard, evD_cons, evD_zero, evD_nil]
        have hjl' : (j : Int) < S.length := by omega
        have hsg := sp_get hjl
        have hsk := sps_at hS hjl
        have hmj := sub_ms hjl
        have hst := lots_step hjl
        have hll : (lotsG (S.take j)).length ≤ j := Nat.le_trans (lots_len _) (by rw [List.length_take]; omega)
        generalize spG S j = s at *
        obtain ⟨f, t, c⟩ := s
        simp only at hst
        have hsv := spV_get hsg
        obtain ⟨z2, z3, z4, z5, z6, z7⟩ := hsk
        simp only at z2 z3 z4 z5 z6 z7
        by_cases c1 : f < t
        · rw [if_pos c1] at hst
          simp (disch := (first | omega | assumption)) only [hjl', idx_nat, List.length_map, hsv, c1, go_sem, evP_D, evD_guard, evD_cons, evD_zero, evD_nil]
          exact ⟨⟨j + 1, hjl, by rw [hst, List.map_append]; rfl⟩, hmj⟩
        · rw [if_neg c1] at hst
          simp (disch := (first | omega | assumption)) only [hjl', idx_nat, List.length_map, hsv, c1, go_sem, evP_D, evD_guard, evD_cons, evD_zero, evD_nil]
          exact ⟨⟨j + 1, hjl, by rw [hst]; rfl⟩, hmj⟩
    have hlt' : (k : Int) < l.length := by omega
    have hg := mv_get hlt
    have hms := sub_ms hlt
    have hok := mvE_ok (mvs_at hm hlt)
    rw [mv_drop hlt] at hd
    unfold rfifoG at hd
    generalize mvG l k = m at *
    obtain ⟨x, y⟩ := m
    simp only at hok hd
    have hgv := mvV_get hg
    by_cases k1 : 0 < x
    · rw [if_pos k1] at hd
      simp (disch := (first | omega | assumption)) only [hlt', idx_nat, List.length_map, hgv, k1, go_sem, evP_D, evD_guard, evD_cons, evD_zero, evD_nil]
      exact ⟨⟨k + 1, S ++ [(inn, inn + x, y)], inn + x, gone, out, ⟨hlt, hd, by omega, by omega, by omega, by omega, sps_add hS i0 k1 (by omega) (by omega) (by omega), by simp; omega, by omega⟩, by rw [List.map_append]; rfl⟩, hms⟩
    rw [if_neg k1] at hd
    simp (disch := (first | omega | assumption)) only [hlt', idx_nat, List.length_map, hgv, k1, go_sem, evP_D, evD_guard, evD_cons, evD_zero, evD_nil]
    refine evQ_loop [4, 5, 6, 7, 10, 11, 20, 21, 22, 48, 49, 50] [32, 56] (fun σ => ∃ (j : Nat), j ≤ S.length ∧ σ = ⟨[(4, .vec 32), (5, .int .i64 inn), (6, .int .i64 gone), (7, .vec 56), (10, .int .i64 (gone - x)), (11, .int .i64 (partC gone (gone - x) S j)), (20, .row 2 (l.map mvV)), (21, .int .i64 l.length), (22, .int .i64 k), (48, .vec 32), (49, .int .i64 S.length), (50, .int .i64 j)], [(32, .vec 54 3 ((partL gone (gone - x) S j).map spV)), (56, .vec 3 1 (out.map (V.int .i64)))]⟩)
      (fun σ => S.length - (match Ev.look 50 σ.env with | some (.int _ n) => n.toNat | _ => 0)) ?_ ?_
    · simp only [go_sem, evP_D, evD_guard, evD_cons, evD_zero, evD_nil]
      exact ⟨0, Nat.zero_le _, rfl⟩
    · rintro σ ⟨j, hj, rfl⟩
      by_cases hjl : j < S.length
      case neg =>
        have hj' : j = S.length := by omega
        subst hj'
        have hjl' : ¬ ((S.length : Int) < S.length) := by omega
        simp (disch := (first | omega | assumption)) only [hjl', partL_end, partC_end, List.length_map, go_sem, evP_D, evD_guard, evD_cons, evD_zero, evD_nil]
        exact ⟨⟨k + 1, sellL gone (gone - x) S, inn, gone - x, out ++ [sellC gone (gone - x) S], ⟨hlt, hd, i0, by omega, by omega, by omega, sps_sell hS g0, by rw [sellL_len]; omega, by simp; omega⟩, by rw [List.map_append]; rfl⟩, hms⟩
      have hjl' : (j : Int) < S.length := by omega
      have hsg := partL_get (gone := gone) (to := gone - x) hjl
      have hsk := sps_at hS hjl
      have hmj := sub_ms hjl
      have hst := partL_set (gone := gone) (to := gone - x) hjl
      have hsm := partL_same (gone := gone) (to := gone - x) hjl
      have hct := partC_step (gone := gone) (to := gone - x) hjl
      have hpl := partL_len gone (gone - x) S j
      have hpb := partC_bd (to := gone - x) hS g0 hj
      generalize spG S j = s at *
      obtain ⟨f, t, c⟩ := s
      have hsv := spV_get hsg
      have hspb := span_bd (to := gone - x) hsk (gone := gone)
      obtain ⟨z2, z3, z4, z5, z6, z7⟩ := hsk
      simp only at z2 z3 z4 z5 z6 z7
      unfold spanS at hst hsm hct
      simp only at hst hsm hct
      by_cases c1 : min t (gone - x) ≤ max f gone
      · rw [if_pos c1] at hst hsm hct
        simp (disch := (first | omega | assumption)) only [hjl', idx_nat, List.length_map, hpl, hsv, minI, maxI, c1, go_sem, evP_D, evD_guard, evD_cons, evD_zero, evD_nil]
        exact ⟨⟨j + 1, hjl, by rw [hsm rfl, hct, Int.add_zero]; rfl⟩, hmj⟩
      · rw [if_neg c1] at hst hsm hct
        have hb := hspb c1
        have k3 : t - max f gone ≠ 0 := by omega
        by_cases c2 : min t (gone - x) < t
        · rw [if_pos c2] at hst hct
          generalize hw : (c * (min t (gone - x) - max f gone)).tdiv (t - max f gone) = w at *
          simp (disch := (first | omega | assumption)) only [hjl', idx_nat, List.length_map, hpl, hsv, minI, maxI, c1, c2, k3, hw, go_sem, evP_D, evD_guard, evD_cons, evD_zero, evD_nil]
          exact ⟨⟨j + 1, hjl, by rw [← hst, hct, List.map_set]; rfl⟩, hmj⟩
        · rw [if_neg c2] at hst hct
          simp (disch := (first | omega | assumption)) only [hjl', idx_nat, List.length_map, hpl, hsv, minI, maxI, c1, c2, k3, go_sem, evP_D, evD_guard, evD_cons, evD_zero, evD_nil]
          exact ⟨⟨j + 1, hjl, by rw [← hst, hct, List.map_set]; rfl⟩, hmj⟩
end Go.Proofs.Ytdmkmbaaemhhhaa
