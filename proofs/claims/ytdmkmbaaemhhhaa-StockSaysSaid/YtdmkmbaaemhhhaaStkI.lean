/-
  What pieces cost that go, run by the machine: lots taken from a shelf.
-/
import Derived.Test.YtdmkmbaaemhhhaaStkH
namespace Go.Stk
def ltG (l : List Lt) (k : Nat) : Lt := l.getD k (0, 0)
theorem lt_get {l : List Lt} {k : Nat} (h : k < l.length) : l[k]? = some (ltG l k) := by unfold ltG; rw [List.getD_eq_getElem?_getD, List.getElem?_eq_getElem h]; rfl
theorem lt_at {l : List Lt} {k : Nat} (h : k < l.length) : l[k] = ltG l k := by
  have := lt_get h
  rw [List.getElem?_eq_getElem h] at this
  exact Option.some.inj this
theorem lt_drop {l : List Lt} {k : Nat} (h : k < l.length) : l.drop k = ltG l k :: l.drop (k + 1) := by rw [List.drop_eq_getElem_cons h, lt_at h]
def ltsOk (l : List Lt) : Prop := ∀ p ∈ l, 0 < p.1 ∧ p.1 ≤ 1000000 ∧ 0 ≤ p.2 ∧ p.2 ≤ 1000000000000
theorem lts_at {l : List Lt} (h : ltsOk l) {k : Nat} (hk : k < l.length) : 0 < (ltG l k).1 ∧ (ltG l k).1 ≤ 1000000 ∧ 0 ≤ (ltG l k).2 ∧ (ltG l k).2 ≤ 1000000000000 := h _ (List.mem_of_getElem? (lt_get hk))
theorem part_bd {a c n : Int} (a0 : 0 < a) (a1 : a ≤ 1000000) (c0 : 0 ≤ c) (c1 : c ≤ 1000000000000) (n0 : 0 < n) (n1 : n < a) : 0 ≤ c * n ∧ c * n ≤ 1000000000000000000 ∧ 0 ≤ (c * n).tdiv a ∧ (c * n).tdiv a ≤ c := by
  have e0 : 0 ≤ c * n := Int.mul_nonneg c0 (by omega)
  have e1 : c * n ≤ 1000000000000 * 1000000 := Int.mul_le_mul c1 (by omega) (by omega) (by omega)
  refine ⟨e0, by omega, Int.tdiv_nonneg e0 (by omega), ?_⟩
  rw [Int.tdiv_eq_ediv_of_nonneg e0]
  have e2 : c * n ≤ c * a := Int.mul_le_mul_of_nonneg_left (by omega) c0
  have : c * n / a < c + 1 := by
    rw [Int.ediv_lt_iff_lt_mul a0, Int.add_mul]
    omega
  omega
end Go.Stk
namespace Go.Proofs.Ytdmkmbaaemhhhaa
open Go Go.Ev Go.RowKit Go.Stk
set_option maxHeartbeats 4000000
set_option linter.unusedSimpArgs false
set_option linter.unusedVariables false

theorem ltV_get {l : List Lt} {k : Nat} {a b : Int} (h : l[k]? = some (a, b)) : (l.map lotV)[k]? = some (.agg [.int .i64 a, .int .i64 b]) := by rw [List.getElem?_map, h]; rfl
def tkX : Option (List Lt × Int) → Int
  | some (_, x) => x
  | none => 0
def tkB : Option (List Lt × Int) → Bool
  | some _ => true
  | none => false
def tkK : Option (List Lt × Int) → Nat
  | some (S, _) => S.length
  | none => 0
def tkE (E : List Lt) : Option (List Lt × Int) → List Lt
  | some (S, _) => E.take (E.length - S.length) ++ S
  | none => E
set_option maxHeartbeats 8000000 in
theorem take_mut {J : World → Prop} (hJ : Stable J) (E : List Lt) (lo : Nat) (n : Int) (h40 : E.length ≤ 40) (hlo : lo ≤ E.length) (hE : ltsOk E) (hn : n ≤ 1000000) :
    MutAt Try.prog J 17 [.vec 29 2 (E.map lotV), .box (.agg [.sub 1000000 2 lo (E.length - lo)])] [.ptr 1000001 0, .int .i64 n] (.tup [.int .i64 (tkX (takeG (E.drop lo) n 0)), .bool (tkB (takeG (E.drop lo) n 0))])
      [.vec 29 2 ((tkE E (takeG (E.drop lo) n 0)).map lotV), .box (.agg [.sub 1000000 2 (E.length - tkK (takeG (E.drop lo) n 0)) (tkK (takeG (E.drop lo) n 0))])] := by
  obtain ⟨R, hR⟩ : ∃ R, R = takeG (E.drop lo) n 0 := ⟨_, rfl⟩
  rw [← hR]
  refine evMut (l := []) (nv := nv0) (fz := fz0) (dr := dr17) (dd := dd17) (lam := []) (ms := ms0) trivial hJ trivial ms0_ok Try.func17 rfl rfl (Nat.le_of_ble_eq_true rfl) (Nat.le_of_ble_eq_true rfl) drOk17 rfl rfl ?_ ?_
  rotate_left
  dsimp only [Try.f17, dr17, dd17, Option.getD_some]
  refine ev_start ?_
  · simp (disch := omega) only [List.length_map, go_sem, evP_D, evD_guard, evD_cons, evD_zero, evD_nil]
    refine evQ_loop [0, 1, 6] [1000000, 1000001] (fun σ => ∃ (k : Nat) (m x : Int), (lo ≤ k ∧ k ≤ E.length ∧ takeG (E.drop k) m x = R ∧ m ≤ 1000000 ∧ 0 ≤ x ∧ x ≤ k * 1000000000000) ∧
      σ = ⟨[(0, .ptr 1000001 0), (1, .int .i64 m), (6, .int .i64 x)], [(1000000, .vec 29 2 (E.map lotV)), (1000001, .box (.agg [.sub 1000000 2 k (E.length - k)]))]⟩)
      (fun σ => match Ev.look 1000001 σ.hp with | some (.box (.agg [.sub _ _ _ k])) => k | _ => 0) ?_ ?_
    · simp only [go_sem, evP_D, evD_guard, evD_cons, evD_zero, evD_nil]
      exact ⟨lo, n, 0, ⟨Nat.le_refl _, hlo, hR.symm, hn, Int.le_refl _, by omega⟩, rfl⟩
    · rintro σ ⟨k, m, x, ⟨l0, l1, hd, m1, x0, x1⟩, rfl⟩
      by_cases hm : 0 < m
      · by_cases hk : k < E.length
        · have hz : ¬ ((E.length - k : Nat) : Int) = 0 := by omega
          have hz2 : 0 < E.length - k := by omega
          have hz3 : (1 : Int) ≤ ((E.length - k : Nat) : Int) := by omega
          have hix : idx (E.length - k) 0 = some 0 := by
            have := idx_nat (E.length - k) 0 hz2
            simpa using this
          have hsz := lts_at hE hk
          have hg := lt_get hk
          rw [lt_drop hk] at hd
          unfold takeG at hd
          rw [if_neg (by omega)] at hd
          have hset : ∀ y : Lt, E.length - (y :: E.drop (k + 1)).length = k := fun y => by rw [List.length_cons, List.length_drop]; omega
          have hst : ∀ y : Lt, E.set k y = E.take k ++ y :: E.drop (k + 1) := fun y => by rw [List.set_eq_take_append_cons_drop, if_pos hk]
          generalize ltG E k = q at *
          obtain ⟨a, c⟩ := q
          simp only at hd hsz
          have hgv := ltV_get hg
          obtain ⟨a0, a1, c0, c1⟩ := hsz
          by_cases h1 : a ≤ m
          · rw [if_pos h1] at hd
            simp (disch := (first | omega | assumption)) only [hm, hz, hz2, hz3, hix, h1, hgv, Nat.add_zero, List.length_map, go_sem, evP_D, evD_guard, evD_cons, evD_zero, evD_nil]
            exact ⟨⟨k + 1, m - a, x + c, ⟨by omega, hk, hd, by omega, by omega, by omega⟩, by rw [show E.length - (k + 1) = E.length - k - 1 by omega]; rfl⟩, by show E.length - k - 1 < E.length - k; omega⟩
          · rw [if_neg h1] at hd
            have hb := part_bd a0 a1 c0 c1 hm (by omega)
            have ha : a ≠ 0 := by omega
            have hgs : ∀ v : V, ((E.map lotV).set k v)[k]? = some v := fun v => List.getElem?_set_self (by rw [List.length_map]; exact hk)
            subst hd
            simp (disch := (first | omega | assumption)) only [hm, hz, hz2, hz3, hix, h1, hgv, hgs, List.set_set, ha, Nat.add_zero, List.length_map, go_sem, evP_D, evD_guard, evD_cons, evD_zero, evD_nil]
            generalize (c * m).tdiv a = z at *
            refine ⟨rfl, ?_, ?_⟩
            · show some (Blk.vec 29 2 ((E.map lotV).set k (lotV (a - m, c - z)))) = some (Blk.vec 29 2 ((E.take (E.length - ((a - m, c - z) :: E.drop (k + 1)).length) ++ (a - m, c - z) :: E.drop (k + 1)).map lotV))
              rw [hset, ← hst, List.map_set]
            · show some (Blk.box (.agg [.sub 1000000 2 k (E.length - k)])) = some (Blk.box (.agg [.sub 1000000 2 (E.length - ((a - m, c - z) :: E.drop (k + 1)).length) ((a - m, c - z) :: E.drop (k + 1)).length]))
              rw [hset, show ((a - m, c - z) :: E.drop (k + 1)).length = E.length - k by rw [List.length_cons, List.length_drop]; omega]
        · have hk' : k = E.length := by omega
          subst hk'
          have hz : ((E.length - E.length : Nat) : Int) = 0 := by omega
          rw [List.drop_length] at hd
          unfold takeG at hd
          rw [if_neg (by omega)] at hd
          subst hd
          simp (disch := (first | omega | assumption)) only [hm, hz, List.length_map, go_sem, evP_D, evD_guard, evD_cons, evD_zero, evD_nil]
          exact ⟨rfl, rfl, by rw [Nat.sub_self]; rfl⟩
      · have hd2 : some (E.drop k, x) = R := by
          rw [← hd]
          cases E.drop k <;> (unfold takeG; rw [if_pos (by omega)])
        subst hd2
        have e1 : E.length - (E.drop k).length = k := by rw [List.length_drop]; omega
        have e2 : tkE E (some (E.drop k, x)) = E := by
          show E.take (E.length - (E.drop k).length) ++ E.drop k = E
          rw [e1, List.take_append_drop]
        have e3 : tkK (some (E.drop k, x)) = E.length - k := List.length_drop ..
        have e4 : E.length - (E.length - k) = k := by omega
        simp (disch := (first | omega | assumption)) only [hm, e2, e3, e4, List.length_map, go_sem, evP_D, evD_guard, evD_cons, evD_zero, evD_nil]
        rfl
  · intro k hk
    simp only [List.mem_cons, List.not_mem_nil, or_false] at hk
    rcases hk with rfl | rfl
    · simp only [Blk.lone, List.all_eq_true]
      intro v hv
      obtain ⟨y, _, rfl⟩ := List.mem_map.1 hv
      rfl
    · rfl
set_option maxHeartbeats 8000000 in
theorem take_mut0 {J : World → Prop} (hJ : Stable J) (E : List Lt) (lo : Nat) (n : Int) (h40 : E.length ≤ 40) (hlo : lo ≤ E.length) (hE : ltsOk E) (hn : n ≤ 1000000) :
    MutAt Try.prog J 17 [.vec 29 2 (E.map lotV), .box (.sub 1000000 2 lo (E.length - lo))] [.ptr 1000001 0, .int .i64 n] (.tup [.int .i64 (tkX (takeG (E.drop lo) n 0)), .bool (tkB (takeG (E.drop lo) n 0))])
      [.vec 29 2 ((tkE E (takeG (E.drop lo) n 0)).map lotV), .box (.sub 1000000 2 (E.length - tkK (takeG (E.drop lo) n 0)) (tkK (takeG (E.drop lo) n 0)))] := by
  obtain ⟨R, hR⟩ : ∃ R, R = takeG (E.drop lo) n 0 := ⟨_, rfl⟩
  rw [← hR]
  refine evMut (l := []) (nv := nv0) (fz := fz0) (dr := dr17) (dd := dd17) (lam := []) (ms := ms0) trivial hJ trivial ms0_ok Try.func17 rfl rfl (Nat.le_of_ble_eq_true rfl) (Nat.le_of_ble_eq_true rfl) drOk17 rfl rfl ?_ ?_
  rotate_left
  dsimp only [Try.f17, dr17, dd17, Option.getD_some]
  refine ev_start ?_
  · simp (disch := omega) only [List.length_map, go_sem, evP_D, evD_guard, evD_cons, evD_zero, evD_nil]
    refine evQ_loop [0, 1, 6] [1000000, 1000001] (fun σ => ∃ (k : Nat) (m x : Int), (lo ≤ k ∧ k ≤ E.length ∧ takeG (E.drop k) m x = R ∧ m ≤ 1000000 ∧ 0 ≤ x ∧ x ≤ k * 1000000000000) ∧
      σ = ⟨[(0, .ptr 1000001 0), (1, .int .i64 m), (6, .int .i64 x)], [(1000000, .vec 29 2 (E.map lotV)), (1000001, .box (.sub 1000000 2 k (E.length - k)))]⟩)
      (fun σ => match Ev.look 1000001 σ.hp with | some (.box (.sub _ _ _ k)) => k | _ => 0) ?_ ?_
    · simp only [go_sem, evP_D, evD_guard, evD_cons, evD_zero, evD_nil]
      exact ⟨lo, n, 0, ⟨Nat.le_refl _, hlo, hR.symm, hn, Int.le_refl _, by omega⟩, rfl⟩
    · rintro σ ⟨k, m, x, ⟨l0, l1, hd, m1, x0, x1⟩, rfl⟩
      by_cases hm : 0 < m
      · by_cases hk : k < E.length
        · have hz : ¬ ((E.length - k : Nat) : Int) = 0 := by omega
          have hz2 : 0 < E.length - k := by omega
          have hz3 : (1 : Int) ≤ ((E.length - k : Nat) : Int) := by omega
          have hix : idx (E.length - k) 0 = some 0 := by
            have := idx_nat (E.length - k) 0 hz2
            simpa using this
          have hsz := lts_at hE hk
          have hg := lt_get hk
          rw [lt_drop hk] at hd
          unfold takeG at hd
          rw [if_neg (by omega)] at hd
          have hset : ∀ y : Lt, E.length - (y :: E.drop (k + 1)).length = k := fun y => by rw [List.length_cons, List.length_drop]; omega
          have hst : ∀ y : Lt, E.set k y = E.take k ++ y :: E.drop (k + 1) := fun y => by rw [List.set_eq_take_append_cons_drop, if_pos hk]
          generalize ltG E k = q at *
          obtain ⟨a, c⟩ := q
          simp only at hd hsz
          have hgv := ltV_get hg
          obtain ⟨a0, a1, c0, c1⟩ := hsz
          by_cases h1 : a ≤ m
          · rw [if_pos h1] at hd
            simp (disch := (first | omega | assumption)) only [hm, hz, hz2, hz3, hix, h1, hgv, Nat.add_zero, List.length_map, go_sem, evP_D, evD_guard, evD_cons, evD_zero, evD_nil]
            exact ⟨⟨k + 1, m - a, x + c, ⟨by omega, hk, hd, by omega, by omega, by omega⟩, by rw [show E.length - (k + 1) = E.length - k - 1 by omega]; rfl⟩, by show E.length - k - 1 < E.length - k; omega⟩
          · rw [if_neg h1] at hd
            have hb := part_bd a0 a1 c0 c1 hm (by omega)
            have ha : a ≠ 0 := by omega
            have hgs : ∀ v : V, ((E.map lotV).set k v)[k]? = some v := fun v => List.getElem?_set_self (by rw [List.length_map]; exact hk)
            subst hd
            simp (disch := (first | omega | assumption)) only [hm, hz, hz2, hz3, hix, h1, hgv, hgs, List.set_set, ha, Nat.add_zero, List.length_map, go_sem, evP_D, evD_guard, evD_cons, evD_zero, evD_nil]
            generalize (c * m).tdiv a = z at *
            refine ⟨rfl, ?_, ?_⟩
            · show some (Blk.vec 29 2 ((E.map lotV).set k (lotV (a - m, c - z)))) = some (Blk.vec 29 2 ((E.take (E.length - ((a - m, c - z) :: E.drop (k + 1)).length) ++ (a - m, c - z) :: E.drop (k + 1)).map lotV))
              rw [hset, ← hst, List.map_set]
            · show some (Blk.box (.sub 1000000 2 k (E.length - k))) = some (Blk.box (.sub 1000000 2 (E.length - ((a - m, c - z) :: E.drop (k + 1)).length) ((a - m, c - z) :: E.drop (k + 1)).length))
              rw [hset, show ((a - m, c - z) :: E.drop (k + 1)).length = E.length - k by rw [List.length_cons, List.length_drop]; omega]
        · have hk' : k = E.length := by omega
          subst hk'
          have hz : ((E.length - E.length : Nat) : Int) = 0 := by omega
          rw [List.drop_length] at hd
          unfold takeG at hd
          rw [if_neg (by omega)] at hd
          subst hd
          simp (disch := (first | omega | assumption)) only [hm, hz, List.length_map, go_sem, evP_D, evD_guard, evD_cons, evD_zero, evD_nil]
          exact ⟨rfl, rfl, by rw [Nat.sub_self]; rfl⟩
      · have hd2 : some (E.drop k, x) = R := by
          rw [← hd]
          cases E.drop k <;> (unfold takeG; rw [if_pos (by omega)])
        subst hd2
        have e1 : E.length - (E.drop k).length = k := by rw [List.length_drop]; omega
        have e2 : tkE E (some (E.drop k, x)) = E := by
          show E.take (E.length - (E.drop k).length) ++ E.drop k = E
          rw [e1, List.take_append_drop]
        have e3 : tkK (some (E.drop k, x)) = E.length - k := List.length_drop ..
        have e4 : E.length - (E.length - k) = k := by omega
        simp (disch := (first | omega | assumption)) only [hm, e2, e3, e4, List.length_map, go_sem, evP_D, evD_guard, evD_cons, evD_zero, evD_nil]
        rfl
  · intro k hk
    simp only [List.mem_cons, List.not_mem_nil, or_false] at hk
    rcases hk with rfl | rfl
    · simp only [Blk.lone, List.all_eq_true]
      intro v hv
      obtain ⟨y, _, rfl⟩ := List.mem_map.1 hv
      rfl
    · rfl
end Go.Proofs.Ytdmkmbaaemhhhaa
