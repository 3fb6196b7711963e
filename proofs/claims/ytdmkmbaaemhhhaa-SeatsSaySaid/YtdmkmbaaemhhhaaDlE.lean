/-
  Seats dealt out by votes, both packages, run by the machine: what may be, the divisors, quotas.
-/
import Derived.Test.YtdmkmbaaemhhhaaFill
import Derived.Test.YtdmkmbaaemhhhaaDlP
namespace Go.Dl
theorem dealG_bd (way : Int) (l : List Int) : ∀ k, (dealG way l k).length = l.length ∧ ∀ i, 0 ≤ vt (dealG way l k) i ∧ vt (dealG way l k) i ≤ k
  | 0 => ⟨List.length_replicate, fun i => by rw [show dealG way l 0 = List.replicate l.length 0 from rfl, vt_rep]; omega⟩
  | k + 1 => by
    obtain ⟨h1, h2⟩ := dealG_bd way l k
    have hd : dealG way l (k + 1) = (dealG way l k).set (bst way l (dealG way l k) l.length).toNat (vt (dealG way l k) (bst way l (dealG way l k) l.length).toNat + 1) := rfl
    generalize dealG way l k = o at *
    generalize (bst way l o l.length).toNat = b at *
    refine ⟨by rw [hd, List.length_set, h1], fun i => ?_⟩
    rw [hd]
    have h3 := h2 i
    have h4 := h2 b
    by_cases hb : b < o.length
    · rw [vt_set hb]
      split <;> omega
    · rw [List.set_eq_of_length_le (by omega)]
      omega
def vbad (u : Int) : Bool := decide (u < 0 ∨ 1000000 < u)
def vsum (l : List Int) : Nat → Int
  | 0 => 0
  | k + 1 => vsum l k + vt l k
def okV (l : List Int) : Prop := ∀ i, i < l.length → 0 ≤ vt l i ∧ vt l i ≤ 1000000
theorem okV_all {l : List Int} (h : okV l) (i : Nat) : 0 ≤ vt l i ∧ vt l i ≤ 1000000 := by
  rcases Nat.lt_or_ge i l.length with hi | hi
  · exact h i hi
  · rw [vt_out hi]; omega
theorem vt_mem {l : List Int} {i : Nat} (h : i < l.length) : vt l i ∈ l := List.mem_of_getElem? (vt_some h)
theorem okV_of {l : List Int} (h : l.any vbad = false) : okV l := fun i hi => by
  rw [List.any_eq_false] at h
  have := h _ (vt_mem hi)
  simp [vbad] at this
  omega
theorem anyV {l : List Int} {p : Int → Bool} {i : Nat} (hi : i < l.length) (h : p (vt l i) = true) : l.any p = true := List.any_eq_true.2 ⟨_, vt_mem hi, h⟩
theorem noV {l : List Int} {p : Int → Bool} (h : ∀ i, i < l.length → p (vt l i) = false) : l.any p = false := by
  rw [List.any_eq_false]
  intro x hx
  obtain ⟨i, hi, rfl⟩ := List.mem_iff_getElem.1 hx
  have := h i hi
  rw [vt_get (List.getElem?_eq_getElem hi)] at this
  simp [this]
theorem vsum_bd {l : List Int} (h : ∀ i, 0 ≤ vt l i ∧ vt l i ≤ 1000000) : ∀ k : Nat, 0 ≤ vsum l k ∧ vsum l k ≤ k * 1000000
  | 0 => by simp [vsum]
  | k + 1 => by
    have := vsum_bd h k
    have := h k
    simp only [vsum]
    omega
theorem vsum_pos {l : List Int} (h : ∀ i, 0 ≤ vt l i ∧ vt l i ≤ 1000000) {i : Nat} (hi : 0 < vt l i) : ∀ k, i < k → 0 < vsum l k
  | 0, hk => by omega
  | k + 1, hk => by
    have h1 := vsum_bd h k
    have h2 := h k
    simp only [vsum]
    by_cases e : i = k
    · subst e; omega
    · have := vsum_pos h hi k (by omega); omega
def posV (u : Int) : Bool := decide (0 < u)
theorem vsum_zero {l : List Int} (h : okV l) : (vsum l l.length = 0 ↔ l.any posV = false) := by
  have ha := okV_all h
  constructor
  · intro hs
    refine noV fun i hi => ?_
    by_cases hp : 0 < vt l i
    · have := vsum_pos ha hp l.length hi; omega
    · simp [posV]; omega
  · intro hn
    have key : ∀ k, k ≤ l.length → vsum l k = 0 := fun k => by
      induction k with
      | zero => intro _; rfl
      | succ k ih =>
        intro hk
        have h1 := ih (by omega)
        have h2 := ha k
        have h3 : ¬ 0 < vt l k := fun hp => by
          have : l.any posV = true := anyV (i := k) (by omega) (by simp [posV, hp])
          rw [hn] at this
          cases this
        simp only [vsum]
        omega
    exact key _ (Nat.le_refl _)
def lkE (n : Int) (l : List Int) : Int := if 40 < l.length then 2 else if l.any vbad = true then 1 else if n < 0 ∨ 1000 < n then 1 else if vsum l l.length = 0 then 6 else 0
def lkS (n : Int) (l : List Int) : Int := if lkE n l = 0 then vsum l l.length else 0
theorem lk_0 {n : Int} {l : List Int} (h : lkE n l = 0) : l.length ≤ 40 ∧ okV l ∧ 0 ≤ n ∧ n ≤ 1000 ∧ vsum l l.length ≠ 0 ∧ ∃ i, 0 < vt l i := by
  unfold lkE at h
  by_cases h1 : 40 < l.length
  · rw [if_pos h1] at h; omega
  rw [if_neg h1] at h
  by_cases h2 : l.any vbad = true
  · rw [if_pos h2] at h; omega
  rw [if_neg h2] at h
  by_cases h3 : n < 0 ∨ 1000 < n
  · rw [if_pos h3] at h; omega
  rw [if_neg h3] at h
  by_cases h4 : vsum l l.length = 0
  · rw [if_pos h4] at h; omega
  have ho := okV_of (by simpa using h2)
  refine ⟨by omega, ho, by omega, by omega, h4, ?_⟩
  have h5 : ¬ l.any posV = false := fun h => h4 ((vsum_zero ho).2 h)
  rw [Bool.not_eq_false] at h5
  obtain ⟨x, hx, hp⟩ := List.any_eq_true.1 h5
  obtain ⟨i, hi, rfl⟩ := List.mem_iff_getElem.1 hx
  refine ⟨i, ?_⟩
  rw [vt_get (List.getElem?_eq_getElem hi)]
  simpa [posV] using hp
theorem lk_cases (n : Int) (l : List Int) : lkE n l = 0 ∨ lkE n l = 1 ∨ lkE n l = 2 ∨ lkE n l = 6 := by unfold lkE; (repeat' split) <;> simp
/-- each one's quota -/
def quoG (n : Int) (l : List Int) : List Int := (List.range l.length).map fun i => (n * vt l i).tdiv (vsum l l.length)
end Go.Dl
namespace Go.Proofs.Ytdmkmbaaemhhhaa
open Go Go.Ev Go.RowKit Go.Dl
set_option maxHeartbeats 4000000
set_option linter.unusedSimpArgs false
set_option linter.unusedVariables false

theorem mul_bd {n v : Int} (h0 : 0 ≤ n) (h1 : n ≤ 1000) (v0 : 0 ≤ v) (v1 : v ≤ 1000000) : 0 ≤ n * v ∧ n * v ≤ 1000000000 := by
  refine ⟨Int.mul_nonneg h0 v0, ?_⟩
  have := Int.mul_le_mul h1 v1 v0 (by omega)
  omega
set_option maxHeartbeats 4000000 in
theorem dlook_sound {J : World → Prop} (hJ : Stable J) (n : Int) (l : List Int) : SoundAt Try.prog J 20 [.int .i64 n, .row 1 (l.map (V.int .i64))] (.tup [.int .i64 (lkS n l), .int .i64 (lkE n l)]) [] := by
  refine SoundAt.row 1 rfl (callOk Try.func20 rfl rfl) fun hlen => ?_
  simp only [maxLen, List.length_map] at hlen
  refine evFn (l := []) (nv := nv0) (fz := fz0) (dr := dr20) (dd := dd20) (lam := []) (ms := ms0) trivial hJ trivial ms0_ok Try.func20 rfl rfl (Nat.le_of_ble_eq_true rfl) (Nat.le_of_ble_eq_true rfl) drOk20 ?_
  dsimp only [Try.f20, dr20, dd20, Option.getD_some]
  refine ev_start ?_
  by_cases h3 : 40 < l.length
  · have h3' : (40 : Int) < l.length := by omega
    have e2 : lkE n l = 2 := by unfold lkE; rw [if_pos h3]
    have e1 : lkS n l = 0 := by unfold lkS; rw [e2]; rfl
    simp (disch := omega) only [h3', e1, e2, go_sem, evP_D, evD_guard, evD_cons, evD_zero, evD_nil]
  have h3' : ¬ (40 : Int) < l.length := by omega
  simp (disch := omega) only [h3', go_sem, evP_D, evD_guard, evD_cons, evD_zero, evD_nil]
  refine evQ_loop [0, 6, 12, 13, 14] [] (fun σ => ∃ (k : Nat), (k ≤ l.length ∧ ∀ i, i < k → 0 ≤ vt l i ∧ vt l i ≤ 1000000) ∧ σ = ⟨[(0, .int .i64 n), (6, .int .i64 (vsum l k)), (12, .row 1 (l.map (V.int .i64))), (13, .int .i64 l.length), (14, .int .i64 k)], []⟩)
    (fun σ => l.length - (match Ev.look 14 σ.env with | some (.int _ n) => n.toNat | _ => 0)) ?_ ?_
  · simp only [go_sem, evP_D, evD_guard, evD_cons, evD_zero, evD_nil]
    exact ⟨0, ⟨Nat.zero_le _, fun i h => by omega⟩, rfl⟩
  · rintro σ ⟨k, ⟨hk, hall⟩, rfl⟩
    by_cases hlt : k < l.length
    · have hlt' : (k : Int) < l.length := by omega
      have hg : l[k]? = some (vt l k) := vt_some hlt
      by_cases hb : vbad (vt l k) = true
      · have e2 : lkE n l = 1 := by unfold lkE; rw [if_neg h3, if_pos (anyV hlt hb)]
        have e1 : lkS n l = 0 := by unfold lkS; rw [e2]; rfl
        by_cases c1 : vt l k < 0
        · simp (disch := (first | omega | assumption)) only [e1, e2, hlt', idx_nat, List.getElem?_map, hg, c1, go_sem, evP_D, evD_guard, evD_cons, evD_zero, evD_nil]
        · have c2 : 1000000 < vt l k := by simp [vbad] at hb; omega
          simp (disch := (first | omega | assumption)) only [e1, e2, hlt', idx_nat, List.getElem?_map, hg, c1, c2, go_sem, evP_D, evD_guard, evD_cons, evD_zero, evD_nil]
      · have c1 : ¬ vt l k < 0 := fun h => hb (by simp [vbad, h])
        have c2 : ¬ 1000000 < vt l k := fun h => hb (by simp [vbad, h])
        have hs : 0 ≤ vsum l k ∧ vsum l k ≤ k * 1000000 := by
          have : ∀ m, m ≤ k → 0 ≤ vsum l m ∧ vsum l m ≤ m * 1000000 := fun m => by
            induction m with
            | zero => intro _; simp [vsum]
            | succ m ih =>
              intro hm
              have := ih (by omega)
              have := hall m (by omega)
              simp only [vsum]; omega
          exact this k (Nat.le_refl _)
        simp (disch := (first | omega | assumption)) only [hlt', idx_nat, List.getElem?_map, hg, c1, c2, go_sem, evP_D, evD_guard, evD_cons, evD_zero, evD_nil]
        exact ⟨⟨k + 1, ⟨hlt, fun i hi => by
          by_cases e : i = k
          · rw [e]; omega
          · exact hall i (by omega)⟩, rfl⟩, by
          have e3 : ((k : Int) + 1).toNat = k + 1 := by omega
          rw [e3, Int.toNat_natCast]; omega⟩
    · have hk' : k = l.length := by omega
      subst hk'
      have hno : l.any vbad = false := noV fun i hi => by have := hall i hi; simp [vbad]; omega
      have hno' : ¬ l.any vbad = true := by rw [hno]; simp
      have hlt' : ¬ ((l.length : Int) < l.length) := by omega
      by_cases c1 : n < 0
      · have e2 : lkE n l = 1 := by unfold lkE; rw [if_neg h3, if_neg hno', if_pos (.inl c1)]
        have e1 : lkS n l = 0 := by unfold lkS; rw [e2]; rfl
        simp (disch := (first | omega | assumption)) only [e1, e2, hlt', c1, go_sem, evP_D, evD_guard, evD_cons, evD_zero, evD_nil]
      by_cases c2 : 1000 < n
      · have e2 : lkE n l = 1 := by unfold lkE; rw [if_neg h3, if_neg hno', if_pos (.inr c2)]
        have e1 : lkS n l = 0 := by unfold lkS; rw [e2]; rfl
        simp (disch := (first | omega | assumption)) only [e1, e2, hlt', c1, c2, go_sem, evP_D, evD_guard, evD_cons, evD_zero, evD_nil]
      by_cases c3 : vsum l l.length = 0
      · have e2 : lkE n l = 6 := by unfold lkE; rw [if_neg h3, if_neg hno', if_neg (by omega), if_pos c3]
        have e1 : lkS n l = 0 := by unfold lkS; rw [e2]; rfl
        simp (disch := (first | omega | assumption)) only [e1, e2, hlt', c1, c2, c3, go_sem, evP_D, evD_guard, evD_cons, evD_zero, evD_nil]
      have e2 : lkE n l = 0 := by unfold lkE; rw [if_neg h3, if_neg hno', if_neg (by omega), if_neg c3]
      have e1 : lkS n l = vsum l l.length := by unfold lkS; rw [e2]; rfl
      simp (disch := (first | omega | assumption)) only [e1, e2, hlt', c1, c2, c3, go_sem, evP_D, evD_guard, evD_cons, evD_zero, evD_nil]
def dvF : List V → Option (V × List Blk)
  | [.int .i64 way, .int .i64 s] => if (0 ≤ way ∧ way ≤ 2) ∧ 0 ≤ s ∧ s ≤ 1000 then some (.int .i64 (dv way s), []) else none
  | _ => none
theorem dvF_eq {way s : Int} (h : 0 ≤ way ∧ way ≤ 2) (h0 : 0 ≤ s) (h1 : s ≤ 1000) : dvF [.int .i64 way, .int .i64 s] = some (.int .i64 (dv way s), []) := if_pos ⟨h, h0, h1⟩
theorem dv_snd {J : World → Prop} (hJ : Stable J) : Snd Try.prog J 21 dvF := by
  intro args r bs h
  unfold dvF at h
  split at h
  · rename_i way s
    split at h
    · rename_i hc
      obtain ⟨rfl, rfl⟩ := some_pair h
      obtain ⟨⟨h1, h2⟩, h3, h4⟩ := hc
      refine evFn (l := []) (nv := nv0) (fz := fz0) (dr := dr21) (dd := dd21) (lam := []) (ms := ms0) trivial hJ trivial ms0_ok Try.func21 rfl rfl (Nat.le_of_ble_eq_true rfl) (Nat.le_of_ble_eq_true rfl) drOk21 ?_
      dsimp only [Try.f21, dr21, dd21, Option.getD_some]
      refine ev_start ?_
      by_cases c0 : way = 0
      · have e : dv way s = s + 1 := by unfold dv; rw [if_pos c0]
        rw [e]
        simp (disch := omega) only [c0, go_sem, evP_D, evD_guard, evD_cons, evD_zero, evD_nil]
      by_cases c1 : way = 1
      · have e : dv way s = 2 * s + 1 := by unfold dv; rw [if_neg c0, if_pos c1]
        rw [e]
        subst c1
        simp (disch := omega) only [go_sem, evP_D, evD_guard, evD_cons, evD_zero, evD_nil]
      · have e : dv way s = s := by unfold dv; rw [if_neg c0, if_neg c1]
        rw [e]
        simp (disch := omega) only [c0, c1, go_sem, evP_D, evD_guard, evD_cons, evD_zero, evD_nil]
    · cases h
  · cases h
def quV (n : Int) (l : List Int) : V × List Blk := if lkE n l = 0 then (.tup [.vec 0, .int .i64 0], [.vec 3 1 ((quoG n l).map (V.int .i64))]) else (.tup [.zero, .int .i64 (lkE n l)], [])
set_option maxHeartbeats 4000000 in
theorem quotas_sound {J : World → Prop} (hJ : Stable J) (n : Int) (l : List Int) : SoundAt Try.prog J 13 [.int .i64 n, .row 1 (l.map (V.int .i64))] (quV n l).1 (quV n l).2 := by
  refine SoundAt.row 1 rfl (callOk Try.func13 rfl rfl) fun hlen => ?_
  simp only [maxLen, List.length_map] at hlen
  have hL := dlook_sound hJ n l
  by_cases he : lkE n l = 0
  case neg =>
    have e : quV n l = (.tup [.zero, .int .i64 (lkE n l)], []) := by unfold quV; rw [if_neg he]
    rw [e]
    refine evFn (l := [(20, at1 _ (_, []))]) (nv := nv0) (fz := fz0) (dr := dr13) (dd := dd13) (lam := []) (ms := ms0) ⟨at1_snd hL, trivial⟩ hJ trivial ms0_ok Try.func13 rfl rfl (Nat.le_of_ble_eq_true rfl) (Nat.le_of_ble_eq_true rfl) drOk13 ?_
    dsimp only [Try.f13, dr13, dd13, Option.getD_some]
    refine ev_start ?_
    simp (disch := omega) only [at1_eq, he, go_sem, evP_D, evD_guard, evD_cons, evD_zero, evD_nil]
  have e : quV n l = (.tup [.vec 0, .int .i64 0], [.vec 3 1 ((quoG n l).map (V.int .i64))]) := by unfold quV; rw [if_pos he]
  obtain ⟨h1, h2, h3, h4, h5, _⟩ := lk_0 he
  have e2 : lkS n l = vsum l l.length := by unfold lkS; rw [if_pos he]
  rw [he, e2] at hL
  rw [e]
  have ho := okV_all h2
  have hs := vsum_bd ho l.length
  have f1 : (0 : Int) ≤ l.length := by omega
  have f2 : (l.length : Int) * 8 ≤ 140737488355328 := by omega
  have f3 : (l.length : Int) ≤ 9223372036854775807 := by omega
  unfold quoG
  generalize vsum l l.length = S at *
  refine evFn (l := [(20, at1 _ (_, []))]) (nv := nv0) (fz := fz0) (dr := dr13) (dd := dd13) (lam := []) (ms := ms0) ⟨at1_snd hL, trivial⟩ hJ trivial ms0_ok Try.func13 rfl rfl (Nat.le_of_ble_eq_true rfl) (Nat.le_of_ble_eq_true rfl) drOk13 ?_
  dsimp only [Try.f13, dr13, dd13, Option.getD_some]
  refine ev_start ?_
  simp (disch := omega) only [at1_eq, makeV, f1, f2, f3, Int.toNat_natCast, List.length_map, List.length_replicate, go_sem, evP_D, evD_guard, evD_cons, evD_zero, evD_nil]
  refine evQ_loop [0, 6, 8, 23, 24, 25] [176] (fun σ => ∃ (k : Nat), k ≤ l.length ∧ σ = ⟨[(0, .int .i64 n), (6, .int .i64 S), (8, .vec 176), (23, .row 1 (l.map (V.int .i64))), (24, .int .i64 l.length), (25, .int .i64 k)],
    [(176, .vec 3 1 ((fillL 0 (fun i => (n * vt l i).tdiv S) l.length k).map (V.int .i64)))]⟩)
    (fun σ => l.length - (match Ev.look 25 σ.env with | some (.int _ n) => n.toNat | _ => 0)) ?_ ?_
  · simp only [go_sem, evP_D, evD_guard, evD_cons, evD_zero, evD_nil]
    exact ⟨0, Nat.zero_le _, by rw [fillL_map, fillL_zero]; rfl⟩
  · rintro σ ⟨k, hk, rfl⟩
    by_cases hlt : k < l.length
    · have hlt' : (k : Int) < l.length := by omega
      have hg : l[k]? = some (vt l k) := vt_some hlt
      have hv := ho k
      have hm := mul_bd h3 h4 hv.1 hv.2
      have hset := fillL_set (0 : Int) (fun i => (n * vt l i).tdiv S) (n := l.length) (k := k)
      have hat := fillL_at (0 : Int) (fun i => (n * vt l i).tdiv S) (n := l.length) (k := k) hlt (Nat.lt_irrefl k)
      have htd : 0 ≤ (n * vt l k).tdiv S ∧ (n * vt l k).tdiv S ≤ 1000000000 := by
        rw [Int.tdiv_eq_ediv_of_nonneg hm.1]
        refine ⟨Int.ediv_nonneg hm.1 (by omega), ?_⟩
        exact Int.le_trans (Int.ediv_le_self _ hm.1) hm.2
      simp (disch := (first | omega | assumption)) only [hlt', idx_nat, List.length_map, List.getElem?_map, hg, hat, fillL_len, h5, go_sem, evP_D, evD_guard, evD_cons, evD_zero, evD_nil]
      exact ⟨⟨k + 1, hlt, by rw [← hset, List.map_set]; rfl⟩, by
        have e3 : ((k : Int) + 1).toNat = k + 1 := by omega
        rw [e3, Int.toNat_natCast]; omega⟩
    · have hk' : k = l.length := by omega
      subst hk'
      have hlt' : ¬ ((l.length : Int) < l.length) := by omega
      simp (disch := (first | omega | assumption)) only [hlt', fillL_end, go_sem, evP_D, evD_guard, evD_cons, evD_zero, evD_nil]
def dlV (way n : Int) (l : List Int) : V × List Blk := if way < 0 ∨ 2 < way then (.tup [.zero, .int .i64 1], []) else if lkE n l = 0 then (.tup [.vec 0, .int .i64 0], [.vec 3 1 ((dealG way l n.toNat).map (V.int .i64))]) else (.tup [.zero, .int .i64 (lkE n l)], [])
theorem setV (o : List Int) (b : Nat) (x : Int) : (o.map (V.int .i64)).set b (V.int .i64 x) = (o.set b x).map (V.int .i64) := (List.map_set ..).symm
set_option maxHeartbeats 8000000 in
set_option maxRecDepth 8000 in
theorem deal_sound {J : World → Prop} (hJ : Stable J) (way n : Int) (l : List Int) : SoundAt Try.prog J 12 [.int .i64 way, .int .i64 n, .row 1 (l.map (V.int .i64))] (dlV way n l).1 (dlV way n l).2 := by
  refine SoundAt.row 2 rfl (callOk Try.func12 rfl rfl) fun hlen => ?_
  simp only [maxLen, List.length_map] at hlen
  have hL := dlook_sound hJ n l
  by_cases w0 : way < 0
  · have e : dlV way n l = (.tup [.zero, .int .i64 1], []) := by unfold dlV; rw [if_pos (.inl w0)]
    rw [e]
    refine evFn (l := []) (nv := nv0) (fz := fz0) (dr := dr12) (dd := dd12) (lam := []) (ms := ms0) trivial hJ trivial ms0_ok Try.func12 rfl rfl (Nat.le_of_ble_eq_true rfl) (Nat.le_of_ble_eq_true rfl) drOk12 ?_
    dsimp only [Try.f12, dr12, dd12, Option.getD_some]
    refine ev_start ?_
    simp (disch := omega) only [w0, go_sem, evP_D, evD_guard, evD_cons, evD_zero, evD_nil]
  by_cases w1 : 2 < way
  · have e : dlV way n l = (.tup [.zero, .int .i64 1], []) := by unfold dlV; rw [if_pos (.inr w1)]
    rw [e]
    refine evFn (l := []) (nv := nv0) (fz := fz0) (dr := dr12) (dd := dd12) (lam := []) (ms := ms0) trivial hJ trivial ms0_ok Try.func12 rfl rfl (Nat.le_of_ble_eq_true rfl) (Nat.le_of_ble_eq_true rfl) drOk12 ?_
    dsimp only [Try.f12, dr12, dd12, Option.getD_some]
    refine ev_start ?_
    simp (disch := omega) only [w0, w1, go_sem, evP_D, evD_guard, evD_cons, evD_zero, evD_nil]
  by_cases he : lkE n l = 0
  case neg =>
    have e : dlV way n l = (.tup [.zero, .int .i64 (lkE n l)], []) := by unfold dlV; rw [if_neg (by omega), if_neg he]
    rw [e]
    refine evFn (l := [(20, at1 _ (_, []))]) (nv := nv0) (fz := fz0) (dr := dr12) (dd := dd12) (lam := []) (ms := ms0) ⟨at1_snd hL, trivial⟩ hJ trivial ms0_ok Try.func12 rfl rfl (Nat.le_of_ble_eq_true rfl) (Nat.le_of_ble_eq_true rfl) drOk12 ?_
    dsimp only [Try.f12, dr12, dd12, Option.getD_some]
    refine ev_start ?_
    simp (disch := omega) only [at1_eq, w0, w1, he, go_sem, evP_D, evD_guard, evD_cons, evD_zero, evD_nil]
  obtain ⟨N, hN⟩ : ∃ N : Nat, n = N := ⟨n.toNat, by have := (lk_0 he).2.2.1; omega⟩
  subst hN
  have e : dlV way N l = (.tup [.vec 0, .int .i64 0], [.vec 3 1 ((dealG way l N).map (V.int .i64))]) := by unfold dlV; rw [if_neg (by omega), if_pos he]; rfl
  obtain ⟨h1, h2, h3, h4, h5, hex⟩ := lk_0 he
  rw [he] at hL
  rw [e]
  clear e
  have ho := okV_all h2
  have hv0 : ∀ i, 0 ≤ vt l i := fun i => (ho i).1
  have f1 : (0 : Int) ≤ l.length := by omega
  have f2 : (l.length : Int) * 8 ≤ 140737488355328 := by omega
  have f3 : (l.length : Int) ≤ 9223372036854775807 := by omega
  generalize lkS N l = S at *
  refine evFn (l := [(20, at1 _ (_, [])), (21, dvF)]) (nv := nv0) (fz := fz0) (dr := dr12) (dd := dd12) (lam := []) (ms := ms0) ⟨at1_snd hL, dv_snd hJ, trivial⟩ hJ trivial ms0_ok Try.func12 rfl rfl (Nat.le_of_ble_eq_true rfl) (Nat.le_of_ble_eq_true rfl) drOk12 ?_
  dsimp only [Try.f12, dr12, dd12, Option.getD_some]
  refine ev_start ?_
  simp (disch := omega) only [at1_eq, w0, w1, makeV, f1, f2, f3, Int.toNat_natCast, List.length_map, List.length_replicate, go_sem, evP_D, evD_guard, evD_cons, evD_zero, evD_nil]
  refine evQ_loop [0, 2, 10, 32, 33] [248] (fun σ => ∃ (k : Nat), k ≤ N ∧ σ = ⟨[(0, .int .i64 way), (2, .row 1 (l.map (V.int .i64))), (10, .vec 248), (32, .int .i64 N), (33, .int .i64 k)],
    [(248, .vec 3 1 ((dealG way l k).map (V.int .i64)))]⟩)
    (fun σ => N - (match Ev.look 33 σ.env with | some (.int _ n) => n.toNat | _ => 0)) ?_ ?_
  · simp only [go_sem, evP_D, evD_guard, evD_cons, evD_zero, evD_nil]
    exact ⟨0, Nat.zero_le _, by rw [show dealG way l 0 = List.replicate l.length 0 from rfl, List.map_replicate]; rfl⟩
  · rintro σ ⟨k, hk, rfl⟩
    by_cases hlt : k < N
    case neg =>
      have hk' : k = N := by omega
      subst hk'
      have hlt' : ¬ ((k : Int) < k) := by omega
      simp (disch := (first | omega | assumption)) only [hlt', go_sem, evP_D, evD_guard, evD_cons, evD_zero, evD_nil]
    have hlt' : (k : Int) < N := by omega
    obtain ⟨d1, d2⟩ := dealG_bd way l k
    have hd : dealG way l (k + 1) = (dealG way l k).set (bst way l (dealG way l k) l.length).toNat (vt (dealG way l k) (bst way l (dealG way l k) l.length).toNat + 1) := rfl
    generalize dealG way l k = o at *
    have o0 : ∀ i, 0 ≤ vt o i := fun i => (d2 i).1
    simp (disch := (first | omega | assumption)) only [hlt', List.length_map, go_sem, evP_D, evD_guard, evD_cons, evD_zero, evD_nil]
    refine evQ_loop [0, 2, 10, 11, 32, 33, 35, 36, 37] [248] (fun σ => ∃ (i : Nat), i ≤ l.length ∧ σ = ⟨[(0, .int .i64 way), (2, .row 1 (l.map (V.int .i64))), (10, .vec 248), (11, .int .i64 (bst way l o i)), (32, .int .i64 N), (33, .int .i64 k), (35, .row 1 (l.map (V.int .i64))), (36, .int .i64 l.length), (37, .int .i64 i)],
      [(248, .vec 3 1 (o.map (V.int .i64)))]⟩)
      (fun σ => l.length - (match Ev.look 37 σ.env with | some (.int _ n) => n.toNat | _ => 0)) ?_ ?_
    · simp only [go_sem, evP_D, evD_guard, evD_cons, evD_zero, evD_nil]
      exact ⟨0, Nat.zero_le _, rfl⟩
    · rintro σ ⟨i, hi, rfl⟩
      by_cases hil : i < l.length
      case neg =>
        have hi' : i = l.length := by omega
        subst hi'
        have hil' : ¬ ((l.length : Int) < l.length) := by omega
        rcases bst_spec (way := way) hv0 o0 l.length with ⟨_, hno⟩ | ⟨b, hb, hbl, _, _⟩
        · exfalso
          obtain ⟨j, hj⟩ := hex
          rcases Nat.lt_or_ge j l.length with h | h
          · rw [hno j h] at hj; omega
          · rw [vt_out h] at hj; omega
        rw [hb, show ((b : Nat) : Int).toNat = b by omega] at hd
        rw [hb]
        have hbo : b < o.length := by omega
        have hg : o[b]? = some (vt o b) := vt_some hbo
        have hob := d2 b
        simp (disch := (first | omega | assumption)) only [hil', idx_nat, List.length_map, List.getElem?_map, hg, setV, go_sem, evP_D, evD_guard, evD_cons, evD_zero, evD_nil]
        exact ⟨⟨k + 1, hlt, by rw [hd]; rfl⟩, by
          have e3 : ((k : Int) + 1).toNat = k + 1 := by omega
          rw [e3, Int.toNat_natCast]; omega⟩
      have hil' : (i : Int) < l.length := by omega
      have hg : l[i]? = some (vt l i) := vt_some hil
      have hms : l.length - ((i : Int) + 1).toNat < l.length - (i : Int).toNat := by
        have e3 : ((i : Int) + 1).toNat = i + 1 := by omega
        rw [e3, Int.toNat_natCast]; omega
      have hb1 := bst_succ way l o i
      by_cases hz : vt l i = 0
      · rw [if_pos hz] at hb1
        simp (disch := (first | omega | assumption)) only [hil', idx_nat, List.length_map, List.getElem?_map, hg, hz, go_sem, evP_D, evD_guard, evD_cons, evD_zero, evD_nil]
        exact ⟨⟨i + 1, hil, by rw [hb1]; rfl⟩, hms⟩
      rw [if_neg hz] at hb1
      have hio : i < o.length := by omega
      have hgo : o[i]? = some (vt o i) := vt_some hio
      have hvi := ho i
      have hoi := d2 i
      have D1 := dvF_eq (way := way) (s := vt o i) (by omega) (by omega) (by omega)
      have r1 : 0 ≤ dv way (vt o i) ∧ dv way (vt o i) ≤ 2001 := by unfold dv; split <;> (try split) <;> omega
      rcases bst_spec (way := way) hv0 o0 i with ⟨hb, _⟩ | ⟨b, hb, hbi, _, _⟩
      · have c1 : (-1 : Int) < 0 := by omega
        rw [hb, if_pos (.inl c1)] at hb1
        rw [hb]
        simp (disch := (first | omega | assumption)) only [hil', idx_nat, List.length_map, List.getElem?_map, hg, hz, c1, go_sem, evP_D, evD_guard, evD_cons, evD_zero, evD_nil]
        exact ⟨⟨i + 1, hil, by rw [hb1]; rfl⟩, hms⟩
      · have c1 : ¬ (b : Int) < 0 := by omega
        rw [hb, show ((b : Nat) : Int).toNat = b by omega] at hb1
        rw [hb]
        have hbo : b < o.length := by omega
        have hbl : b < l.length := by omega
        have hgb : o[b]? = some (vt o b) := vt_some hbo
        have hgl : l[b]? = some (vt l b) := vt_some hbl
        have hvb := ho b
        have hob := d2 b
        have D2 := dvF_eq (way := way) (s := vt o b) (by omega) (by omega) (by omega)
        have r2 : 0 ≤ dv way (vt o b) ∧ dv way (vt o b) ≤ 2001 := by unfold dv; split <;> (try split) <;> omega
        have m1 : 0 ≤ vt l i * dv way (vt o b) ∧ vt l i * dv way (vt o b) ≤ 2001000000 := ⟨Int.mul_nonneg hvi.1 r2.1, Int.le_trans (Int.mul_le_mul hvi.2 r2.2 r2.1 (by omega)) (by omega)⟩
        have m2 : 0 ≤ vt l b * dv way (vt o i) ∧ vt l b * dv way (vt o i) ≤ 2001000000 := ⟨Int.mul_nonneg hvb.1 r1.1, Int.le_trans (Int.mul_le_mul hvb.2 r1.2 r1.1 (by omega)) (by omega)⟩
        by_cases c2 : vt l b * dv way (vt o i) < vt l i * dv way (vt o b)
        · rw [if_pos (.inr c2)] at hb1
          simp (disch := (first | omega | assumption)) only [hil', idx_nat, List.length_map, List.getElem?_map, hg, hgo, hgb, hgl, hz, c1, c2, D1, D2, go_sem, evP_D, evD_guard, evD_cons, evD_zero, evD_nil]
          exact ⟨⟨i + 1, hil, by rw [hb1]; rfl⟩, hms⟩
        · rw [if_neg (by omega)] at hb1
          simp (disch := (first | omega | assumption)) only [hil', idx_nat, List.length_map, List.getElem?_map, hg, hgo, hgb, hgl, hz, c1, c2, D1, D2, go_sem, evP_D, evD_guard, evD_cons, evD_zero, evD_nil]
          exact ⟨⟨i + 1, hil, by rw [hb1]; rfl⟩, hms⟩
end Go.Proofs.Ytdmkmbaaemhhhaa
