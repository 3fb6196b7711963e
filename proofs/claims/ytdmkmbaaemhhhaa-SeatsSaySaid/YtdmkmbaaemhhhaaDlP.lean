/-
  Seats dealt out by votes: the plain law: who is greedy takes the first ones of the sorted claims.
-/
import Derived.Test.YtdmkmbaaemhhhaaSrtP
namespace Go.Dl
open Go.Srt
set_option linter.unusedVariables false
set_option linter.unusedSimpArgs false
abbrev Cl := Int × Int × Int
def dv (way s : Int) : Int := if way = 0 then s + 1 else if way = 1 then 2 * s + 1 else s
def vt (l : List Int) (i : Nat) : Int := l.getD i 0
theorem vt_get {l : List Int} {i : Nat} {v : Int} (h : l[i]? = some v) : vt l i = v := by unfold vt; rw [List.getD_eq_getElem?_getD, h]; rfl
theorem vt_some {l : List Int} {i : Nat} (h : i < l.length) : l[i]? = some (vt l i) := by unfold vt; rw [List.getD_eq_getElem?_getD, List.getElem?_eq_getElem h]; rfl
theorem vt_out {l : List Int} {i : Nat} (h : l.length ≤ i) : vt l i = 0 := by unfold vt; rw [List.getD_eq_getElem?_getD, List.getElem?_eq_none h]; rfl
theorem vt_set {l : List Int} {i : Nat} {v : Int} (h : i < l.length) (j : Nat) : vt (l.set i v) j = if j = i then v else vt l j := by
  unfold vt
  rw [List.getD_eq_getElem?_getD, List.getD_eq_getElem?_getD, List.getElem?_set]
  by_cases e : i = j
  · subst e; rw [if_pos rfl, if_pos rfl, if_pos h]; rfl
  · rw [if_neg e, if_neg (fun q => e q.symm)]
theorem vt_rep (n i : Nat) : vt (List.replicate n 0) i = 0 := by
  unfold vt
  rw [List.getD_eq_getElem?_getD, List.getElem?_replicate]
  split <;> rfl
/-! ### which claim comes first -/
def clt (a b : Cl) : Prop := max b.1 1 * a.2.1 < max a.1 1 * b.2.1
theorem cle_trans {a b c : Cl} (h1 : ¬ clt b a) (h2 : ¬ clt c b) : ¬ clt c a := by
  unfold clt at *
  have pa : 1 ≤ max a.1 1 := by omega
  have pb : 1 ≤ max b.1 1 := by omega
  have pc : 1 ≤ max c.1 1 := by omega
  generalize max a.1 1 = A at *
  generalize max b.1 1 = B at *
  generalize max c.1 1 = C at *
  generalize a.2.1 = x at *
  generalize b.2.1 = y at *
  generalize c.2.1 = z at *
  rw [Int.not_lt] at *
  have k1 : C * (B * x) ≤ C * (A * y) := Int.mul_le_mul_of_nonneg_left h1 (by omega)
  have k2 : A * (C * y) ≤ A * (B * z) := Int.mul_le_mul_of_nonneg_left h2 (by omega)
  have e1 : C * (B * x) = B * (C * x) := Int.mul_left_comm _ _ _
  have e2 : C * (A * y) = A * (C * y) := Int.mul_left_comm _ _ _
  have e3 : A * (B * z) = B * (A * z) := Int.mul_left_comm _ _ _
  have k3 : B * (C * x) ≤ B * (A * z) := by omega
  exact Int.le_of_mul_le_mul_left k3 (by omega)
theorem clt_asymm {a b : Cl} (h : clt a b) : ¬ clt b a := by
  unfold clt at *
  omega
theorem clt_swo : Swo clt where
  irr := fun x h => by unfold clt at h; omega
  tr := fun x y z h1 h2 => by
    by_cases hc : clt x z
    · exact hc
    · exact (cle_trans hc (clt_asymm h1) h2).elim
  neg := fun x y z h1 h2 => cle_trans h2 h1
/-! ### claims by who and how many -/
abbrev Pr := Nat × Nat
def cl (way : Int) (l : List Int) (x : Pr) : Cl := (vt l x.1, dv way x.2, x.1)
def lex (x y : Pr) : Prop := x.1 < y.1 ∨ (x.1 = y.1 ∧ x.2 < y.2)
def pr (way : Int) (l : List Int) (x y : Pr) : Prop := clt (cl way l x) (cl way l y) ∨ (¬ clt (cl way l y) (cl way l x) ∧ lex x y)
theorem lex_trans {x y z : Pr} (h1 : lex x y) (h2 : lex y z) : lex x z := by unfold lex at *; omega
theorem pr_irr {way : Int} {l : List Int} {x : Pr} : ¬ pr way l x x := by
  rintro (h | ⟨_, h⟩)
  · exact clt_swo.irr _ h
  · unfold lex at h; omega
theorem pr_trans {way : Int} {l : List Int} {x y z : Pr} (h1 : pr way l x y) (h2 : pr way l y z) : pr way l x z := by
  rcases h1 with h1 | ⟨h1, e1⟩ <;> rcases h2 with h2 | ⟨h2, e2⟩
  · exact .inl (clt_swo.tr _ _ _ h1 h2)
  · left
    by_cases hc : clt (cl way l x) (cl way l z)
    · exact hc
    · exact (cle_trans h2 hc h1).elim
  · left
    by_cases hc : clt (cl way l x) (cl way l z)
    · exact hc
    · exact (cle_trans hc h1 h2).elim
  · exact .inr ⟨cle_trans h1 h2, lex_trans e1 e2⟩
theorem dv_mono {way s t : Int} (h : s < t) : dv way s < dv way t := by
  unfold dv
  split
  · omega
  · split <;> omega
theorem pr_one {way : Int} {l : List Int} {i s t : Nat} (h : s < t) : pr way l (i, s) (i, t) := by
  left
  unfold clt cl
  simp only
  exact Int.mul_lt_mul_of_pos_left (dv_mono (by omega)) (by omega)
def allP (l : List Int) (n : Nat) : List Pr := (List.range l.length).flatMap fun i => if 0 < vt l i then (List.range n).map (fun s => (i, s)) else []
theorem allP_mem {l : List Int} {n : Nat} {x : Pr} : x ∈ allP l n ↔ 0 < vt l x.1 ∧ x.2 < n := by
  unfold allP
  rw [List.mem_flatMap]
  constructor
  · rintro ⟨i, hi, hx⟩
    split at hx
    · rename_i hv
      obtain ⟨s, hs, rfl⟩ := List.mem_map.1 hx
      exact ⟨hv, List.mem_range.1 hs⟩
    · simp at hx
  · rintro ⟨h1, h2⟩
    have hlt : x.1 < l.length := by
      rcases Nat.lt_or_ge x.1 l.length with h | h
      · exact h
      · rw [vt_out h] at h1; omega
    refine ⟨x.1, List.mem_range.2 hlt, ?_⟩
    rw [if_pos h1]
    exact List.mem_map.2 ⟨x.2, List.mem_range.2 h2, rfl⟩
theorem allP_lex (l : List Int) (n : Nat) : (allP l n).Pairwise lex := by
  unfold allP
  rw [List.pairwise_flatMap]
  constructor
  · intro i _
    split
    · rw [List.pairwise_map]
      exact List.pairwise_lt_range.imp fun h => .inr ⟨rfl, h⟩
    · exact List.Pairwise.nil
  · refine List.pairwise_lt_range.imp fun {i j} h x hx y hy => ?_
    have e : ∀ {i : Nat} {x : Pr}, (x ∈ if 0 < vt l i then (List.range n).map (fun s => (i, s)) else []) → x.1 = i := by
      intro i x hx
      split at hx
      · obtain ⟨s, _, rfl⟩ := List.mem_map.1 hx; rfl
      · simp at hx
    left
    rw [e hx, e hy]
    exact h
/-- the sorted claims: each claim once, in order -/
theorem sorted_pairs (way : Int) (l : List Int) (n : Nat) : ∃ T : List Pr, srtL clt ((allP l n).map (cl way l)) 0 (allP l n).length = T.map (cl way l) ∧ T.Pairwise (pr way l) ∧ (∀ x, x ∈ T ↔ x ∈ allP l n) ∧ T.length = (allP l n).length := by
  generalize hA : allP l n = A
  have hlex : A.Pairwise lex := hA ▸ allP_lex l n
  have hs := srt_sorted clt_swo (A.map (cl way l)) 0 A.length
  have hp := srt_permOn (Lt clt (A.map (cl way l))) 0 A.length
  unfold srtL
  generalize srt (Lt clt (A.map (cl way l))) 0 A.length = π at *
  have hlt : ∀ k, k < A.length → π k < A.length := fun k hk => hp.lt (Nat.le_refl _) hk
  have hge : ∀ k, k < A.length → ge (A.map (cl way l)) k = cl way l (ge A k) := fun k hk => by
    simp only [ge, List.getD_eq_getElem?_getD, List.getElem?_map, List.getElem?_eq_getElem hk, Option.map_some, Option.getD_some]
  refine ⟨tb A π, ?_, ?_, ?_, tab_len _ _⟩
  · unfold tb
    rw [List.map_map, List.length_map]
    refine List.map_congr_left fun k hk => ?_
    exact hge _ (hlt k (List.mem_range.1 hk))
  · unfold tb
    rw [List.pairwise_map]
    refine (List.pairwise_lt_range (n := A.length)).imp_of_mem fun {i j} hi hj h => ?_
    have hi' := List.mem_range.1 hi
    have hj' := List.mem_range.1 hj
    have hlx : ∀ p q, p < q → q < A.length → lex (ge A p) (ge A q) := fun p q hpq hq => by
      have := (List.pairwise_iff_getElem.1 hlex) p q (by omega) hq hpq
      simpa only [ge, List.getD_eq_getElem?_getD, List.getElem?_eq_getElem hq, List.getElem?_eq_getElem (show p < A.length by omega), Option.getD_some] using this
    have := hs i j (Nat.zero_le _) h hj'
    unfold Lt at this
    rw [hge _ (hlt i hi'), hge _ (hlt j hj')] at this
    rcases this with h1 | ⟨h1, h2⟩
    · exact .inl h1
    · exact .inr ⟨h1, hlx _ _ h2 (hlt j hj')⟩
  · intro x
    constructor
    · exact fun h => mem_tab hlt h
    · intro h
      obtain ⟨k, hk, rfl⟩ := List.mem_iff_getElem.1 h
      obtain ⟨π', p1, p2, p3⟩ := id hp
      have hk' : π' k < A.length := by
        rcases Nat.lt_or_ge (π' k) A.length with h | h
        · exact h
        · have := p3 (π' k) (by omega)
          rw [p1] at this
          omega
      unfold tb
      refine List.mem_map.2 ⟨π' k, List.mem_range.2 hk', ?_⟩
      rw [p1]
      simp only [ge, List.getD_eq_getElem?_getD, List.getElem?_eq_getElem hk, Option.getD_some]
/-! ### who is greedy -/
def bst (way : Int) (l out : List Int) : Nat → Int
  | 0 => -1
  | i + 1 => if vt l i = 0 then bst way l out i else if bst way l out i < 0 ∨ vt l (bst way l out i).toNat * dv way (vt out i) < vt l i * dv way (vt out (bst way l out i).toNat) then i else bst way l out i
theorem bst_succ (way : Int) (l out : List Int) (i : Nat) : bst way l out (i + 1) = if vt l i = 0 then bst way l out i else if bst way l out i < 0 ∨ vt l (bst way l out i).toNat * dv way (vt out i) < vt l i * dv way (vt out (bst way l out i).toNat) then (i : Int) else bst way l out i := rfl
def kk (out : List Int) (i : Nat) : Pr := (i, (vt out i).toNat)
theorem clt_kk {way : Int} {l out : List Int} {i j : Nat} (hi : 0 < vt l i) (hj : 0 < vt l j) (h0 : ∀ i, 0 ≤ vt out i) : clt (cl way l (kk out i)) (cl way l (kk out j)) ↔ vt l j * dv way (vt out i) < vt l i * dv way (vt out j) := by
  unfold clt cl kk
  simp only
  rw [show ((vt out i).toNat : Int) = vt out i from Int.toNat_of_nonneg (h0 i), show ((vt out j).toNat : Int) = vt out j from Int.toNat_of_nonneg (h0 j), show max (vt l j) 1 = vt l j by omega, show max (vt l i) 1 = vt l i by omega]
theorem bst_spec {way : Int} {l out : List Int} (hv : ∀ i, 0 ≤ vt l i) (h0 : ∀ i, 0 ≤ vt out i) : ∀ i, (bst way l out i = -1 ∧ ∀ j, j < i → vt l j = 0) ∨
    ∃ b : Nat, bst way l out i = b ∧ b < i ∧ 0 < vt l b ∧ ∀ j, j < i → 0 < vt l j → j ≠ b → pr way l (kk out b) (kk out j)
  | 0 => .inl ⟨rfl, fun j h => by omega⟩
  | i + 1 => by
    rw [bst_succ]
    by_cases hz : vt l i = 0
    · rw [if_pos hz]
      rcases bst_spec hv h0 i with ⟨e, h⟩ | ⟨b, e, hb, hbv, h⟩
      · exact .inl ⟨e, fun j hj => by
          by_cases hji : j = i
          · subst hji; exact hz
          · exact h j (by omega)⟩
      · refine .inr ⟨b, e, by omega, hbv, fun j hj hjv hne => h j ?_ hjv hne⟩
        by_cases hji : j = i
        · subst hji; omega
        · omega
    · rw [if_neg hz]
      have hiv : 0 < vt l i := by have := hv i; omega
      rcases bst_spec hv h0 i with ⟨e, h⟩ | ⟨b, e, hb, hbv, h⟩
      · rw [e, if_pos (.inl (by omega))]
        refine .inr ⟨i, rfl, by omega, hiv, fun j hj hjv hne => ?_⟩
        have := h j (by omega)
        omega
      · rw [e, show ((b : Nat) : Int).toNat = b by omega]
        by_cases hc : vt l b * dv way (vt out i) < vt l i * dv way (vt out b)
        · rw [if_pos (.inr hc)]
          have hib : pr way l (kk out i) (kk out b) := .inl ((clt_kk hiv hbv h0).2 hc)
          refine .inr ⟨i, rfl, by omega, hiv, fun j hj hjv hne => ?_⟩
          by_cases hjb : j = b
          · subst hjb; exact hib
          · exact pr_trans hib (h j (by omega) hjv hjb)
        · rw [if_neg (by omega)]
          refine .inr ⟨b, rfl, by omega, hbv, fun j hj hjv hne => ?_⟩
          by_cases hji : j = i
          · subst hji
            exact .inr ⟨fun hh => hc ((clt_kk hiv hbv h0).1 hh), .inl hb⟩
          · exact h j (by omega) hjv hne
def dealG (way : Int) (l : List Int) : Nat → List Int
  | 0 => List.replicate l.length 0
  | k + 1 => (dealG way l k).set (bst way l (dealG way l k) l.length).toNat (vt (dealG way l k) (bst way l (dealG way l k) l.length).toNat + 1)
def cnt1 (o : List Int) (c : Cl) : List Int := o.set c.2.2.toNat (vt o c.2.2.toNat + 1)
def cntG (S : List Cl) (o : List Int) : List Int := S.foldl cnt1 o
theorem deal_inv {way : Int} {l : List Int} {n : Nat} {T : List Pr} (hv : ∀ i, 0 ≤ vt l i) (hex : ∃ i, 0 < vt l i) (hT : T.Pairwise (pr way l)) (hmem : ∀ x, x ∈ T ↔ 0 < vt l x.1 ∧ x.2 < n) (hlen : n ≤ T.length) :
    ∀ k, k ≤ n → (dealG way l k).length = l.length ∧ (∀ i, 0 ≤ vt (dealG way l k) i ∧ vt (dealG way l k) i ≤ k) ∧ (∀ x : Pr, x ∈ T → (x ∈ T.take k ↔ (x.2 : Int) < vt (dealG way l k) x.1)) ∧
      cntG ((T.take k).map (cl way l)) (List.replicate l.length 0) = dealG way l k
  | 0, _ => ⟨List.length_replicate, fun i => by rw [show dealG way l 0 = List.replicate l.length 0 from rfl, vt_rep]; omega, fun x hx => by
      rw [show dealG way l 0 = List.replicate l.length 0 from rfl, vt_rep, List.take_zero]
      simp, rfl⟩
  | k + 1, hk => by
    obtain ⟨i1, i2, i3, i4⟩ := deal_inv hv hex hT hmem hlen k (by omega)
    have hd : dealG way l (k + 1) = (dealG way l k).set (bst way l (dealG way l k) l.length).toNat (vt (dealG way l k) (bst way l (dealG way l k) l.length).toNat + 1) := rfl
    generalize dealG way l k = o at *
    have h0 : ∀ i, 0 ≤ vt o i := fun i => (i2 i).1
    rcases bst_spec (way := way) hv h0 l.length with ⟨_, hno⟩ | ⟨b, hb, hbl, hbv, hbest⟩
    · obtain ⟨i, hi⟩ := hex
      exfalso
      rcases Nat.lt_or_ge i l.length with h | h
      · rw [hno i h] at hi; omega
      · rw [vt_out h] at hi; omega
    rw [hb, show ((b : Nat) : Int).toNat = b by omega] at hd
    -- the next claim
    have hc : kk o b ∈ T := (hmem _).2 ⟨hbv, by have := (i2 b).2; show (vt o b).toNat < n; omega⟩
    have hkT : k < T.length := by omega
    have hsplit : T = T.take k ++ T[k] :: T.drop (k + 1) := by rw [← List.drop_eq_getElem_cons hkT, List.take_append_drop]
    have htake : T.take (k + 1) = T.take k ++ [T[k]] := List.take_succ_eq_append_getElem hkT
    obtain ⟨x, hx⟩ : ∃ x, x = T[k] := ⟨_, rfl⟩
    rw [← hx] at hsplit htake
    have hxT : x ∈ T := hx ▸ List.getElem_mem hkT
    have hpw := hT
    rw [hsplit, List.pairwise_append, List.pairwise_cons] at hpw
    obtain ⟨_, ⟨hx1, _⟩, hx2⟩ := hpw
    have hxn : x ∉ T.take k := fun h => pr_irr (hx2 x h x (by simp))
    have hxs : ¬ (x.2 : Int) < vt o x.1 := fun h => hxn ((i3 x hxT).2 h)
    have hcn : kk o b ∉ T.take k := fun h => by
      have := (i3 _ hc).1 h
      have h3 := h0 b
      simp only [kk] at this
      omega
    have hxc : x = kk o b := by
      have hcc := hc
      rw [hsplit, List.mem_append, List.mem_cons] at hcc
      rcases hcc with h | h | h
      · exact (hcn h).elim
      · exact h.symm
      · exfalso
        have h1 : pr way l x (kk o b) := hx1 _ h
        have hxv := ((hmem x).1 hxT).1
        have h2 : x = kk o x.1 ∨ pr way l (kk o x.1) x := by
          have h3 := h0 x.1
          by_cases e : (vt o x.1).toNat = x.2
          · left
            unfold kk
            rw [e]
          · right
            exact pr_one (way := way) (l := l) (i := x.1) (s := (vt o x.1).toNat) (t := x.2) (by omega)
        have hxl : x.1 < l.length := by
          rcases Nat.lt_or_ge x.1 l.length with h | h
          · exact h
          · rw [vt_out h] at hxv; omega
        by_cases e : x.1 = b
        · rw [e] at h2
          rcases h2 with h2 | h2
          · rw [h2] at h1; exact pr_irr h1
          · exact pr_irr (pr_trans h1 h2)
        · have h4 := hbest x.1 hxl hxv e
          rcases h2 with h2 | h2
          · rw [h2] at h1; exact pr_irr (pr_trans h1 (h2 ▸ h4))
          · exact pr_irr (pr_trans h1 (pr_trans h4 h2))
    have hbo : b < o.length := by omega
    refine ⟨by rw [hd, List.length_set, i1], fun i => ?_, fun y hy => ?_, ?_⟩
    · rw [hd, vt_set hbo]
      have h3 := i2 i
      have h4 := i2 b
      split
      · omega
      · omega
    · rw [htake, List.mem_append, i3 y hy, hd, vt_set hbo, List.mem_singleton, hxc]
      have h3 := h0 b
      constructor
      · rintro (h | h)
        · split
          · rename_i e; rw [e] at h; omega
          · exact h
        · subst h
          rw [if_pos (show (kk o b).1 = b from rfl)]
          simp only [kk]
          omega
      · intro h
        split at h
        · rename_i e
          by_cases hlt : (y.2 : Int) < vt o y.1
          · exact .inl hlt
          · right
            rw [e] at hlt
            unfold kk
            refine Prod.ext e ?_
            show y.2 = (vt o b).toNat
            omega
        · exact .inl h
    · rw [htake, List.map_append]
      unfold cntG at i4 ⊢
      rw [List.foldl_append, i4, hd, hxc]
      rfl
theorem deal_law {way : Int} {l : List Int} {n : Nat} (hv : ∀ i, 0 ≤ vt l i) (hex : ∃ i, 0 < vt l i) (hlen : n ≤ (allP l n).length) :
    cntG ((srtL clt ((allP l n).map (cl way l)) 0 (allP l n).length).take n) (List.replicate l.length 0) = dealG way l n := by
  obtain ⟨T, h1, h2, h3, h4⟩ := sorted_pairs way l n
  rw [h1, ← List.map_take]
  exact (deal_inv (way := way) hv hex h2 (fun x => (h3 x).trans allP_mem) (by omega) n (Nat.le_refl _)).2.2.2
theorem allP_len {l : List Int} {n : Nat} (hex : ∃ i, 0 < vt l i) : n ≤ (allP l n).length := by
  obtain ⟨i, hi⟩ := hex
  have hil : i < l.length := by
    rcases Nat.lt_or_ge i l.length with h | h
    · exact h
    · rw [vt_out h] at hi; omega
  obtain ⟨a, b, hab⟩ := List.append_of_mem (List.mem_range.2 hil)
  unfold allP
  rw [hab, List.flatMap_append, List.flatMap_cons, if_pos hi, List.length_append, List.length_append, List.length_map, List.length_range]
  omega
theorem allP_max (l : List Int) (n : Nat) : (allP l n).length ≤ l.length * n := by
  unfold allP
  generalize l.length = m
  induction m with
  | zero => simp
  | succ m ih =>
    rw [List.range_succ, List.flatMap_append, List.length_append, Nat.succ_mul]
    have : (List.flatMap (fun i => if 0 < vt l i then (List.range n).map (fun s => ((i, s) : Pr)) else []) [m]).length ≤ n := by
      rw [List.flatMap_cons, List.flatMap_nil, List.append_nil]
      split
      · rw [List.length_map, List.length_range]; exact Nat.le_refl _
      · exact Nat.zero_le _
    omega
end Go.Dl
