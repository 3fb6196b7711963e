/-
  What a bank tells tied to what the books tell, in plain words: the first of those that are left, and the same by marks.
-/
import Derived.Test.YtdjdipehfnnhpaaSplP
namespace Go.Tie
open Go Go.Ev
/-- a day and an amount -/
abbrev It := Int × Int
def itV (p : It) : V := .agg [.int .i64 p.1, .int .i64 p.2]
def itBad (p : It) : Bool := decide (¬ (0 ≤ p.1 ∧ p.1 ≤ 292193) ∨ ¬ (1 ≤ p.2 ∧ p.2 ≤ 1000000000000))
def itE (l : List It) : Int := if 40 < l.length then 2 else if l.any itBad = true then 1 else 0
def itOk (l : List It) : Prop := l.length ≤ 40 ∧ ∀ p ∈ l, (0 ≤ p.1 ∧ p.1 ≤ 292193) ∧ 1 ≤ p.2 ∧ p.2 ≤ 1000000000000
theorem itE_0 {l : List It} (h : itE l = 0) : itOk l := by
  unfold itE at h
  split at h
  · omega
  · split at h
    · omega
    · rename_i h1 h2
      refine ⟨by omega, fun p hp => ?_⟩
      rw [Bool.not_eq_true, List.any_eq_false] at h2
      have := h2 p hp
      simp [itBad] at this
      omega
theorem itE_cases (l : List It) : itE l = 0 ∨ itE l = 1 ∨ itE l = 2 := by unfold itE; (repeat' split) <;> simp
def dy (l : List It) (k : Nat) : Int := (l.getD k (0, 0)).1
def am (l : List It) (k : Nat) : Int := (l.getD k (0, 0)).2
theorem it_get {l : List It} {k : Nat} (h : k < l.length) : l[k]? = some (dy l k, am l k) := by
  rw [List.getElem?_eq_getElem h]
  simp [dy, am, h]
theorem itV_get {l : List It} {k : Nat} (h : k < l.length) : (l.map itV)[k]? = some (.agg [.int .i64 (dy l k), .int .i64 (am l k)]) := by
  rw [List.getElem?_map, it_get h]; rfl
theorem it_bd {l : List It} (h : itOk l) {k : Nat} (hk : k < l.length) : (0 ≤ dy l k ∧ dy l k ≤ 292193) ∧ 1 ≤ am l k ∧ am l k ≤ 1000000000000 := h.2 (dy l k, am l k) (List.mem_of_getElem? (it_get hk))
/-- the order of the days -/
def nd (l : List It) (k : Nat) : Int := - dy l k
/-- a match -/
def mt (a b : List It) (w : Int) (i k : Nat) : Bool := decide (am a i = am b k ∧ dy a i - dy b k ≤ w ∧ -(dy a i - dy b k) ≤ w)
def tieGo (m : Nat → Nat → Bool) : List Nat → List Nat → List Int → List Int
  | [], _, out => out
  | i :: A, th, out => if th.findIdx (m i) < th.length then tieGo m A (th.eraseIdx (th.findIdx (m i))) (out.set i ((th.getD (th.findIdx (m i)) 0 : Nat) : Int)) else tieGo m A th out
theorem filt_none (p q : Nat → Bool) : ∀ T : List Nat, (∀ x ∈ T, (p x && q x) = false) → ¬ (T.filter p).findIdx q < (T.filter p).length
  | [], _ => by simp
  | x :: T, h => by
    have ih := filt_none p q T fun y hy => h y (List.mem_cons_of_mem _ hy)
    have hx := h x List.mem_cons_self
    cases hp : p x with
    | false => rw [List.filter_cons_of_neg (by simp [hp])]; exact ih
    | true =>
      rw [hp, Bool.true_and] at hx
      rw [List.filter_cons_of_pos hp, List.findIdx_cons, hx, List.length_cons]
      simp only [cond_false]
      omega
theorem filt_some (p q : Nat → Bool) {k : Nat} (hp : p k = true) (hq : q k = true) : ∀ (T : List Nat) (s : Nat), T.Nodup → T[s]? = some k → (∀ j x, j < s → T[j]? = some x → (p x && q x) = false) →
    (T.filter p).findIdx q < (T.filter p).length ∧ (T.filter p).getD ((T.filter p).findIdx q) 0 = k ∧ (T.filter p).eraseIdx ((T.filter p).findIdx q) = T.filter fun x => p x && !(x == k)
  | [], s, _, h, _ => by simp at h
  | x :: T, 0, hn, h, _ => by
    simp only [List.getElem?_cons_zero, Option.some.injEq] at h
    subst h
    have hnot : ∀ y ∈ T, y ≠ x := fun y hy e => by subst e; exact (List.nodup_cons.1 hn).1 hy
    rw [List.filter_cons_of_pos hp, List.findIdx_cons, hq]
    refine ⟨by simp, by simp, ?_⟩
    rw [List.filter_cons_of_neg (by simp)]
    simp only [cond_true, List.eraseIdx_cons_zero]
    refine List.filter_congr fun y hy => ?_
    have := hnot y hy
    simp [this]
  | x :: T, s + 1, hn, h, hall => by
    simp only [List.getElem?_cons_succ] at h
    have hx := hall 0 x (by omega) rfl
    have ih := filt_some p q hp hq T s (List.nodup_cons.1 hn).2 h fun j y hj hy => hall (j + 1) y (by omega) (by simpa using hy)
    have hne : x ≠ k := fun e => by subst e; exact (List.nodup_cons.1 hn).1 (List.mem_of_getElem? h)
    cases hpx : p x with
    | false =>
      rw [List.filter_cons_of_neg (by simp [hpx]), List.filter_cons_of_neg (by simp [hpx])]
      exact ih
    | true =>
      rw [hpx, Bool.true_and] at hx
      obtain ⟨i1, i2, i3⟩ := ih
      rw [List.filter_cons_of_pos hpx, List.findIdx_cons, hx, List.filter_cons_of_pos (by simp [hpx, hne])]
      simp only [cond_false]
      refine ⟨by simpa using i1, by simpa using i2, ?_⟩
      rw [List.eraseIdx_cons_succ, i3]
/-- not yet marked -/
def free (U : List Bool) (x : Nat) : Bool := !(U.getD x false)
theorem free_set {U : List Bool} {k : Nat} (hk : k < U.length) (T : List Nat) : T.filter (free (U.set k true)) = T.filter fun x => free U x && !(x == k) := by
  refine List.filter_congr fun x _ => ?_
  unfold free
  rw [List.getD_eq_getElem?_getD, List.getD_eq_getElem?_getD, List.getElem?_set]
  by_cases e : k = x
  · subst e; simp [hk]
  · have e' : ¬ x = k := fun h => e h.symm
    simp [e, e']
theorem free_all (n : Nat) {T : List Nat} : T.filter (free (List.replicate n false)) = T := by
  refine List.filter_eq_self.2 fun x _ => ?_
  unfold free
  rw [List.getD_eq_getElem?_getD, List.getElem?_replicate]
  split <;> rfl
/-- one round by marks -/
theorem mark_some {m : Nat → Nat → Bool} {i k s : Nat} {T A : List Nat} {U : List Bool} {out : List Int} (hn : T.Nodup) (hs : T[s]? = some k) (hU : U[k]? = some false) (hm : m i k = true) (hall : ∀ j x, j < s → T[j]? = some x → (free U x && m i x) = false) :
    tieGo m (i :: A) (T.filter (free U)) out = tieGo m A (T.filter (free (U.set k true))) (out.set i (k : Int)) := by
  have hf : free U k = true := by unfold free; rw [List.getD_eq_getElem?_getD, hU]; rfl
  obtain ⟨h1, h2, h3⟩ := filt_some (free U) (m i) hf hm T s hn hs hall
  rw [tieGo, if_pos h1, h2, h3, free_set (List.getElem?_eq_some_iff.1 hU).1]
theorem mark_none {m : Nat → Nat → Bool} {i : Nat} {T A : List Nat} {U : List Bool} {out : List Int} (hall : ∀ j x, j < T.length → T[j]? = some x → (free U x && m i x) = false) :
    tieGo m (i :: A) (T.filter (free U)) out = tieGo m A (T.filter (free U)) out := by
  rw [tieGo, if_neg]
  refine filt_none _ _ T fun x hx => ?_
  obtain ⟨j, hj, rfl⟩ := List.mem_iff_getElem.1 hx
  exact hall j _ hj (List.getElem?_eq_getElem hj)
/-- one round by taking away -/
theorem away_some {m : Nat → Nat → Bool} {i k s : Nat} {T A : List Nat} {out : List Int} (hs : T[s]? = some k) (hm : m i k = true) (hall : ∀ j x, j < s → T[j]? = some x → m i x = false) :
    tieGo m (i :: A) T out = tieGo m A (T.take s ++ T.drop (s + 1)) (out.set i (k : Int)) := by
  obtain ⟨hlt, he⟩ := List.getElem?_eq_some_iff.1 hs
  have hf : T.findIdx (m i) = s := (List.findIdx_eq hlt).2 ⟨by rw [he]; exact hm, fun j hj => hall j _ hj (List.getElem?_eq_getElem (by omega))⟩
  rw [tieGo, hf, if_pos hlt, List.getD_eq_getElem?_getD, hs, List.eraseIdx_eq_take_drop_succ]
  rfl
theorem away_none {m : Nat → Nat → Bool} {i : Nat} {T A : List Nat} {out : List Int} (hall : ∀ j x, j < T.length → T[j]? = some x → m i x = false) :
    tieGo m (i :: A) T out = tieGo m A T out := by
  rw [tieGo, if_neg]
  have : T.findIdx (m i) = T.length := List.findIdx_eq_length.2 fun x hx => by
    obtain ⟨j, hj, rfl⟩ := List.mem_iff_getElem.1 hx
    exact hall j _ hj (List.getElem?_eq_getElem hj)
  omega
end Go.Tie
