/-
  Trial, profit and sheet of books, in plain words; sums that do not hang on the order of a map's entries.
-/
import Derived.Test.YtdmkmbaaemhhhaaDoorBkH
import Derived.Test.YtdmkmbaaemhhhaaDoorPoP
namespace Go.Acc
open Go
set_option linter.unusedVariables false
set_option linter.unusedSimpArgs false
def pos (n : Int) : Int := if 0 < n then n else 0
def neg (n : Int) : Int := if 0 < n then 0 else -n
def trD (E : List En) (day : Int) (A : List (ByteArray × Int)) : Int := (A.map fun a => pos (ofB a.1 0 day E)).sum
def trC (E : List En) (day : Int) (A : List (ByteArray × Int)) : Int := (A.map fun a => neg (ofB a.1 0 day E)).sum
def kdS (E : List En) (f t k : Int) (A : List (ByteArray × Int)) : Int := (A.map fun a => if a.2 = k then ofB a.1 f t E else 0).sum
theorem sum_take {α : Type} (g : α → Int) {l : List α} {k : Nat} {x : α} (h : l[k]? = some x) : ((l.take (k + 1)).map g).sum = ((l.take k).map g).sum + g x := by
  have hlt : k < l.length := (List.getElem?_eq_some_iff.1 h).1
  have he : l[k] = x := (List.getElem?_eq_some_iff.1 h).2
  rw [List.take_succ_eq_append_getElem hlt, he, List.map_append, List.sum_append]
  simp
theorem sum_bdk {α : Type} (g : α → Int) (M : Int) (hM : 0 ≤ M) {l : List α} (h : ∀ x, -M ≤ g x ∧ g x ≤ M) (n : Nat) (hl : l.length ≤ n) (k : Nat) : -(n * M) ≤ ((l.take k).map g).sum ∧ ((l.take k).map g).sum ≤ n * M := by
  have h1 := sum_bd g M hM (l.take k) fun x _ => h x
  have h2 : ((l.take k).length : Int) * M ≤ n * M := Int.mul_le_mul_of_nonneg_right (by rw [List.length_take]; omega) hM
  omega
theorem trD_bd {E : List En} (hE : ∀ x ∈ E, enX x = 0) (hl : E.length ≤ 60) (day : Int) {A : List (ByteArray × Int)} (hA : A.length ≤ 24) (k : Nat) : -17280000000000000 ≤ trD E day (A.take k) ∧ trD E day (A.take k) ≤ 17280000000000000 := by
  have := sum_bdk (fun a : ByteArray × Int => pos (ofB a.1 0 day E)) 720000000000000 (by omega) (l := A) (fun a => by have := ofB_bd a.1 0 day hE hl; unfold pos; split <;> omega) 24 hA k
  exact this
theorem trC_bd {E : List En} (hE : ∀ x ∈ E, enX x = 0) (hl : E.length ≤ 60) (day : Int) {A : List (ByteArray × Int)} (hA : A.length ≤ 24) (k : Nat) : -17280000000000000 ≤ trC E day (A.take k) ∧ trC E day (A.take k) ≤ 17280000000000000 := by
  have := sum_bdk (fun a : ByteArray × Int => neg (ofB a.1 0 day E)) 720000000000000 (by omega) (l := A) (fun a => by have := ofB_bd a.1 0 day hE hl; unfold neg; split <;> omega) 24 hA k
  exact this
theorem kdS_bd {E : List En} (hE : ∀ x ∈ E, enX x = 0) (hl : E.length ≤ 60) (f t i : Int) {A : List (ByteArray × Int)} (hA : A.length ≤ 24) (k : Nat) : -17280000000000000 ≤ kdS E f t i (A.take k) ∧ kdS E f t i (A.take k) ≤ 17280000000000000 := by
  have := sum_bdk (fun a : ByteArray × Int => if a.2 = i then ofB a.1 f t E else 0) 720000000000000 (by omega) (l := A) (fun a => by have := ofB_bd a.1 f t hE hl; split <;> omega) 24 hA k
  exact this
/-! ### the map of sums: its keys are accounts, each once -/
def keyed (A M : List (ByteArray × Int)) : Prop := (M.map (·.1)).Nodup ∧ ∀ p ∈ M, hasA A p.1 = true
theorem putM_keys (c : ByteArray) (v : Int) : ∀ M : List (ByteArray × Int), (c ∈ M.map (·.1) ∧ (putM c v M).map (·.1) = M.map (·.1)) ∨ (c ∉ M.map (·.1) ∧ (putM c v M).map (·.1) = M.map (·.1) ++ [c])
  | [] => .inr ⟨by simp, rfl⟩
  | p :: M => by
    unfold putM
    by_cases h : c = p.1
    · rw [if_pos h]; exact .inl ⟨by rw [h]; exact List.mem_cons_self, rfl⟩
    · rw [if_neg h]
      rcases putM_keys c v M with ⟨h1, h2⟩ | ⟨h1, h2⟩
      · exact .inl ⟨List.mem_cons_of_mem _ h1, by rw [List.map_cons, h2]; rfl⟩
      · exact .inr ⟨by simp only [List.map_cons, List.mem_cons, not_or]; exact ⟨h, h1⟩, by rw [List.map_cons, h2]; rfl⟩
theorem keyed_put {A M : List (ByteArray × Int)} (h : keyed A M) (c : ByteArray) (v : Int) (hc : hasA A c = true) : keyed A (putM c v M) := by
  have key : ∀ x, x ∈ M.map (·.1) → hasA A x = true := fun x hm => by
    obtain ⟨q, hq, he⟩ := List.mem_map.1 hm
    rw [← he]; exact h.2 q hq
  rcases putM_keys c v M with ⟨_, hk⟩ | ⟨hn, hk⟩
  · refine ⟨by rw [hk]; exact h.1, fun p hp => key _ ?_⟩
    rw [← hk]; exact List.mem_map.2 ⟨p, hp, rfl⟩
  · refine ⟨?_, fun p hp => ?_⟩
    · rw [hk, List.nodup_append]
      refine ⟨h.1, by simp, fun x hx y hy e => ?_⟩
      simp at hy
      subst hy; subst e
      exact hn hx
    · have hm : p.1 ∈ (putM c v M).map (·.1) := List.mem_map.2 ⟨p, hp, rfl⟩
      rw [hk] at hm
      rcases List.mem_append.1 hm with hm | hm
      · exact key _ hm
      · simp at hm
        rw [hm]; exact hc
theorem keyed_lines {A : List (ByteArray × Int)} : ∀ (l M : List (ByteArray × Int)), keyed A M → (∀ p ∈ l, hasA A p.1 = true) → keyed A (l.foldl addM M)
  | [], _, h, _ => h
  | p :: l, M, h, hl => keyed_lines l _ (keyed_put h _ _ (hl p List.mem_cons_self)) fun q hq => hl q (List.mem_cons_of_mem _ hq)
theorem keyed_fold {A : List (ByteArray × Int)} (f t : Int) : ∀ (E : List En) (M : List (ByteArray × Int)), keyed A M → (∀ x ∈ E, knownB A x = true) → keyed A (E.foldl (addE f t) M)
  | [], _, h, _ => h
  | x :: E, M, h, hE => by
    refine keyed_fold f t E _ ?_ fun y hy => hE y (List.mem_cons_of_mem _ hy)
    unfold addE
    split
    · refine keyed_lines _ _ h fun p hp => ?_
      have := hE x List.mem_cons_self
      unfold knownB at this
      exact List.all_eq_true.1 this p hp
    · exact h
theorem keyed_sums {A : List (ByteArray × Int)} (f t : Int) {E : List En} (hE : ∀ x ∈ E, knownB A x = true) : keyed A (sumsM f t E) := keyed_fold f t E [] ⟨List.nodup_nil, fun _ h => by cases h⟩ hE
/-! ### codes of accounts that may be: each once -/
theorem acE_codes : ∀ (A : List (ByteArray × Int)) (p : Option ByteArray), acE p A = 0 → (∀ a ∈ A, 0 ≤ a.2 ∧ a.2 ≤ 4) ∧ (A.map (·.1)).Nodup ∧ ∀ c, p = some c → ∀ a ∈ A, Op.bytesLess c.toList a.1.toList = true
  | [], _, _ => ⟨by simp, by simp, by simp⟩
  | (c, k) :: A, p, h => by
    unfold acE at h
    by_cases h1 : codeOk c = false
    · rw [if_pos h1] at h; omega
    rw [if_neg h1] at h
    by_cases h2 : ¬ (0 ≤ k ∧ k ≤ 4)
    · rw [if_pos h2] at h; omega
    rw [if_neg h2] at h
    obtain ⟨h, h3⟩ : acE (some c) A = 0 ∧ ∀ d, p = some d → Op.bytesLess d.toList c.toList = true := by
      cases p with
      | none => exact ⟨by simpa using h, fun d hd => by cases hd⟩
      | some d =>
        cases hb : Op.bytesLess d.toList c.toList with
        | true => exact ⟨by simpa [hb] using h, fun d' hd => by cases hd; exact hb⟩
        | false => simp [hb] at h
    obtain ⟨g1, g2, g3⟩ := acE_codes A (some c) h
    refine ⟨fun a ha => ?_, ?_, fun d hd a ha => ?_⟩
    · rcases List.mem_cons.1 ha with rfl | ha
      · exact Decidable.not_not.1 h2
      · exact g1 a ha
    · rw [List.map_cons, List.nodup_cons]
      refine ⟨fun hm => ?_, g2⟩
      obtain ⟨a, ha, he⟩ := List.mem_map.1 hm
      have := g3 c rfl a ha
      rw [he, lessB_irrefl] at this
      cases this
    · subst hd
      have hdc : Op.bytesLess d.toList c.toList = true := h3 d rfl
      rcases List.mem_cons.1 ha with rfl | ha
      · exact hdc
      · exact lessB_trans hdc (g3 c rfl a ha)
theorem acChk_codes {A : List (ByteArray × Int)} (h : acChk A = 0) : A.length ≤ 24 ∧ (∀ a ∈ A, 0 ≤ a.2 ∧ a.2 ≤ 4) ∧ (A.map (·.1)).Nodup := by
  unfold acChk at h
  by_cases h1 : 24 < A.length
  · rw [if_pos h1] at h; omega
  · rw [if_neg h1] at h
    obtain ⟨g1, g2, _⟩ := acE_codes A none h
    exact ⟨by omega, g1, g2⟩
/-! ### a sum over accounts is one over the map -/
theorem lookM_none {c : ByteArray} : ∀ {M : List (ByteArray × Int)}, c ∉ M.map (·.1) → lookM c M = none
  | [], _ => rfl
  | p :: M, h => by
    simp only [List.map_cons, List.mem_cons, not_or] at h
    unfold lookM
    rw [if_neg h.1, lookM_none h.2]
theorem sum_one (c : ByteArray) (x : Int) : ∀ A : List (ByteArray × Int), (A.map (·.1)).Nodup → hasA A c = true → (A.map fun a => if a.1 = c then x else 0).sum = x
  | [], _, h => by simp [hasA] at h
  | a :: A, hn, h => by
    rw [List.map_cons, List.nodup_cons] at hn
    rw [List.map_cons, List.sum_cons]
    by_cases hc : a.1 = c
    · rw [if_pos hc]
      have : (A.map fun a => if a.1 = c then x else 0).sum = 0 := by
        have h0 : ∀ B : List (ByteArray × Int), c ∉ B.map (·.1) → (B.map fun a => if a.1 = c then x else 0).sum = 0 := by
          intro B
          induction B with
          | nil => intro _; rfl
          | cons b B ih =>
            intro hb
            simp only [List.map_cons, List.mem_cons, not_or] at hb
            rw [List.map_cons, List.sum_cons, ih hb.2, if_neg (fun e => hb.1 e.symm)]; rfl
        exact h0 A (by rw [← hc]; exact hn.1)
      omega
    · rw [if_neg hc, sum_one c x A hn.2 (by
        unfold hasA at h ⊢
        rw [List.any_cons] at h
        have : isC c a = false := by unfold isC; simpa using hc
        rw [this, Bool.false_or] at h
        exact h)]
      omega
theorem sum_keys (g : Int → Int) (g0 : g 0 = 0) {A : List (ByteArray × Int)} (hA : (A.map (·.1)).Nodup) : ∀ M : List (ByteArray × Int), keyed A M → (M.map fun p => g p.2).sum = (A.map fun a => g ((lookM a.1 M).getD 0)).sum
  | [], _ => by
    have : ∀ B : List (ByteArray × Int), (B.map fun a => g ((lookM a.1 []).getD 0)).sum = 0 := by
      intro B
      induction B with
      | nil => rfl
      | cons b B ih => rw [List.map_cons, List.sum_cons, ih]; simp [lookM, g0]
    rw [this]; rfl
  | p :: M, h => by
    have hn := h.1
    rw [List.map_cons, List.nodup_cons] at hn
    have hM : keyed A M := ⟨hn.2, fun q hq => h.2 q (List.mem_cons_of_mem _ hq)⟩
    have hl := lookM_none hn.1
    rw [List.map_cons, List.sum_cons, sum_keys g g0 hA M hM]
    have h1 := sum_one p.1 (g p.2) A hA (h.2 p List.mem_cons_self)
    have : ∀ B : List (ByteArray × Int), (B.map fun a => g ((lookM a.1 (p :: M)).getD 0)).sum = (B.map fun a => if a.1 = p.1 then g p.2 else 0).sum + (B.map fun a => g ((lookM a.1 M).getD 0)).sum := by
      intro B
      induction B with
      | nil => rfl
      | cons b B ih =>
        simp only [List.map_cons, List.sum_cons]
        rw [ih]
        simp only [lookM]
        by_cases hb : b.1 = p.1
        · rw [if_pos hb, if_pos hb, hb, hl]
          simp only [Option.getD_some, Option.getD_none, g0]
          omega
        · rw [if_neg hb, if_neg hb]
          omega
    rw [this, h1]
theorem trD_map {A : List (ByteArray × Int)} {E : List En} {s : Int} (h : bkChk A E s = 0) (day : Int) : ((sumsM 0 day E).map fun p => pos p.2).sum = trD E day A := by
  obtain ⟨h1, _, _, h4⟩ := bkChk_ok h
  rw [sum_keys pos rfl (acChk_codes h1).2.2 _ (keyed_sums 0 day fun x hx => (h4 x hx).2)]
  unfold trD
  congr 1
  exact List.map_congr_left fun a _ => by rw [lookM_sums]
theorem trC_map {A : List (ByteArray × Int)} {E : List En} {s : Int} (h : bkChk A E s = 0) (day : Int) : ((sumsM 0 day E).map fun p => neg p.2).sum = trC E day A := by
  obtain ⟨h1, _, _, h4⟩ := bkChk_ok h
  rw [sum_keys neg rfl (acChk_codes h1).2.2 _ (keyed_sums 0 day fun x hx => (h4 x hx).2)]
  unfold trC
  congr 1
  exact List.map_congr_left fun a _ => by rw [lookM_sums]
/-! ### entries that a loop over a map has seen -/
def seenG (g : Int → Int) : List MapEntry → Array Nat → Int
  | [], _ => 0
  | x :: l, seen => (if seen.contains x.born then g (valOf x.val) else 0) + seenG g l seen
theorem seenG_none (g : Int → Int) : ∀ l : List MapEntry, seenG g l #[] = 0
  | [] => rfl
  | x :: l => by
    unfold seenG
    rw [seenG_none g l]
    simp
theorem seenG_other (g : Int → Int) (seen : Array Nat) (b : Nat) : ∀ (es : List MapEntry), b ∉ es.map (·.born) → seenG g es (seen.push b) = seenG g es seen
  | [], _ => rfl
  | x :: l, h => by
    simp only [List.map_cons, List.mem_cons, not_or] at h
    unfold seenG
    rw [seenG_other g seen b l h.2, Array.contains_push]
    have : (x.born == b) = false := by rw [beq_eq_false_iff_ne]; exact fun e => h.1 e.symm
    rw [this, Bool.or_false]
theorem seenG_push (g : Int → Int) (seen : Array Nat) (e : MapEntry) (hs : seen.contains e.born = false) : ∀ (es : List MapEntry), (es.map (·.born)).Nodup → e ∈ es → seenG g es (seen.push e.born) = seenG g es seen + g (valOf e.val)
  | [], _, h => by cases h
  | x :: l, hn, he => by
    rw [List.map_cons, List.nodup_cons] at hn
    unfold seenG
    rw [Array.contains_push]
    rcases List.mem_cons.1 he with rfl | he'
    · rw [seenG_other g seen e.born l hn.1, hs, beq_self_eq_true]
      simp only [Bool.or_true, if_true, Bool.false_eq_true, if_false]
      omega
    · have hne : (x.born == e.born) = false := by
        rw [beq_eq_false_iff_ne]
        intro eq
        exact hn.1 (List.mem_map.2 ⟨e, he', eq.symm⟩)
      rw [seenG_push g seen e hs l hn.2 he', hne, Bool.or_false]
      omega
theorem seenG_le (g : Int → Int) (hg : ∀ n, 0 ≤ g n) (seen : Array Nat) : ∀ es : List MapEntry, 0 ≤ seenG g es seen ∧ seenG g es seen ≤ (es.map fun e => g (valOf e.val)).sum
  | [] => by simp [seenG]
  | x :: l => by
    have := seenG_le g hg seen l
    have := hg (valOf x.val)
    unfold seenG
    rw [List.map_cons, List.sum_cons]
    split <;> omega
theorem seenG_all (g : Int → Int) (es : Array MapEntry) (seen : Array Nat) (h : (leftOf es seen).size = 0) : seenG g es.toList seen = (es.toList.map fun e => g (valOf e.val)).sum := by
  have hall : ∀ e ∈ es.toList, seen.contains e.born = true := fun e he => by
    cases hc : seen.contains e.born with
    | true => rfl
    | false =>
      exfalso
      have hm : e ∈ leftOf es seen := by
        unfold leftOf
        rw [Array.mem_filter]
        exact ⟨Array.mem_toList_iff.1 he, by rw [hc]; rfl⟩
      have := Array.size_pos_of_mem hm
      omega
  have key : ∀ l : List MapEntry, (∀ e ∈ l, seen.contains e.born = true) → seenG g l seen = (l.map fun e => g (valOf e.val)).sum := by
    intro l
    induction l with
    | nil => intro _; rfl
    | cons x l ih =>
      intro hl
      unfold seenG
      rw [hl x List.mem_cons_self, if_pos rfl, ih fun e he => hl e (List.mem_cons_of_mem _ he)]
      rfl
  exact key _ hall
/-- a map's entries as codes and sums -/
theorem entries_vals (g : Int → Int) (M : List (ByteArray × Int)) : ∀ (es : List MapEntry), es.map (fun e => (some e.key, some e.val)) = M.map (fun p => (some (Value.string p.1), some (Value.int .i64 p.2))) →
    (es.map fun e => g (valOf e.val)).sum = (M.map fun p => g p.2).sum ∧ ∀ e ∈ es, ∃ n, e.val = .int .i64 n := by
  induction M with
  | nil => intro es h; simp at h; subst h; simp
  | cons p M ih =>
    intro es h
    match es, h with
    | e :: es, h =>
      simp only [List.map_cons, List.cons.injEq, Prod.mk.injEq, Option.some.injEq] at h
      obtain ⟨⟨h1, h2⟩, h3⟩ := h
      obtain ⟨i1, i2⟩ := ih es h3
      refine ⟨?_, fun x hx => ?_⟩
      · rw [List.map_cons, List.map_cons, List.sum_cons, List.sum_cons, i1, h2]
        rfl
      · rcases List.mem_cons.1 hx with rfl | hx
        · exact ⟨p.2, h2⟩
        · exact i2 x hx
end Go.Acc
