/-
  slices.Delete at a row of one's own of ints, as a function that takes the row and gives it back.
-/
import Derived.Test.YtdjdipehfnnhpaaIns
import Derived.Test.YtdjdipehfnnhpaaShD
namespace Go.Proofs.Ytdjdipehfnnhpaa
open Go Go.Ev Go.RowKit Go.Lib Go.Sort
set_option linter.unusedSimpArgs false
set_option linter.unusedVariables false
theorem drewN_heap (w : World) : ∀ q, (Sort.ahead w q).heap = w.heap := fun _ => rfl
theorem ints_of {w : World} {ok : Nat → Prop} : ∀ (l : List Int) (vs : List Value), vs.length = l.length → (∀ (i : Nat) e v, (l.map (V.int .i64))[i]? = some e → vs[i]? = some v → RelD w ok e v) → vs = l.map (Value.int .i64)
  | [], [], _, _ => rfl
  | x :: l, v :: vs, h, hr => by
    have h0 := hr 0 _ v rfl rfl
    cases h0
    rw [ints_of l vs (by simpa using h) fun i e v he hv => hr (i + 1) e v (by simpa using he) (by simpa using hv)]
    rfl
theorem ints_flat (l : List Int) : (l.map (Value.int .i64)).flatMap (·.cells.toList) = l.map (Value.int .i64) := by
  induction l with
  | nil => rfl
  | cons x l ih => rw [List.map_cons, List.flatMap_cons, ih]; rfl
theorem delI_take {J : World → Prop} (i j : Nat) (l : List Int) (hij : i ≤ j) (hj : j ≤ l.length) (hl : l ≠ []) :
    TakeAt Try.prog J 63 3 1 (l.map (V.int .i64)) [.int .i64 i, .int .i64 j] ((l.take i ++ l.drop j).map (V.int .i64)) := by
  refine ⟨⟨_, Try.func63, by kernel_rfl, by kernel_rfl⟩, ?_⟩
  intro w B ok ok2 sv vals hJ hBw hok hsub h1 hpos hown hlen hrel
  match vals, hlen with
  | [x, u], _ =>
  have hx' : x = .int .i64 i := by
    have : RelD w ok2 (.int .i64 i) x := hrel 0 _ x rfl rfl
    cases this; rfl
  have hu' : u = .int .i64 j := by
    have : RelD w ok2 (.int .i64 j) u := hrel 1 _ u rfl rfl
    cases this; rfl
  subst hx' hu'
  rcases hown.form with ⟨ad, rfl, he⟩ | ⟨g, cap, vs, rfl, hc0, hle, hvl, hsz, h10, hr0, how⟩
  · exact absurd (List.map_eq_nil_iff.1 he) hl
  rw [List.length_map] at hle hvl how ⊢
  have hvs := ints_of l vs (by rw [hvl]) hr0
  subst hvs
  rw [ints_flat] at how
  obtain ⟨hfl, ⟨h0, _⟩ | ⟨g', cap', cur, e1, hB, hhp, hn, hm, hcs, htk⟩⟩ := how
  · cases h0
  cases e1
  rw [Nat.mul_one] at htk hcs
  have hcur : ∀ k, k < l.length → cur[k]? = some (.int .i64 (l.getD k 0)) := fun k hk => by
    have : (cur.toList.take l.length)[k]? = some (.int .i64 (l.getD k 0)) := by
      rw [htk, List.getElem?_map, List.getElem?_eq_getElem hk]
      simp [hk]
    rw [List.getElem?_take, if_pos hk] at this
    simpa using this
  have hH : Holds (Value.int .i64) w g 0 l.toArray := by
    intro k hk
    have hk' : k < l.length := by simpa using hk
    have hc := hcur k hk'
    refine ⟨?_, ?_⟩
    · unfold World.cell?
      simp only [hhp, Nat.zero_add, hc]
      simp [hk']
    · unfold World.frozen?
      simp only [hhp]
      first | rfl | simp
  refine (show Calls Try.prog 63 _ w _ from Any.slices_Delete_int Try.laysNm223 g 0 cap i j l w hH hle hm hij hj).mono ?_
  rintro e w' ⟨rfl, q, rfl⟩
  have hX : (l.take i ++ l.drop j ++ List.replicate (j - i) 0).length = l.length := by
    simp only [List.length_append, List.length_take, List.length_drop, List.length_replicate]; omega
  generalize hD : l.take i ++ l.drop j ++ List.replicate (j - i) 0 = D at hX ⊢
  have hlen2 : (l.take i ++ l.drop j).length = l.length - (j - i) := by
    simp only [List.length_append, List.length_take, List.length_drop]; omega
  have hheap : ∀ k, (putRow (Value.int .i64) (Sort.ahead w q) g 0 D.toArray).heap[k]? = if g = k then (w.heap[k]?).map (onCells (putCells (Value.int .i64) 0 D.toArray)) else w.heap[k]? := fun k => by
    unfold putRow mapBlock
    simp only [Array.getElem?_modify]
    rfl
  have hgB : B ≤ g := hB
  have hne : ∀ k, own (.slice (some ⟨g, 0, none⟩) l.length cap) ≠ some k → ¬ g = k := fun k h e => h (by simp [own, hc0, e])
  refine ⟨_, rfl, ⟨rfl, rfl, rfl, ?_, fun k hk => ?_⟩, fun k hk hno => ?_, ?_, fun k hk => .inr ?_, rfl, ?_⟩
  · simp
  · rw [hheap, if_neg (by omega)]
  · rw [hheap, if_neg (hne k hno)]
  · simp
  · simpa [own, hc0] using hk
  · refine ⟨(l.take i ++ l.drop j).map (Value.int .i64), by simp, ?_, ?_, ?_, .inr ?_⟩
    · intro v hv
      obtain ⟨n, _, rfl⟩ := List.mem_map.1 hv
      rfl
    · intro v hv u hu
      obtain ⟨n, _, rfl⟩ := List.mem_map.1 hv
      simp [Value.cells] at hu
      subst hu
      rfl
    · intro k e v he hv
      rw [List.getElem?_map] at he hv
      cases hn : (l.take i ++ l.drop j)[k]? with
      | none => simp [hn] at he
      | some n =>
        simp only [hn, Option.map_some, Option.some.injEq] at he hv
        subst he; subst hv
        exact .int _ _
    · rw [ints_flat, List.length_map, hlen2]
      refine ⟨by rw [List.length_map, hlen2, Nat.mul_one], .inr ⟨g, cap, putCells (Value.int .i64) 0 D.toArray cur, rfl, hB, ?_, by omega, hm, ?_, ?_⟩⟩
      · rw [hheap, if_pos rfl, hhp]; rfl
      · simp [putCells, hcs]
      · rw [Nat.mul_one]
        apply List.ext_getElem?
        intro k
        rw [List.getElem?_take]
        by_cases hk : k < l.length - (j - i)
        · rw [if_pos hk]
          have hDk : D[k]? = (l.take i ++ l.drop j)[k]? := by
            rw [← hD, List.getElem?_append_left (by rw [hlen2]; exact hk)]
          have hkl : k < cur.size := by omega
          have hkD : k < D.length := by omega
          rw [List.getElem?_map, ← hDk, List.getElem?_eq_getElem hkD]
          simp [putCells, hkl, hkD]
        · rw [if_neg hk, List.getElem?_eq_none (by rw [List.length_map, hlen2]; omega)]
end Go.Proofs.Ytdjdipehfnnhpaa
