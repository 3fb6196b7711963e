/-
  Laws of no program for slices.Insert at rows of wider elements: copy, overlaps, the cells that it leaves.
-/
import Derived.Test.YtdmkmbaaemhhhaaGreatDoorP10
import Derived.Laws.CopyRow
import Derived.Lib.AppendZeros
import Derived.Lib.AppendZerosOnto
import Derived.Deep.AppendSrc
import Derived.Laws.Externs
import Derived.Laws.IdiomCopy
import Derived.Lib.Walk
import Derived.Shelf.RegionOpenPlain
import Derived.WalkKit
namespace Go.Ev
open Go Go.RowKit
theorem run_copy_k {P : Program} (w : World) (dT sT ty elem : TypeId) (I : TypeInfo) (g o dLen dCap : Nat) (a : Addr) (sLen sCap n : Nat) (cur : Array Value) (t : TypeId) (cs : List Value)
  (hu : P.underlying dT = some (.slice elem)) (hi : P.info? elem = some I) (hg : w.heap[g]? = some (.cells cur t (0, 0))) (hn : Nat.min sLen dLen = n) (hl : cs.length = n * I.size)
  (hsrc : ∀ j v, cs[j]? = some v → w.cell? (a.add j) = some v) (hfit : o + cs.length ≤ cur.size) (h1 : ∀ v ∈ cs, v.oneCell' = true) :
  (Builtin.copy_ #[dT, sT] ty #[.slice (some ⟨g, o, none⟩) dLen dCap, .slice (some a) sLen sCap]).run P w =
   .ok (goInt n) (w.setRow g (cur.toList.take o ++ cs ++ cur.toList.drop (o + cs.length)).toArray) := by
 have hld := run_loadCells_list (P := P) w a cs hsrc
 have hst := run_storeCells_at P g o t cs 0 cur w hg (by simpa using hfit) h1
 rw [hl] at hld
 simp [Builtin.copy_, run_underlying hu, Builtin.lenOf, Builtin.firstCells, sizeOf, typeInfo, hi, hn, hld, hst]
theorem run_overlaps_own {P : Program} (w : World) (tS tR e : TypeId) (ht : P.underlying tS = some (.slice e)) (size : Nat) (hz : ∀ w, (Go.sizeOf e).run P w = .ok size w)
  (a b : Addr) (la ca lb cb : Nat) (hne : a.block ≠ b.block) (cur : Array Value) (t : TypeId) (hb : w.heap[b.block]? = some (.cells cur t (0, 0))) (h0 : cur.size ≠ 0) (tA : TypeId) (kA : Nat)
  (hsa : w.shape? a.block = some (tA, kA + 1)) :
  (Extern.SlicesOverlaps.overlaps #[tS, tS] #[tR] #[.slice (some a) la ca, .slice (some b) lb cb]).run P w = .ok (.bool false) w := by
 have hnb : (a.block != b.block) = true := by simpa using hne
 have hnb' : (a.block == b.block) = false := by simpa using hne
 have hsb : w.shape? b.block = some (t, cur.size) := by simp [World.shape?, hb]
 have hfb : w.frozen? b = false := by simp [World.frozen?, hb]
 have hfb' : ∀ k, w.frozen? { block := b.block, off := k } = false := fun k => by simp [World.frozen?, hb]
 change Sem.run P (α := Value) (do
  let some t := (#[tS, tS] : Array TypeId)[0]? | stuck "slices.overlaps: no parameter types"
  let .slice elem ← underlying t | stuck "slices.overlaps: slice type expected"
  let size ← sizeOf elem
  match (some a : Option Addr), (some b : Option Addr) with
  | some a, some b =>
   if la = 0 ∨ lb = 0 ∨ size = 0 then pure (Value.bool false)
   else if a.block != b.block && (← frozen a) && (← frozen b) then unsupported .addressObserved
   else do
    if a.block != b.block then do
     noView a; noView b
     if ← mayBeOne a b then return Value.bool ((← choose (.extern "sameAddr.stringBytes" 2)) == 1)
    pure (Value.bool (a.block == b.block && a.off < b.off + lb * size && b.off < a.off + la * size))
  | _, _ => pure (Value.bool false)) w = _
 by_cases hq : la = 0 ∨ lb = 0 ∨ size = 0
 ·simp [run_underlying ht, hz, hq]
 ·obtain ⟨k, hk⟩ : ∃ k, cur.size = k + 1 := ⟨cur.size - 1, by omega⟩
  rw [hk] at hsb
  cases hfa : w.frozen? a with
  | true => simp [run_underlying ht, hz, hq, hnb, hnb', frozen, noView, viewAt, mayBeOne, stringish, shape, Sem.run, hsa, hsb, hfa, hfb, hfb']
  | false =>
   cases hfe : w.frozen? { block := a.block, off := kA + 1 } with
   | true => simp [run_underlying ht, hz, hq, hnb, hnb', frozen, noView, viewAt, mayBeOne, stringish, shape, Sem.run, hsa, hsb, hfa, hfb, hfb', hfe]
   | false => simp [run_underlying ht, hz, hq, hnb, hnb', frozen, noView, viewAt, mayBeOne, stringish, shape, Sem.run, hsa, hsb, hfa, hfb, hfb', hfe]
theorem ins_room (cur xs news : List Value) (a m k : Nat) (hx : cur.take k = xs) (hk : xs.length = k) (ha : a ≤ k) (hn : news.length = m) (hfit : k + m ≤ cur.length) :
  (((cur.take (a + m) ++ xs.drop a ++ cur.drop (a + m + (xs.drop a).length)).take a ++ news ++ (cur.take (a + m) ++ xs.drop a ++ cur.drop (a + m + (xs.drop a).length)).drop (a + news.length)).take (k + m)) = xs.take a ++ news ++ xs.drop a := by
 have e1 : (cur.take (a + m) ++ xs.drop a ++ cur.drop (a + m + (xs.drop a).length)).take a = xs.take a := by
  rw [List.append_assoc, List.take_append_of_le_length (by rw [List.length_take]; omega), List.take_take, ← hx, List.take_take]
  congr 1
  omega
 have e2 : (cur.take (a + m) ++ xs.drop a ++ cur.drop (a + m + (xs.drop a).length)).drop (a + news.length) = xs.drop a ++ cur.drop (a + m + (xs.drop a).length) := by
  rw [List.append_assoc]
  exact List.drop_left' (by rw [List.length_take]; omega)
 rw [e1, e2, ← List.append_assoc, List.take_append_of_le_length (by simp only [List.length_append, List.length_take, List.length_drop]; omega)]
 exact List.take_of_length_le (by simp only [List.length_append, List.length_take, List.length_drop]; omega)
theorem ins_grow (olds zs news rest : List Value) (a m k : Nat) (ho : olds.length = a) (hn : news.length = m) (hr : rest.length = k) :
  (((((olds ++ zs).take a ++ news ++ (olds ++ zs).drop (a + news.length)).take (a + m)) ++ rest ++ ((olds ++ zs).take a ++ news ++ (olds ++ zs).drop (a + news.length)).drop (a + m + rest.length)).take (a + m + k)) = olds ++ news ++ rest := by
 have e1 : (olds ++ zs).take a = olds := List.take_left' ho
 have e2 : ((olds ++ zs).take a ++ news ++ (olds ++ zs).drop (a + news.length)).take (a + m) = olds ++ news := by
  rw [e1]
  exact List.take_left' (by rw [List.length_append]; omega)
 rw [e2]
 exact List.take_left' (by simp only [List.length_append]; omega)
theorem run_append_ty {P : Program} (w : World) (a : Array TypeId) (ty ty' : TypeId) (args : Array Value) : (Builtin.append_ a ty args).run P w = (Builtin.append_ a ty' args).run P w := rfl
theorem listCopy {P : Program} (w : World) {ops : Array Oper} {rest : List Oper} {o : Oper} {a : Act} {Q : Exit → Act → World → Prop} (hgd : o.guard = none) (d s : Operand) (t t' : TypeId)
  (ho : o.op = .call { callee := .builtin .copy, args := #[d, s], argTypes := #[t, t'] }) (v u : Value) (hd : a.eval d = v) (hs : a.eval s = u) {v' : Value} {w' : World}
  (hr : (Builtin.copy_ #[t, t'] o.type #[v, u]).run P w = .ok v' w') (h : wpList P ops Q rest (a.put o.dst v') w') : wpList P ops Q (o :: rest) a w := by
 refine wpList_plain hgd fun K hK => ?_
 unfold Oper.wp execOp
 simp only [ho, resolve, invoke, builtin, Sem.run_bind, Sem.run_pure, Result.andThen_ok, List.map_toArray, List.map_cons, List.map_nil, hd, hs, hr]
 exact hK _ _ h
theorem stepCopy {P : Program} {ops : Array Oper} {o : Oper} {a : Act} {w : World} {K : Act → World → Prop} {Q : Exit → Act → World → Prop} {E : Prop}
  (hg : o.guard = none) (d x : Operand) (dT sT : TypeId) (hop : o.op = Op.call { callee := Callee.builtin Builtin.copy, args := #[d, x], argTypes := #[dT, sT] })
  (v u : Value) (hd : a.eval d = v) (hx : a.eval x = u) {v' : Value} {w' : World} (hr : (Builtin.copy_ #[dT, sT] o.type #[v, u]).run P w = .ok v' w') (hK : K (a.put o.dst v') w') :
  if Region.wanted o (yielded ops a.tmps) = true then Oper.wp P o a w K Q else E := by
 have hw : Region.wanted o (yielded ops a.tmps) = true := by simp [Region.wanted, hg]
 rw [if_pos hw]
 unfold Oper.wp
 simp [execOp, hop, resolve, invoke, builtin, hd, hx, hr, Result.andThen]
 exact hK
theorem flat_take {sz : Nat} : ∀ {vs : List Value}, (∀ v ∈ vs, v.cells.size = sz) → ∀ i, (vs.take i).flatMap (·.cells.toList) = (vs.flatMap (·.cells.toList)).take (i * sz)
 | [], _, i => by simp
 | v :: vs, h, 0 => by simp
 | v :: vs, h, i + 1 => by
  have hv : v.cells.toList.length = sz := by rw [Array.length_toList]; exact h v List.mem_cons_self
  have hadd : (i + 1) * sz = v.cells.toList.length + i * sz := by rw [hv, Nat.add_mul, Nat.one_mul, Nat.add_comm]
  rw [List.take_succ_cons, List.flatMap_cons, List.flatMap_cons, flat_take (fun y hy => h y (List.mem_cons_of_mem _ hy)) i, hadd, List.take_length_add_append]
theorem flat_drop {sz : Nat} : ∀ {vs : List Value}, (∀ v ∈ vs, v.cells.size = sz) → ∀ i, (vs.drop i).flatMap (·.cells.toList) = (vs.flatMap (·.cells.toList)).drop (i * sz)
 | [], _, i => by simp
 | v :: vs, h, 0 => by simp
 | v :: vs, h, i + 1 => by
  have hv : v.cells.toList.length = sz := by rw [Array.length_toList]; exact h v List.mem_cons_self
  have hadd : (i + 1) * sz = v.cells.toList.length + i * sz := by rw [hv, Nat.add_mul, Nat.one_mul, Nat.add_comm]
  rw [List.drop_succ_cons, List.flatMap_cons, flat_drop (fun y hy => h y (List.mem_cons_of_mem _ hy)) i, hadd, List.drop_length_add_append]
theorem allrel_app {R : V → Value → Prop} {es es' : List V} {vs vs' : List Value} (h : ∀ (j : Nat) e v, es[j]? = some e → vs[j]? = some v → R e v) (h' : ∀ (j : Nat) e v, es'[j]? = some e → vs'[j]? = some v → R e v) (hl : vs.length = es.length) :
  ∀ (j : Nat) e v, (es ++ es')[j]? = some e → (vs ++ vs')[j]? = some v → R e v := fun j e v he hv => by
 by_cases hj : j < es.length
 ·rw [List.getElem?_append_left hj] at he
  rw [List.getElem?_append_left (by omega)] at hv
  exact h j e v he hv
 ·rw [List.getElem?_append_right (by omega)] at he
  rw [List.getElem?_append_right (by omega), hl] at hv
  exact h' _ e v he hv
theorem allrel_take {R : V → Value → Prop} {es : List V} {vs : List Value} (i : Nat) (h : ∀ (j : Nat) e v, es[j]? = some e → vs[j]? = some v → R e v) : ∀ (j : Nat) e v, (es.take i)[j]? = some e → (vs.take i)[j]? = some v → R e v := fun j e v he hv => by
 rw [List.getElem?_take] at he hv
 split at he
 ·rw [if_pos (by assumption)] at hv
  exact h j e v he hv
 ·cases he
theorem allrel_drop {R : V → Value → Prop} {es : List V} {vs : List Value} (i : Nat) (h : ∀ (j : Nat) e v, es[j]? = some e → vs[j]? = some v → R e v) : ∀ (j : Nat) e v, (es.drop i)[j]? = some e → (vs.drop i)[j]? = some v → R e v := fun j e v he hv => by
 rw [List.getElem?_drop] at he hv
 exact h _ e v he hv
end Go.Ev
