/-
  Values of a register machine that has no addresses of the heap, and what it means that a value of the model reads as such a one.
-/
import Derived.Orders
import Derived.Below
import Derived.Laws.AppendOwn
import Derived.Deep.MidRow
import Derived.ArgAppend
import Derived.Maps.AppendAt
import Derived.Laws.MakeOwn
import Derived.StillTail
import Derived.Laws.StructEq
import Derived.ChangeKeysEq
import Derived.ChangeArms
import Derived.Laws.IdiomStrings
import Derived.DataReads
import Derived.Laws.CopyRow
set_option linter.unusedVariables false
namespace Go.Ev
open Go Go.RowKit
inductive V where
 | int (k : IntKind) (n : Int)
 | bool (b : Bool)
 | str (s : ByteArray)
 | agg (cs : List V)
 | tup (vs : List V)
 | row (sz : Nat) (es : List V)
 | zero
 | rd (v : V) (off : Nat)
 | fn (f : FuncId) (caps : List V)
 | ptr (b off : Nat)
 | eptr (b sz i off : Nat)
 | vec (b : Nat)
 | sub (b sz lo k : Nat)
 | undef
 | raw (v : Value)
 | ifc (t : TypeId) (v : V)
inductive Blk where
 | box (v : V)
 | vec (T : TypeId) (sz : Nat) (es : List V)
 | map (kvs : List (V × V))
inductive RelD (w : World) (ok : Nat → Prop) : V → Value → Prop
 | int (k : IntKind) (n : Int) : RelD w ok (.int k n) (.int k n)
 | bool (b : Bool) : RelD w ok (.bool b) (.bool b)
 | str (s : ByteArray) : RelD w ok (.str s) (.string s)
 | agg (cs : List V) (vs : List Value) (hl : cs.length = vs.length) (h1 : ∀ v ∈ vs, v.oneCell' = true)
   (h : ∀ (j : Nat) c v, cs[j]? = some c → vs[j]? = some v → RelD w ok c v) : RelD w ok (.agg cs) (.agg vs.toArray)
 | tup (cs : List V) (vs : List Value) (hl : cs.length = vs.length)
   (h : ∀ (j : Nat) c v, cs[j]? = some c → vs[j]? = some v → RelD w ok c v) : RelD w ok (.tup cs) (.tuple vs.toArray)
 | nil (sz : Nat) (a : Option Addr) : RelD w ok (.row sz []) (.slice a 0 0)
 | row (sz : Nat) (es : List V) (g o cap : Nat) (vs : List Value) (hok : ok g) (hcap : es.length ≤ cap) (hmax : cap ≤ maxLen) (hl : vs.length = es.length)
   (hsz : ∀ v ∈ vs, v.cells.size = sz) (h1 : ∀ v ∈ vs, ∀ u ∈ v.cells.toList, u.oneCell' = true) (hc : ∀ (i : Nat) v, vs[i]? = some v → w.rangeAt g (o + i * sz) v.cells.toList)
   (h : ∀ (i : Nat) e v, es[i]? = some e → vs[i]? = some v → RelD w ok e v) : RelD w ok (.row sz es) (.slice (some ⟨g, o, none⟩) es.length cap)
 | zero : RelD w ok .zero (.slice none 0 0)
 | rd (v : V) (off : Nat) (val : Value) (g o : Nat) (hok : ok g) (h1 : ∀ u ∈ val.cells.toList, u.oneCell' = true) (hc : w.rangeAt g o val.cells.toList) (h : RelD w ok v val) : RelD w ok (.rd v off) (.pointer (some ⟨g, o + off, none⟩))
 | fn (f : FuncId) (cs : List V) (vs : List Value) (hl : cs.length = vs.length)
   (h : ∀ (j : Nat) c v, cs[j]? = some c → vs[j]? = some v → RelD w ok c v) : RelD w ok (.fn f cs) (.func (.func f) #[] vs.toArray)
 | undef (val : Value) : RelD w ok .undef val
 | raw (v : Value) : RelD w ok (.raw v) v
 | ifc (t : TypeId) (v : V) (val : Value) (h : RelD w ok v val) : RelD w ok (.ifc t v) (.iface t val)
theorem rangeAt_same {w w' : World} {g o : Nat} {cs : List Value} (h : w.rangeAt g o cs) (hb : w'.heap[g]? = w.heap[g]?) : w'.rangeAt g o cs :=
 fun j v hv => by rw [World.cell?_of_block (w := w) (a := ⟨g, o + j, none⟩) hb]; exact h j v hv
theorem RelD.mono {w w' : World} {ok ok' : Nat → Prop} {v : V} {val : Value} (h : RelD w ok v val) (hk : ∀ g, ok g → ok' g ∧ w'.heap[g]? = w.heap[g]?) : RelD w' ok' v val := by
 induction h with
 | int => exact .int _ _
 | bool => exact .bool _
 | str => exact .str _
 | agg cs vs hl h1 _ ih => exact .agg cs vs hl h1 ih
 | tup cs vs hl _ ih => exact .tup cs vs hl ih
 | nil => exact .nil _ _
 | row sz es g o cap vs hok hcap hmax hl hsz h1 hc _ ih => exact .row sz es g o cap vs (hk g hok).1 hcap hmax hl hsz h1 (fun i v hv => rangeAt_same (hc i v hv) (hk g hok).2) ih
 | zero => exact .zero
 | rd v off val g o hok h1 hc _ ih => exact .rd v off val g o (hk g hok).1 h1 (rangeAt_same hc (hk g hok).2) ih
 | fn f cs vs hl _ ih => exact .fn f cs vs hl ih
 | undef => exact .undef _
 | raw => exact .raw _
 | ifc t v val _ ih => exact .ifc t v val ih
inductive Rel (w : World) (ok : Nat → Prop) (ρ : Nat → Option Value) : V → Value → Prop
 | ro {v : V} {val : Value} (h : RelD w ok v val) : Rel w ok ρ v val
 | ptr (b off g : Nat) (h : ρ b = some (.pointer (some ⟨g, 0, none⟩))) : Rel w ok ρ (.ptr b off) (.pointer (some ⟨g, off, none⟩))
 | eptr (b sz i off g n cap : Nat) (h : ρ b = some (.slice (some ⟨g, 0, none⟩) n cap)) : Rel w ok ρ (.eptr b sz i off) (.pointer (some ⟨g, i * sz + off, none⟩))
 | vec (b : Nat) (sv : Value) (h : ρ b = some sv) (h1 : sv.oneCell' = true) : Rel w ok ρ (.vec b) sv
 | sub (b sz lo k g n cap c : Nat) (ad : Option Addr) (h : ρ b = some (.slice (some ⟨g, 0, none⟩) n cap)) (hx : 0 < n ∧ lo + k ≤ n ∧ k ≤ c ∧ (c ≤ maxLen ∧ c + lo = cap) ∧ (c = 0 ∨ ad = some ⟨g, lo * sz, none⟩)) : Rel w ok ρ (.sub b sz lo k) (.slice ad k c)
 | agg (cs : List V) (vs : List Value) (hl : cs.length = vs.length) (h1 : ∀ v ∈ vs, v.oneCell' = true)
   (h : ∀ (j : Nat) c v, cs[j]? = some c → vs[j]? = some v → Rel w ok ρ c v) : Rel w ok ρ (.agg cs) (.agg vs.toArray)
 | tup (cs : List V) (vs : List Value) (hl : cs.length = vs.length)
   (h : ∀ (j : Nat) c v, cs[j]? = some c → vs[j]? = some v → Rel w ok ρ c v) : Rel w ok ρ (.tup cs) (.tuple vs.toArray)
 | fn (f : FuncId) (cs : List V) (vs : List Value) (hl : cs.length = vs.length)
   (h : ∀ (j : Nat) c v, cs[j]? = some c → vs[j]? = some v → Rel w ok ρ c v) : Rel w ok ρ (.fn f cs) (.func (.func f) #[] vs.toArray)
 | ifc (t : TypeId) (v : V) (val : Value) (h : Rel w ok ρ v val) : Rel w ok ρ (.ifc t v) (.iface t val)
theorem Rel.mono {w w' : World} {ok ok' : Nat → Prop} {ρ ρ' : Nat → Option Value} {v : V} {val : Value} (h : Rel w ok ρ v val) (hk : ∀ g, ok g → ok' g ∧ w'.heap[g]? = w.heap[g]?)
  (hr : ∀ b sv, ρ b = some sv → ρ' b = some sv) : Rel w' ok' ρ' v val := by
 induction h with
 | ro h => exact .ro (h.mono hk)
 | ptr b off g h => exact .ptr b off g (hr _ _ h)
 | eptr b sz i off g n cap h => exact .eptr b sz i off g n cap (hr _ _ h)
 | vec b sv h h1 => exact .vec b sv (hr _ _ h) h1
 | sub b sz lo k g n cap c ad h hx => exact .sub b sz lo k g n cap c ad (hr _ _ h) hx
 | agg cs vs hl h1 _ ih => exact .agg cs vs hl h1 ih
 | tup cs vs hl _ ih => exact .tup cs vs hl ih
 | fn f cs vs hl _ ih => exact .fn f cs vs hl ih
 | ifc t v val _ ih => exact .ifc t v val ih
def own : Value → Option Nat
 | .pointer (some a) => some a.block
 | .slice (some a) _ cap => if cap = 0 then none else some a.block
 | .map (some g) => some g
 | _ => none
def okAt (ok : Nat → Prop) (_B : Nat) (ρ : Nat → Option Value) (w : World) (g : Nat) : Prop :=
 ok g ∧ g < w.heap.size ∧ ∀ b sv, ρ b = some sv → own sv ≠ some g
def upto (w : World) (ok : Nat → Prop) (g : Nat) : Prop := g < w.heap.size → ok g
def OwnV (w : World) (ok : Nat → Prop) (B : Nat) (T : TypeId) (sz : Nat) (sv : Value) (es : List V) : Prop :=
 ∃ vs : List Value, vs.length = es.length ∧ (∀ v ∈ vs, v.cells.size = sz) ∧ (∀ v ∈ vs, ∀ u ∈ v.cells.toList, u.oneCell' = true) ∧
  (∀ (i : Nat) e v, es[i]? = some e → vs[i]? = some v → RelD w ok e v) ∧
  ((∃ a, sv = .slice a 0 0 ∧ es = []) ∨ w.ownsRow B T sz sv es.length (vs.flatMap (·.cells.toList)))
def V.key : V → Option Value
 | .int k n => some (.int k n)
 | .bool b => some (.bool b)
 | .str s => some (.string s)
 | _ => none
def KV : List MapEntry → List (V × V) → Prop
 | [], [] => True
 | e :: es, p :: kvs => p.1.key = some e.key ∧ (p.2 = .undef ∨ p.2.key = some e.val) ∧ KV es kvs
 | _, _ => False
def MapOk (w : World) (B : Nat) (sv : Value) (kvs : List (V × V)) : Prop :=
 ∃ (g : Nat) (es : Array MapEntry) (clock : Nat), sv = .map (some g) ∧ B ≤ g ∧ w.heap[g]? = some (.map es clock) ∧ KV es.toList kvs ∧ (∀ e ∈ es.toList, e.born < clock) ∧ (es.toList.map (·.born)).Nodup
def BlkOk (w : World) (ok : Nat → Prop) (ρ : Nat → Option Value) (B : Nat) (sv : Value) : Blk → Prop
 | .box v => ∃ g val, sv = .pointer (some ⟨g, 0, none⟩) ∧ B ≤ g ∧ g < w.heap.size ∧ w.rangeAt g 0 val.cells.toList ∧ w.there g 0 val.cells.size ∧ (∀ u ∈ val.cells.toList, u.oneCell' = true) ∧ Rel w ok ρ v val
 | .vec T sz es => 0 < sz ∧ OwnV w ok B T sz sv es
 | .map kvs => MapOk w B sv kvs
structure Inv (ok : Nat → Prop) (B : Nat) (w : World) (ρ : Nat → Option Value) (hp : Nat → Option Blk) : Prop where
 size : B ≤ w.heap.size
 blk : ∀ b k, hp b = some k → ∃ sv, ρ b = some sv ∧ BlkOk w (okAt ok B ρ w) ρ B sv k
 dom : ∀ b sv, ρ b = some sv → ∃ k, hp b = some k
 inj : ∀ b b' sv sv' g, ρ b = some sv → ρ b' = some sv' → own sv = some g → own sv' = some g → b = b'
 new : ∀ g, w.heap.size ≤ g → ok g
 fr : ∀ b sv g, ρ b = some sv → own sv = some g → 1000000 ≤ b ∨ ok g
mutual
def V.scrub (b : Nat) (r : V) : V → V
 | .agg cs => .agg (V.scrubL b r cs)
 | .tup cs => .tup (V.scrubL b r cs)
 | .fn f cs => .fn f (V.scrubL b r cs)
 | .ptr b' o => if b' = b then .undef else .ptr b' o
 | .eptr b' s i o => if b' = b then .undef else .eptr b' s i o
 | .vec b' => if b' = b then r else .vec b'
 | .sub b' s l k => if b' = b then .undef else .sub b' s l k
 | .int k n => .int k n
 | .bool x => .bool x
 | .str s => .str s
 | .row s es => .row s es
 | .zero => .zero
 | .rd v o => .rd v o
 | .undef => .undef
 | .raw v => .raw v
 | .ifc t v => .ifc t (V.scrub b r v)
def V.scrubL (b : Nat) (r : V) : List V → List V
 | [] => []
 | v :: vs => V.scrub b r v :: V.scrubL b r vs
end
theorem scrubL_eq (b : Nat) (r : V) : ∀ l : List V, V.scrubL b r l = l.map (V.scrub b r)
 | [] => by simp [V.scrubL]
 | v :: vs => by simp [V.scrubL, scrubL_eq b r vs]
def V.scrubB (b : Nat) (r v : V) : V := match r, v with
 | .undef, .vec b' => if b' = b then .agg [.undef] else .vec b'
 | .undef, .sub b' sz lo k => if b' = b then .agg [.undef] else .sub b' sz lo k
 | r, v => V.scrub b r v
def Blk.scrub (b : Nat) (r : V) : Blk → Blk
 | .box v => .box (V.scrubB b r v)
 | .vec T sz es => .vec T sz es
 | .map kvs => .map kvs
theorem scrub_get {b : Nat} {r : V} {cs : List V} {j : Nat} {c : V} (h : (V.scrubL b r cs)[j]? = some c) : ∃ c', cs[j]? = some c' ∧ c = V.scrub b r c' := by
 rw [scrubL_eq, List.getElem?_map] at h
 cases hc : cs[j]? with
 | none => simp [hc] at h
 | some c' => simp [hc] at h; exact ⟨c', rfl, h.symm⟩
theorem RelD.scrub {w : World} {ok : Nat → Prop} {v : V} {val : Value} (b : Nat) (r : V) (h : RelD w ok v val) : RelD w ok (V.scrub b r v) val := by
 induction h with
 | int => simp only [V.scrub]; exact .int _ _
 | bool => simp only [V.scrub]; exact .bool _
 | str => simp only [V.scrub]; exact .str _
 | agg cs vs hl h1 _ ih =>
  simp only [V.scrub]
  refine .agg _ vs (by rw [scrubL_eq]; simpa using hl) h1 fun j c v hc hv => ?_
  obtain ⟨c', hc', rfl⟩ := scrub_get hc
  exact ih j c' v hc' hv
 | tup cs vs hl _ ih =>
  simp only [V.scrub]
  refine .tup _ vs (by rw [scrubL_eq]; simpa using hl) fun j c v hc hv => ?_
  obtain ⟨c', hc', rfl⟩ := scrub_get hc
  exact ih j c' v hc' hv
 | nil => simp only [V.scrub]; exact .nil _ _
 | row sz es g o cap vs hok hcap hmax hl hsz h1 hc h _ => simp only [V.scrub]; exact .row sz es g o cap vs hok hcap hmax hl hsz h1 hc h
 | zero => simp only [V.scrub]; exact .zero
 | rd v off val g o hok h1 hc h _ => simp only [V.scrub]; exact .rd v off val g o hok h1 hc h
 | fn f cs vs hl _ ih =>
  simp only [V.scrub]
  refine .fn f _ vs (by rw [scrubL_eq]; simpa using hl) fun j c v hc hv => ?_
  obtain ⟨c', hc', rfl⟩ := scrub_get hc
  exact ih j c' v hc' hv
 | undef => simp only [V.scrub]; exact .undef _
 | raw => simp only [V.scrub]; exact .raw _
 | ifc t v val _ ih => simp only [V.scrub]; exact .ifc t _ val ih
theorem Rel.scrub {w w' : World} {ok ok' : Nat → Prop} {ρ ρ' : Nat → Option Value} {v : V} {val : Value} (b : Nat) (r : V) (h : Rel w ok ρ v val) (hk : ∀ g, ok g → ok' g ∧ w'.heap[g]? = w.heap[g]?)
  (hr : ∀ b' sv, b' ≠ b → ρ b' = some sv → ρ' b' = some sv) (hrep : ∀ sv, ρ b = some sv → sv.oneCell' = true → Rel w' ok' ρ' r sv) : Rel w' ok' ρ' (V.scrub b r v) val := by
 induction h with
 | ro h => exact .ro ((h.mono hk).scrub b r)
 | ptr b' off g h =>
  simp only [V.scrub]; split
  ·exact .ro (.undef _)
  ·rename_i hne; exact .ptr b' off g (hr _ _ hne h)
 | eptr b' sz i off g n cap h =>
  simp only [V.scrub]; split
  ·exact .ro (.undef _)
  ·rename_i hne; exact .eptr b' sz i off g n cap (hr _ _ hne h)
 | sub b' sz lo k g n cap c ad h hx =>
  simp only [V.scrub]; split
  ·exact .ro (.undef _)
  ·rename_i hne; exact .sub b' sz lo k g n cap c ad (hr _ _ hne h) hx
 | vec b' sv h h1 =>
  simp only [V.scrub]; split
  ·rename_i he; subst he; exact hrep sv h h1
  ·rename_i hne; exact .vec b' sv (hr _ _ hne h) h1
 | agg cs vs hl h1 _ ih =>
  simp only [V.scrub]
  refine .agg _ vs (by rw [scrubL_eq]; simpa using hl) h1 fun j c v hc hv => ?_
  obtain ⟨c', hc', rfl⟩ := scrub_get hc
  exact ih j c' v hc' hv
 | tup cs vs hl _ ih =>
  simp only [V.scrub]
  refine .tup _ vs (by rw [scrubL_eq]; simpa using hl) fun j c v hc hv => ?_
  obtain ⟨c', hc', rfl⟩ := scrub_get hc
  exact ih j c' v hc' hv
 | fn f cs vs hl _ ih =>
  simp only [V.scrub]
  refine .fn f _ vs (by rw [scrubL_eq]; simpa using hl) fun j c v hc hv => ?_
  obtain ⟨c', hc', rfl⟩ := scrub_get hc
  exact ih j c' v hc' hv
 | ifc t v val _ ih => simp only [V.scrub]; exact .ifc t _ val ih
theorem OwnV.mono {w w' : World} {ok ok' : Nat → Prop} {B : Nat} {T : TypeId} {sz : Nat} {sv : Value} {es : List V} (h : OwnV w ok B T sz sv es)
  (hk : ∀ g, ok g → ok' g ∧ w'.heap[g]? = w.heap[g]?) (hg : ∀ g, own sv = some g → w'.heap[g]? = w.heap[g]?) : OwnV w' ok' B T sz sv es := by
 obtain ⟨vs, hl, hs, h1, hr, ho⟩ := h
 refine ⟨vs, hl, hs, h1, fun i e v he hv => (hr i e v he hv).mono hk, ?_⟩
 rcases ho with h0 | ho
 ·exact .inl h0
 rcases ho.2 with ⟨rfl, h0⟩ | ⟨g, cap, cur, rfl, hb, hg', hle, hmx, hsz, ht⟩
 ·exact .inr ⟨ho.1, .inl ⟨rfl, h0⟩⟩
 ·by_cases hc : cap = 0
  ·left
   refine ⟨some ⟨g, 0, none⟩, ?_, ?_⟩
   ·have : es.length = 0 := by omega
    rw [hc, this]
   ·have : es.length = 0 := by omega
    exact List.eq_nil_of_length_eq_zero this
  ·exact .inr ⟨ho.1, .inr ⟨g, cap, cur, rfl, hb, by rw [hg g (by simp [own, hc])]; exact hg', hle, hmx, hsz, ht⟩⟩
theorem OwnV.own_ge {w : World} {ok : Nat → Prop} {B : Nat} {T : TypeId} {sz : Nat} {sv : Value} {es : List V} (h : OwnV w ok B T sz sv es) {g : Nat} (hg : own sv = some g) : B ≤ g ∧ g < w.heap.size := by
 obtain ⟨vs, hl, hs, h1, hr, ho⟩ := h
 rcases ho with ⟨a, rfl, _⟩ | ho
 ·cases a <;> simp [own] at hg
 rcases ho.2 with ⟨rfl, h0⟩ | ⟨g', cap, cur, rfl, hb, hg', hle, hmx, hsz, ht⟩
 ·simp [own] at hg
 ·simp only [own] at hg
  split at hg
  ·cases hg
  ·simp at hg; subst hg; exact ⟨hb, (Array.getElem?_eq_some_iff.1 hg').1⟩
theorem MapOk.own_ge {w : World} {B : Nat} {sv : Value} {kvs : List (V × V)} (h : MapOk w B sv kvs) {g : Nat} (hg : own sv = some g) : B ≤ g ∧ g < w.heap.size := by
 obtain ⟨g', es, clock, rfl, hb, he, _⟩ := h
 simp [own] at hg
 subst hg
 exact ⟨hb, (Array.getElem?_eq_some_iff.1 he).1⟩
theorem MapOk.mono {w w' : World} {B : Nat} {sv : Value} {kvs : List (V × V)} (h : MapOk w B sv kvs) (hg : ∀ g, own sv = some g → w'.heap[g]? = w.heap[g]?) : MapOk w' B sv kvs := by
 obtain ⟨g', es, clock, rfl, hb, he, hk⟩ := h
 exact ⟨g', es, clock, rfl, hb, by rw [hg g' rfl]; exact he, hk⟩
theorem BlkOk.own_ge {w : World} {ok : Nat → Prop} {ρ : Nat → Option Value} {B : Nat} {sv : Value} {k : Blk} (h : BlkOk w ok ρ B sv k) {g : Nat} (hg : own sv = some g) : B ≤ g ∧ g < w.heap.size := by
 cases k with
 | box v =>
  obtain ⟨g', val, rfl, hb, hlt, _⟩ := h
  simp [own] at hg
  subst hg
  exact ⟨hb, hlt⟩
 | vec T sz es => exact h.2.own_ge hg
 | map kvs => exact MapOk.own_ge h hg
theorem one_cells {v : Value} (h : v.oneCell' = true) : v.cells = #[v] := by cases v <;> first | rfl | cases h
theorem Rel.scrubB {w w' : World} {ok ok' : Nat → Prop} {ρ ρ' : Nat → Option Value} {v : V} {val : Value} (b : Nat) (r : V) (h : Rel w ok ρ v val) (hk : ∀ g, ok g → ok' g ∧ w'.heap[g]? = w.heap[g]?)
  (hr : ∀ b' sv, b' ≠ b → ρ b' = some sv → ρ' b' = some sv) (hrep : ∀ sv, ρ b = some sv → sv.oneCell' = true → Rel w' ok' ρ' r sv) : ∃ val', val'.cells = val.cells ∧ Rel w' ok' ρ' (V.scrubB b r v) val' := by
 have gen := h.scrub b r hk hr hrep
 unfold V.scrubB
 split
 ·rename_i b'
  split
  ·have h1 : val.oneCell' = true := by
    cases h with
    | ro h => cases h
    | vec _ _ _ h1 => exact h1
   refine ⟨.agg #[val], (one_cells h1).symm, .ro (.agg [.undef] [val] rfl (fun u hu => ?_) fun j c u hc hu => ?_)⟩
   ·simp at hu; subst hu; exact h1
   ·match j, hc with
    | 0, hc => simp at hc; subst hc; exact .undef _
    | j + 1, hc => simp at hc
  ·rename_i hne
   simp only [V.scrub, if_neg hne] at gen
   exact ⟨val, rfl, gen⟩
 ·rename_i b' sz lo k
  split
  ·have h1 : val.oneCell' = true := by
    cases h with
    | ro h => cases h
    | sub => rfl
   refine ⟨.agg #[val], (one_cells h1).symm, .ro (.agg [.undef] [val] rfl (fun u hu => ?_) fun j c u hc hu => ?_)⟩
   ·simp at hu; subst hu; exact h1
   ·match j, hc with
    | 0, hc => simp at hc; subst hc; exact .undef _
    | j + 1, hc => simp at hc
  ·rename_i hne
   simp only [V.scrub, if_neg hne] at gen
   exact ⟨val, rfl, gen⟩
 ·exact ⟨val, rfl, gen⟩
theorem BlkOk.mono {w w' : World} {ok ok' : Nat → Prop} {ρ ρ' : Nat → Option Value} {B : Nat} {sv : Value} {k : Blk} (b : Nat) (r : V) (h : BlkOk w ok ρ B sv k) (hk : ∀ g, ok g → ok' g ∧ w'.heap[g]? = w.heap[g]?)
  (hs : w.heap.size ≤ w'.heap.size) (hg : ∀ g, own sv = some g → w'.heap[g]? = w.heap[g]?) (hr : ∀ b' sv, b' ≠ b → ρ b' = some sv → ρ' b' = some sv) (hrep : ∀ sv, ρ b = some sv → sv.oneCell' = true → Rel w' ok' ρ' r sv) : BlkOk w' ok' ρ' B sv (k.scrub b r) := by
 cases k with
 | box v =>
  obtain ⟨g', val, rfl, hb, hlt, hra, hth, h1, hrel⟩ := h
  have he : w'.heap[g']? = w.heap[g']? := hg g' (by simp [own])
  obtain ⟨val', hcl, hrel'⟩ := hrel.scrubB b r hk hr hrep
  exact ⟨g', val', rfl, hb, by omega, by rw [hcl]; exact rangeAt_same hra he, by rw [hcl]; exact fun j hj => ⟨by rw [World.cell?_of_block (w := w) (a := ⟨g', 0 + j, none⟩) he]; exact (hth j hj).1, by rw [World.frozen?_of_block (w := w) (a := ⟨g', 0 + j, none⟩) he]; exact (hth j hj).2⟩, by rw [hcl]; exact h1, hrel'⟩
 | vec T sz es => exact ⟨h.1, h.2.mono hk hg⟩
 | map kvs => exact MapOk.mono h hg
theorem BlkOk.mono' {w w' : World} {ok ok' : Nat → Prop} {ρ ρ' : Nat → Option Value} {B : Nat} {sv : Value} {k : Blk} (h : BlkOk w ok ρ B sv k) (hk : ∀ g, ok g → ok' g ∧ w'.heap[g]? = w.heap[g]?)
  (hs : w.heap.size ≤ w'.heap.size) (hg : ∀ g, own sv = some g → w'.heap[g]? = w.heap[g]?) (hr : ∀ b' sv, ρ b' = some sv → ρ' b' = some sv) : BlkOk w' ok' ρ' B sv k := by
 cases k with
 | box v =>
  obtain ⟨g', val, rfl, hb, hlt, hra, hth, h1, hrel⟩ := h
  have he : w'.heap[g']? = w.heap[g']? := hg g' (by simp [own])
  exact ⟨g', val, rfl, hb, by omega, rangeAt_same hra he, fun j hj => ⟨by rw [World.cell?_of_block (w := w) (a := ⟨g', 0 + j, none⟩) he]; exact (hth j hj).1, by rw [World.frozen?_of_block (w := w) (a := ⟨g', 0 + j, none⟩) he]; exact (hth j hj).2⟩, h1, hrel.mono hk hr⟩
 | vec T sz es => exact ⟨h.1, h.2.mono hk hg⟩
 | map kvs => exact MapOk.mono h hg
theorem Inv.own_ge {ok : Nat → Prop} {B : Nat} {w : World} {ρ : Nat → Option Value} {hp : Nat → Option Blk} (h : Inv ok B w ρ hp) {b : Nat} {sv : Value} {g : Nat} (hr : ρ b = some sv) (hg : own sv = some g) : B ≤ g ∧ g < w.heap.size := by
 obtain ⟨k, hk⟩ := h.dom b sv hr
 obtain ⟨sv', hr', hb⟩ := h.blk b k hk
 rw [hr] at hr'
 cases hr'
 exact hb.own_ge hg
def upd {α : Type} (f : Nat → Option α) (b : Nat) (x : Option α) : Nat → Option α := fun k => if k = b then x else f k
def hpScrub (b : Nat) (r : V) (hp : Nat → Option Blk) : Nat → Option Blk := fun k => (hp k).map (Blk.scrub b r)
theorem Inv.change {ok : Nat → Prop} {B : Nat} {w w' : World} {ρ : Nat → Option Value} {hp : Nat → Option Blk} (h : Inv ok B w ρ hp) (b : Nat) (r : V) (new : Option (Value × Blk))
  (hs : w.heap.size ≤ w'.heap.size) (hkeep : ∀ g, g < w.heap.size → (∀ sv, ρ b = some sv → own sv ≠ some g) → w'.heap[g]? = w.heap[g]?)
  (hnew : ∀ sv k, new = some (sv, k) → (∀ g, own sv = some g → w.heap.size ≤ g ∨ ∃ sv0, ρ b = some sv0 ∧ own sv0 = some g) ∧
   BlkOk w' (okAt ok B (upd ρ b (some sv)) w') (upd ρ b (some sv)) B sv k)
  (hrep : ∀ sv, ρ b = some sv → sv.oneCell' = true → Rel w' (okAt ok B (upd ρ b (new.map (·.1))) w') (upd ρ b (new.map (·.1))) r sv) :
  Inv ok B w' (upd ρ b (new.map (·.1))) (upd (hpScrub b r hp) b (new.map (·.2))) ∧
  (∀ v val, Rel w (okAt ok B ρ w) ρ v val → Rel w' (okAt ok B (upd ρ b (new.map (·.1))) w') (upd ρ b (new.map (·.1))) (V.scrub b r v) val) := by
 have hokk : ∀ g, okAt ok B ρ w g → okAt ok B (upd ρ b (new.map (·.1))) w' g ∧ w'.heap[g]? = w.heap[g]? := by
  intro g hg
  obtain ⟨ho, hlt, hno⟩ := hg
  refine ⟨⟨ho, by omega, fun b' sv hr => ?_⟩, hkeep g hlt fun sv hr => hno b sv hr⟩
  unfold upd at hr
  split at hr
  ·cases hn : new with
   | none => simp [hn] at hr
   | some p =>
    obtain ⟨sv1, k1⟩ := p
    simp [hn] at hr
    subst hr
    intro hown
    rcases (hnew sv1 k1 hn).1 g hown with hge' | ⟨sv0, hr0, hown0⟩
    ·omega
    ·exact hno b sv0 hr0 hown0
  ·exact hno b' sv hr
 have hrr : ∀ b' sv, b' ≠ b → ρ b' = some sv → upd ρ b (new.map (·.1)) b' = some sv := fun b' sv hne hr => by simp [upd, hne, hr]
 refine ⟨⟨Nat.le_trans h.size hs, ?_, ?_, ?_, fun g hg => h.new g (by omega), fun b' sv g hr ho => ?_⟩, fun v val hv => hv.scrub b r hokk hrr hrep⟩
 rotate_right
 ·unfold upd at hr
  split at hr
  ·rename_i he
   cases hn : new with
   | none => simp [hn] at hr
   | some p =>
    obtain ⟨sv1, k1⟩ := p
    simp [hn] at hr
    subst hr
    rcases (hnew sv1 k1 hn).1 g ho with hge' | ⟨sv0, hr0, hown0⟩
    ·exact .inr (h.new g hge')
    ·rw [he]; exact h.fr b sv0 g hr0 hown0
  ·exact h.fr b' sv g hr ho
 ·intro b' k hk
  unfold upd at hk
  split at hk
  ·rename_i he
   subst he
   cases hn : new with
   | none => simp [hn] at hk
   | some p =>
    obtain ⟨sv1, k1⟩ := p
    simp [hn] at hk
    subst hk
    exact ⟨sv1, by simp [upd], (hnew sv1 k1 hn).2⟩
  ·rename_i hne
   unfold hpScrub at hk
   cases hk0 : hp b' with
   | none => simp [hk0] at hk
   | some k0 =>
    simp [hk0] at hk
    subst hk
    obtain ⟨sv, hr, hb⟩ := h.blk b' k0 hk0
    refine ⟨sv, hrr b' sv hne hr, hb.mono b r hokk hs (fun g hown => hkeep g (hb.own_ge hown).2 fun sv0 hr0 hown0 => ?_) hrr hrep⟩
    exact hne (h.inj b' b sv sv0 g hr hr0 hown hown0)
 ·intro b' sv hr
  unfold upd at hr ⊢
  split at hr
  ·cases hn : new with
   | none => simp [hn] at hr
   | some p => rename_i he; exact ⟨p.2, by simp [he]⟩
  ·rename_i hne
   obtain ⟨k, hk⟩ := h.dom b' sv hr
   exact ⟨k.scrub b r, by simp [hne, hpScrub, hk]⟩
 ·intro b1 b2 sv1 sv2 g h1 h2 o1 o2
  unfold upd at h1 h2
  have key : ∀ b' sv sv', b' ≠ b → ρ b' = some sv → new.map (·.1) = some sv' → own sv = some g → own sv' = some g → False := by
   intro b' sv sv' hne hr hn ho ho'
   cases hnn : new with
   | none => simp [hnn] at hn
   | some p =>
    obtain ⟨sv1, k1⟩ := p
    simp [hnn] at hn
    subst hn
    rcases (hnew sv1 k1 hnn).1 g ho' with hge | ⟨sv0, hr0, hown0⟩
    ·have := (h.own_ge hr ho).2; omega
    ·exact hne (h.inj b' b sv sv0 g hr hr0 ho hown0)
  split at h1 <;> split at h2
  ·omega
  ·rename_i e1 e2; exact (key b2 sv2 sv1 e2 h2 h1 o2 o1).elim
  ·rename_i e1 e2; exact (key b1 sv1 sv2 e1 h1 h2 o1 o2).elim
  ·exact h.inj b1 b2 sv1 sv2 g h1 h2 o1 o2
theorem Inv.write {ok : Nat → Prop} {B : Nat} {w w' : World} {ρ : Nat → Option Value} {hp : Nat → Option Blk} (h : Inv ok B w ρ hp) (b : Nat) (sv : Value) (k : Blk) (hr : ρ b = some sv)
  (hs : w'.heap.size = w.heap.size) (hkeep : ∀ g, g < w.heap.size → own sv ≠ some g → w'.heap[g]? = w.heap[g]?)
  (hnew : BlkOk w' (okAt ok B ρ w') ρ B sv k) :
  Inv ok B w' ρ (upd hp b (some k)) ∧ (∀ v val, Rel w (okAt ok B ρ w) ρ v val → Rel w' (okAt ok B ρ w') ρ v val) := by
 have hokk : ∀ g, okAt ok B ρ w g → okAt ok B ρ w' g ∧ w'.heap[g]? = w.heap[g]? := by
  intro g hg
  obtain ⟨ho, hlt, hno⟩ := hg
  exact ⟨⟨ho, by omega, hno⟩, hkeep g hlt (hno b sv hr)⟩
 refine ⟨⟨by rw [hs]; exact h.size, ?_, ?_, h.inj, fun g hg => h.new g (by omega), h.fr⟩, fun v val hv => hv.mono hokk fun _ _ h => h⟩
 ·intro b' k' hk'
  unfold upd at hk'
  split at hk'
  ·rename_i he
   subst he
   simp at hk'
   subst hk'
   exact ⟨sv, hr, hnew⟩
  ·rename_i hne
   obtain ⟨sv', hr', hb⟩ := h.blk b' k' hk'
   exact ⟨sv', hr', hb.mono' hokk (by omega) (fun g hown => hkeep g (hb.own_ge hown).2 fun hown0 => hne (h.inj b' b sv' sv g hr' hr hown hown0)) fun _ _ h => h⟩
 ·intro b' sv' hr'
  unfold upd
  split
  ·exact ⟨k, rfl⟩
  ·exact h.dom b' sv' hr'
def either {α : Type} (f g : Nat → Option α) : Nat → Option α := fun k => match f k with | some x => some x | none => g k
theorem Inv.join {ok : Nat → Prop} {B : Nat} {w w' : World} {ρ ρ2 : Nat → Option Value} {hp hp2 : Nat → Option Blk} (h : Inv ok B w ρ hp) (hs : w.heap.size ≤ w'.heap.size)
  (hkeep : ∀ g, g < w.heap.size → w'.heap[g]? = w.heap[g]?) (h2 : Inv (upto w (okAt ok B ρ w)) w.heap.size w' ρ2 hp2) (hap : ∀ b k, hp2 b = some k → hp b = none) :
  Inv ok B w' (either ρ ρ2) (either hp hp2) ∧ (∀ v val, Rel w (okAt ok B ρ w) ρ v val → Rel w' (okAt ok B (either ρ ρ2) w') (either ρ ρ2) v val) ∧
  (∀ v val, Rel w' (okAt (upto w (okAt ok B ρ w)) w.heap.size ρ2 w') ρ2 v val → Rel w' (okAt ok B (either ρ ρ2) w') (either ρ ρ2) v val) := by
 have hρ : ∀ b sv, either ρ ρ2 b = some sv → ρ b = some sv ∨ ρ2 b = some sv := by
  intro b sv he
  unfold either at he
  split at he
  ·rename_i hr; exact .inl (by simpa [hr] using he)
  ·exact .inr he
 have hno : ∀ b sv, ρ2 b = some sv → ρ b = none := by
  intro b sv hr
  obtain ⟨k, hk⟩ := h2.dom b sv hr
  cases hr1 : ρ b with
  | none => rfl
  | some sv1 =>
   obtain ⟨k1, hk1⟩ := h.dom b sv1 hr1
   rw [hap b k hk] at hk1
   cases hk1
 have hr1 : ∀ b sv, ρ b = some sv → either ρ ρ2 b = some sv := fun b sv hr => by simp [either, hr]
 have hr2 : ∀ b sv, ρ2 b = some sv → either ρ ρ2 b = some sv := fun b sv hr => by simp [either, hno b sv hr, hr]
 have ok1 : ∀ g, okAt ok B ρ w g → okAt ok B (either ρ ρ2) w' g ∧ w'.heap[g]? = w.heap[g]? := by
  intro g hg
  obtain ⟨ho, hlt, hn⟩ := hg
  refine ⟨⟨ho, by omega, fun b sv hr hown => ?_⟩, hkeep g hlt⟩
  rcases hρ b sv hr with hr | hr
  ·exact hn b sv hr hown
  ·have := (h2.own_ge hr hown).1; omega
 have ok2 : ∀ g, okAt (upto w (okAt ok B ρ w)) w.heap.size ρ2 w' g → okAt ok B (either ρ ρ2) w' g ∧ w'.heap[g]? = w'.heap[g]? := by
  intro g hg
  refine ⟨?_, rfl⟩
  obtain ⟨ho, hlt, hn⟩ := hg
  by_cases hgs : g < w.heap.size
  ·exact (ok1 g (ho hgs)).1
  ·refine ⟨h.new g (by omega), hlt, fun b sv hr hown => ?_⟩
   rcases hρ b sv hr with hr | hr
   ·have := (h.own_ge hr hown).2; omega
   ·exact hn b sv hr hown
 refine ⟨⟨Nat.le_trans h.size hs, ?_, ?_, ?_, fun g hg => h.new g (by omega), fun b sv g hr ho => (hρ b sv hr).elim (fun hr => h.fr b sv g hr ho) fun hr => .inr (h.new g (h2.own_ge hr ho).1)⟩, fun v val hv => hv.mono ok1 hr1, fun v val hv => hv.mono ok2 hr2⟩
 ·intro b k hk
  unfold either at hk
  split at hk
  ·rename_i k1 hk1
   simp at hk
   subst hk
   obtain ⟨sv, hr, hb⟩ := h.blk b k1 hk1
   exact ⟨sv, hr1 b sv hr, hb.mono' ok1 hs (fun g hown => hkeep g (hb.own_ge hown).2) hr1⟩
  ·obtain ⟨sv, hr, hb⟩ := h2.blk b k hk
   refine ⟨sv, hr2 b sv hr, ?_⟩
   have hb' := hb.mono' (ρ' := either ρ ρ2) (w' := w') ok2 (Nat.le_refl _) (fun _ _ => rfl) hr2
   have hle := h.size
   cases k with
   | box v =>
    obtain ⟨g, val, rfl, hbb, rest⟩ := hb'
    exact ⟨g, val, rfl, by omega, rest⟩
   | vec T sz es =>
    obtain ⟨hpos, vs, hl, hsz, h1, hrr, ho⟩ := hb'
    refine ⟨hpos, vs, hl, hsz, h1, hrr, ho.imp id fun ho => ⟨ho.1, ho.2.imp id ?_⟩⟩
    rintro ⟨g, cap, cur, rfl, hbb, rest⟩
    exact ⟨g, cap, cur, rfl, by omega, rest⟩
   | map kvs =>
    obtain ⟨g, es, clock, rfl, hbb, rest⟩ := hb'
    exact ⟨g, es, clock, rfl, by omega, rest⟩
 ·intro b sv hr
  rcases hρ b sv hr with hr | hr
  ·obtain ⟨k, hk⟩ := h.dom b sv hr; exact ⟨k, by simp [either, hk]⟩
  ·obtain ⟨k, hk⟩ := h2.dom b sv hr; exact ⟨k, by simp [either, hap b k hk, hk]⟩
 ·intro b1 b2 sv1 sv2 g h1 h2' o1 o2
  rcases hρ b1 sv1 h1 with h1 | h1 <;> rcases hρ b2 sv2 h2' with h2' | h2'
  ·exact h.inj b1 b2 sv1 sv2 g h1 h2' o1 o2
  ·have := (h.own_ge h1 o1).2; have := (h2.own_ge h2' o2).1; omega
  ·have := (h.own_ge h2' o2).2; have := (h2.own_ge h1 o1).1; omega
  ·exact h2.inj b1 b2 sv1 sv2 g h1 h2' o1 o2
/-! ### The machine -/
inductive TK where
 | int (k : IntKind)
 | bool
 | str
 | slice (e : TypeId)
 | struct (fs : List (Nat × Nat × TypeId))
 | array (n : Nat) (e : TypeId)
 | map (k e : TypeId)
 | other
 | iface
def TK.agg : TK → Bool
 | .struct _ | .array _ _ => true
 | _ => false
structure TI where
 k : TK
 size : Nat
 bytes : Nat
 zero : V
def scalar : V → Bool
 | .agg _ | .tup _ | .undef | .raw _ => false
 | _ => true
def V.cells : V → List V
 | .agg cs => cs
 | v => [v]
mutual
def V.data : V → Bool
 | .agg cs => V.dataL cs
 | .tup cs => V.dataL cs
 | .fn _ cs => V.dataL cs
 | .ptr _ _ => false
 | .eptr _ _ _ _ => false
 | .vec _ => false
 | .sub _ _ _ _ => false
 | .ifc _ v => V.data v
 | _ => true
def V.dataL : List V → Bool
 | [] => true
 | v :: vs => V.data v && V.dataL vs
end
mutual
def V.plain : V → Bool
 | .agg cs => V.plainL cs
 | .tup cs => V.plainL cs
 | .fn _ cs => V.plainL cs
 | .int _ _ => true
 | .bool _ => true
 | .str _ => true
 | .zero => true
 | .vec _ => true
 | _ => false
def V.plainL : List V → Bool
 | [] => true
 | v :: vs => V.plain v && V.plainL vs
end
def Blk.plain : Blk → Bool
 | .box _ => false
 | .map _ => true
 | .vec _ _ es => es.all fun v => V.plain v && V.data v
mutual
def V.ren (n : Nat) : V → V
 | .agg cs => .agg (V.renL n cs)
 | .tup cs => .tup (V.renL n cs)
 | .vec b => .vec (n + b)
 | .ptr _ _ => .undef
 | .eptr _ _ _ _ => .undef
 | .sub _ _ _ _ => .undef
 | .fn f cs => .fn f (V.renL n cs)
 | .int k m => .int k m
 | .bool x => .bool x
 | .str s => .str s
 | .row s es => .row s es
 | .zero => .zero
 | .rd v o => .rd v o
 | .undef => .undef
 | .raw v => .raw v
 | .ifc t v => .ifc t (V.ren n v)
def V.renL (n : Nat) : List V → List V
 | [] => []
 | v :: vs => V.ren n v :: V.renL n vs
end
mutual
def V.lone : V → Bool
 | .agg cs => V.loneL cs
 | .tup cs => V.loneL cs
 | .fn _ cs => V.loneL cs
 | .ifc _ v => V.lone v
 | .int _ _ => true
 | .bool _ => true
 | .str _ => true
 | .zero => true
 | .undef => true
 | .raw _ => true
 | .ptr b _ => decide (1000000 ≤ b)
 | .eptr b _ _ _ => decide (1000000 ≤ b)
 | .vec b => decide (1000000 ≤ b)
 | .sub b _ _ _ => decide (1000000 ≤ b)
 | .row _ _ => false
 | .rd _ _ => false
def V.loneL : List V → Bool
 | [] => true
 | v :: vs => V.lone v && V.loneL vs
end
def Blk.lone : Blk → Bool
 | .box v => V.lone v
 | .map _ => true
 | .vec _ _ es => es.all fun v => V.lone v && V.data v
def posN (b : Nat) : List Nat → Nat → Option Nat
 | [], _ => none
 | x :: l, k => if x = b then some k else posN b l (k + 1)
def nmN (x : Option Nat) (f : Nat → V) : Option V := match x with
 | some b => some (f b)
 | none => none
mutual
def V.mv (ns : List Nat) : V → Option V
 | .agg cs => match V.mvL ns cs with
  | some cs' => some (.agg cs')
  | none => none
 | .tup cs => match V.mvL ns cs with
  | some cs' => some (.tup cs')
  | none => none
 | .fn f cs => match V.mvL ns cs with
  | some cs' => some (.fn f cs')
  | none => none
 | .ifc t v => match V.mv ns v with
  | some v' => some (.ifc t v')
  | none => none
 | .int k n => some (.int k n)
 | .bool b => some (.bool b)
 | .str s => some (.str s)
 | .zero => some .zero
 | .undef => some .undef
 | .raw v => some (.raw v)
 | .ptr b o => nmN (posN b ns 1000000) fun b' => .ptr b' o
 | .eptr b sz i o => nmN (posN b ns 1000000) fun b' => .eptr b' sz i o
 | .vec b => nmN (posN b ns 1000000) .vec
 | .sub b sz lo k => nmN (posN b ns 1000000) fun b' => .sub b' sz lo k
 | .row s es => some (.row s es)
 | .rd v o => some (.rd v o)
def V.mvL (ns : List Nat) : List V → Option (List V)
 | [] => some []
 | v :: vs => match V.mv ns v with
  | some v' => match V.mvL ns vs with
   | some vs' => some (v' :: vs')
   | none => none
  | none => none
end
def backN (ns : List Nat) (b : Nat) : Option Nat := if 1000000 ≤ b then ns[b - 1000000]? else none
mutual
def V.bk (ns : List Nat) : V → Option V
 | .agg cs => match V.bkL ns cs with
  | some cs' => some (.agg cs')
  | none => none
 | .tup cs => match V.bkL ns cs with
  | some cs' => some (.tup cs')
  | none => none
 | .fn f cs => match V.bkL ns cs with
  | some cs' => some (.fn f cs')
  | none => none
 | .ifc t v => match V.bk ns v with
  | some v' => some (.ifc t v')
  | none => none
 | .int k n => some (.int k n)
 | .bool b => some (.bool b)
 | .str s => some (.str s)
 | .zero => some .zero
 | .undef => some .undef
 | .raw v => some (.raw v)
 | .ptr b o => nmN (backN ns b) fun b' => .ptr b' o
 | .eptr b sz i o => nmN (backN ns b) fun b' => .eptr b' sz i o
 | .vec b => nmN (backN ns b) .vec
 | .sub b sz lo k => nmN (backN ns b) fun b' => .sub b' sz lo k
 | .row s es => some (.row s es)
 | .rd v o => some (.rd v o)
def V.bkL (ns : List Nat) : List V → Option (List V)
 | [] => some []
 | v :: vs => match V.bk ns v with
  | some v' => match V.bkL ns vs with
   | some vs' => some (v' :: vs')
   | none => none
  | none => none
end
def Blk.mv (ns : List Nat) : Blk → Option Blk
 | .box v => match V.mv ns v with
  | some v' => some (.box v')
  | none => none
 | .vec T sz es => some (.vec T sz es)
 | .map kvs => some (.map kvs)
def Blk.bk (ns : List Nat) : Blk → Option Blk
 | .box v => match V.bk ns v with
  | some v' => some (.box v')
  | none => none
 | .vec T sz es => some (.vec T sz es)
 | .map kvs => some (.map kvs)
def mvB (ns : List Nat) : List Blk → Option (List Blk)
 | [] => some []
 | k :: ks => match Blk.mv ns k with
  | some k' => match mvB ns ks with
   | some ks' => some (k' :: ks')
   | none => none
  | none => none
def bkB (ns : List Nat) : List Blk → Option (List Blk)
 | [] => some []
 | k :: ks => match Blk.bk ns k with
  | some k' => match bkB ns ks with
   | some ks' => some (k' :: ks')
   | none => none
  | none => none
def noDup : List Nat → Bool
 | [] => true
 | x :: l => (posN x l 0).isNone && noDup l
abbrev Env := Nat → V
abbrev Hp := Nat → Option Blk
def ofC : Value → V
 | .int k n => .int k n
 | .bool b => .bool b
 | .string s => .str s
 | .slice none 0 0 => .zero
 | v => .raw v
def opd (env : Env) : Operand → V
 | .tmp t => env t
 | .const v => ofC v
 | .global _ => .undef
 | .func f => .fn f []
inductive Eff where
 | none
 | new (l : List (Nat × Blk))
 | write (b : Nat) (k : Blk)
 | change (b : Nat) (k : Blk)
 | lend (b : Nat) (k : Blk)
 | writes (l : List (Nat × Blk))
structure Ctx where
 T : TypeId → Option TI
 Φ : FuncId → List V → Option (V × List Blk)
 nilv : Nat → Option (TypeId × Nat)
 frz : Nat → List Nat
 dead : Nat → List Nat
 dr : List (Nat × (Nat × List (List Nat)))
 eqs : List TypeId
 Λ : FuncId → Option (Bool × (TypeId → Nat → List V → List V → Option (List V)))
 M : FuncId → Option (List Blk → List V → Option (V × List Blk))
 lnd : Nat → List Nat
 S : FuncId → Option (TypeId → FuncId → Nat → TypeId → Nat → List V → Option (List V))
def isAggV : V → Bool
 | .agg _ => true
 | _ => false
def stor (x : V) : Bool := scalar x || isAggV x
def subV (agg : Bool) (size off : Nat) (v : V) : Option V :=
 if stor v then
  if agg then (if off + size ≤ v.cells.length then some (.agg ((v.cells.drop off).take size)) else none)
  else match v.cells[off]? with
   | some c => if scalar c then some c else none
   | none => none
 else none
def putV (off : Nat) (x v : V) : Option V :=
 match v with
 | .agg cs => if off + x.cells.length ≤ cs.length then some (.agg (cs.take off ++ x.cells ++ cs.drop (off + x.cells.length))) else none
 | v => if scalar v && scalar x && off == 0 then some x else none
def fillV (place : Nat → Option (Nat × Nat)) (cells : List V) : List (Nat × V) → Option (List V)
 | [] => some cells
 | (i, x) :: rest =>
  match place i with
  | none => none
  | some (off, size) => if x.cells.length = size ∧ off + size ≤ cells.length ∧ stor x = true then fillV place (cells.take off ++ x.cells ++ cells.drop (off + size)) rest else none
def binV (op : BinOp) : V → V → Option V
 | .int k a, .int k' b =>
  if k = k' then
   match op with
   | .add => some (.int k (k.wrap (a + b)))
   | .sub => some (.int k (k.wrap (a - b)))
   | .mul => some (.int k (k.wrap (a * b)))
   | .quo => if b = 0 then none else some (.int k (k.wrap (a.tdiv b)))
   | .rem => if b = 0 then none else some (.int k (a.tmod b))
   | .eql => some (.bool (a == b))
   | .neq => some (.bool (a != b))
   | .lss => some (.bool (decide (a < b)))
   | .leq => some (.bool (decide (a ≤ b)))
   | .gtr => some (.bool (decide (a > b)))
   | .geq => some (.bool (decide (a ≥ b)))
   | .and => some (.int k (k.wrap (BitVec.ofInt k.bits a &&& BitVec.ofInt k.bits b).toNat))
   | .or => some (.int k (k.wrap (BitVec.ofInt k.bits a ||| BitVec.ofInt k.bits b).toNat))
   | .xor => some (.int k (k.wrap (BitVec.ofInt k.bits a ^^^ BitVec.ofInt k.bits b).toNat))
   | .shl => if b < 0 then none else some (.int k (k.wrap (a * 2 ^ (min b.toNat k.bits))))
   | .shr => if b < 0 then none else some (.int k (a.fdiv (2 ^ (min b.toNat k.bits))))
   | _ => none
  else
   match op with
   | .shl => if b < 0 then none else some (.int k (k.wrap (a * 2 ^ (min b.toNat k.bits))))
   | .shr => if b < 0 then none else some (.int k (a.fdiv (2 ^ (min b.toNat k.bits))))
   | _ => none
 | .str x, .str y =>
  match op with
  | .add => if x.size + y.size ≤ 9223372036854775807 then some (.str (x ++ y)) else none
  | .eql => some (.bool (x.toList == y.toList))
  | .neq => some (.bool (!(x.toList == y.toList)))
  | .lss => some (.bool (Op.bytesLess x.toList y.toList))
  | .leq => some (.bool (Op.bytesLess x.toList y.toList || x.toList == y.toList))
  | .gtr => some (.bool (!(Op.bytesLess x.toList y.toList || x.toList == y.toList)))
  | .geq => some (.bool (!(Op.bytesLess x.toList y.toList)))
  | _ => none
 | _, _ => none
def unV (op : UnOp) : V → Option V
 | .int k n => match op with
  | .neg => some (.int k (k.wrap (0 - n)))
  | _ => none
 | .bool b => match op with
  | .not => some (.bool (!b))
  | _ => none
 | _ => none
def idx (len : Nat) (i : Int) : Option Nat := if 0 ≤ i ∧ i < len then some i.toNat else none
def subE (hp : Hp) (b sz m : Nat) : Option (TypeId × List V) :=
 match hp b with
 | some (.vec T sz' es) => if sz' = sz ∧ m ≤ es.length then some (T, es) else none
 | _ => none
def partR (hp : Hp) (b sz lo k : Nat) : Option V := (subE hp b sz (lo + k)).map fun p => .row sz ((p.2.drop lo).take k)
def lenV (hp : Hp) : V → Option Nat
 | .row _ es => some es.length
 | .zero => some 0
 | .vec b => match hp b with
  | some (.vec _ _ es) => some es.length
  | _ => none
 | .sub _ _ _ k => some k
 | .str s => some s.size
 | _ => none
def roC (hp : Hp) : V → Option V
 | .vec b => match hp b with
  | some (.vec _ sz es) => some (.row sz es)
  | _ => none
 | .sub b sz lo k => partR hp b sz lo k
 | v => if V.data v then some v else none
def ro0 (hp : Hp) : V → Option V
 | .agg cs => (cs.mapM (roC hp)).map V.agg
 | v => roC hp v
def ro1 (hp : Hp) : V → Option V
 | .ptr b off => match hp b with
  | some (.box v) => if stor v then (ro0 hp v).map fun v' => .rd v' off else none
  | _ => none
 | v => ro0 hp v
def ro (hp : Hp) : V → Option V
 | .fn f cs => (cs.mapM (ro1 hp)).map (.fn f)
 | v => ro1 hp v
def names (n : Nat) (bs : List Blk) : List (Nat × Blk) := bs.zipIdx.map fun (k, j) => (n + j, k)
def fresh (hp : Hp) (l : List (Nat × Blk)) : Bool := l.all fun (b, _) => (hp b).isNone && decide (b < 1000000)
def noBox : Blk → Bool
 | .box _ => false
 | _ => true
def callV (X : Ctx) (hp : Hp) (d : Nat) (f : V) (args : List V) : Option (V × Eff) :=
 match f with
 | .fn g cs =>
  if V.dataL (args ++ cs) then
   match X.Φ g (args ++ cs) with
   | some (r, bs) => if fresh hp (names (8 * d) bs) && bs.all noBox then some (V.ren (8 * d) r, .new (names (8 * d) bs)) else none
   | none => none
  else match (args ++ cs).mapM (ro hp) with
   | some as => match X.Φ g as with
    | some (r, bs) => if fresh hp (names (8 * d) bs) && V.plain r && bs.all Blk.plain then some (V.ren (8 * d) r, .new (names (8 * d) bs)) else none
    | none => none
   | none => none
 | _ => none
def lendV (L : TypeId → Nat → List V → List V → Option (List V)) (hp : Hp) (args cs : List V) : Option (V × Eff) :=
 match args with
 | .vec b :: rest => match hp b with
  | some (.vec T sz es) => match (rest ++ cs).mapM (ro (fun k => if k = b then none else hp k)) with
   | some as => match L T sz es as with
    | some es' => if (es'.all fun v => V.plain v && V.data v) = true then some (.tup [], .lend b (.vec T sz es')) else none
    | none => none
   | none => none
  | _ => none
 | _ => none
def tk1 (hp : Hp) : V → Option V
 | .vec b => match hp b with
  | some (.vec _ sz es) => some (.row sz es)
  | _ => none
 | .sub b sz lo k => partR hp b sz lo k
 | v => if V.data v then some v else none
def takeV (L : TypeId → Nat → List V → List V → Option (List V)) (hp : Hp) (args cs : List V) : Option (V × Eff) :=
 match args with
 | .vec b :: rest => match hp b with
  | some (.vec T sz es) => match (rest ++ cs).mapM (tk1 (fun k => if k = b then none else hp k)) with
   | some as => match L T sz es as with
    | some es' => if b < 1000000 then some (.vec b, .change b (.vec T sz es')) else none
    | none => none
   | none => none
  | _ => none
 | _ => none
def getB (hp : Hp) : List Nat → Option (List Blk)
 | [] => some []
 | b :: bs => match hp b with
  | some k => match getB hp bs with
   | some ks => some (k :: ks)
   | none => none
  | none => none
def newN1 : Nat → Nat → List Nat
 | _, 0 => []
 | b, n + 1 => b :: newN1 (b + 1) n
def newN (d : Nat) : Nat → List Nat
 | 0 => []
 | n + 1 => 8 * d :: newN1 (8 * d + 1) n
def freshN (hp : Hp) (l : List Nat) : Bool := l.all fun b => (hp b).isNone && decide (b < 1000000)
def mutV (M : List Blk → List V → Option (V × List Blk)) (hp : Hp) (d : Nat) (ns : List Nat) (as : List V) : Option (V × Eff) :=
 match getB hp ns with
 | some ks => match mvB ns ks, V.mvL ns as with
  | some ks', some as' => match M ks' as' with
   | some (r, ks2) => match V.bk (ns ++ newN d (ks2.length - ns.length)) r, bkB (ns ++ newN d (ks2.length - ns.length)) ks2 with
    | some r', some ks3 => if noDup (ns ++ newN d (ks2.length - ns.length)) = true ∧ ns.length ≤ ks2.length ∧ freshN hp (newN d (ks2.length - ns.length)) = true then some (r', .writes ((ns ++ newN d (ks2.length - ns.length)).zip ks3)) else none
    | _, _ => none
   | none => none
  | _, _ => none
 | none => none
def cellOf (b : Nat) : List V → Nat → Option Nat
 | [], _ => none
 | .vec b' :: l, k => if b' = b then some k else cellOf b l (k + 1)
 | _ :: l, k => cellOf b l (k + 1)
def sortV (S : TypeId → FuncId → Nat → TypeId → Nat → List V → Option (List V)) (hp : Hp) (as : List V) : Option (V × Eff) :=
 match as with
 | [.ifc t (.vec b), .fn lf [.ptr o 0]] => match hp b, hp o with
  | some (.vec T sz es), some (.box bv) => match cellOf b bv.cells 0 with
   | some k => match S t lf k T sz es with
    | some es' => some (.tup [], .lend b (.vec T sz es'))
    | none => none
   | none => none
  | _, _ => none
 | _ => none
def callW (X : Ctx) (hp : Hp) (d : Nat) (f : V) (args : List V) : Option (V × Eff) :=
 match f with
 | .fn g cs => match X.M g with
  | some M => mutV M hp d (X.lnd d) (args ++ cs)
  | none => match X.S g with
   | some S => sortV S hp (args ++ cs)
   | none => match X.Λ g with
    | some (true, L) => takeV L hp args cs
    | some (false, L) => lendV L hp args cs
    | none => callV X hp d f args
 | f => callV X hp d f args
def elemsV (hp : Hp) : V → Option (Nat × List V)
 | .row sz es => some (sz, es)
 | .vec b => match hp b with
  | some (.vec _ sz es) => some (sz, es)
  | _ => none
 | .sub b sz lo k => (subE hp b sz (lo + k)).map fun p => (sz, (p.2.drop lo).take k)
 | _ => none
def unB : List V → Option (List UInt8)
 | [] => some []
 | .int .u8 n :: l => if 0 ≤ n ∧ n < 256 then (unB l).map fun r => UInt8.ofNat n.toNat :: r else none
 | _ => none
def bytesW (X : Ctx) (e : TypeId) (x : V) : Option V :=
 match X.T e with
 | some ⟨.int .u8, _, _, _⟩ => match x with
  | .row 1 (e0 :: es) => (unB (e0 :: es)).map fun l => .str ⟨l.toArray⟩
  | _ => none
 | _ => none
def isSlice (X : Ctx) (t : TypeId) : Bool :=
 match X.T t with
 | some ⟨.slice _, _, _, _⟩ => true
 | _ => false
def elemsZ (n : Nat) (hp : Hp) : V → Option (Nat × List V)
 | .zero => some (n, [])
 | .raw (.slice _ 0 _) => some (n, [])
 | v => elemsV hp v
def appendV (X : Ctx) (hp : Hp) (d : Nat) (t t2 : TypeId) (s x : V) : Option (V × Eff) :=
 match X.T t with
 | some ⟨.slice e, _, _, _⟩ => match X.T e with
  | some i =>
   if isSlice X t2 = true then
    match s, x with
    | .zero, x => match elemsZ i.size hp x with
     | some (sz, es) => if sz = i.size ∧ 0 < sz ∧ es.length * i.bytes ≤ 140737488355328 ∧ es.length ≤ maxLen ∧ (hp (8 * d)).isNone = true then some (.vec (8 * d), .new [(8 * d, .vec e sz es)]) else none
     | none => none
    | .vec b, x => match hp b, elemsZ i.size hp x with
     | some (.vec T sz es), some (sz', es') => if T = e ∧ sz = i.size ∧ sz' = sz ∧ (es.length + es'.length) * i.bytes ≤ 140737488355328 ∧ es.length + es'.length ≤ maxLen ∧ b < 1000000 then some (.vec b, .change b (.vec T sz (es ++ es'))) else none
     | _, _ => none
    | _, _ => none
   else none
  | none => none
 | _ => none
def makeV (X : Ctx) (hp : Hp) (d : Nat) (t : TypeId) : V → V → Option (V × Eff)
 | .int .i64 l, .int .i64 c => match X.T t with
  | some ⟨.slice e, _, _, _⟩ => match X.T e with
   | some i => if 0 ≤ l ∧ l = c ∧ c * i.bytes ≤ 140737488355328 ∧ c ≤ maxLen ∧ 0 < i.size ∧ (hp (8 * d)).isNone = true ∧ V.data i.zero = true then some (.vec (8 * d), .new [(8 * d, .vec e i.size (List.replicate l.toNat i.zero))]) else none
   | none => none
  | _ => none
 | _, _ => none
def sliceV (X : Ctx) (t : TypeId) (x : V) (lo hi mx : Option V) : Option V :=
 match X.T t, x, mx with
 | some ⟨.str, _, _, _⟩, .str s, none =>
  match (match hi with | some (.int _ n) => if 0 ≤ n ∧ n ≤ (s.size : Int) then some n.toNat else none | some _ => none | none => some s.size) with
  | some h => match (match lo with | some (.int _ n) => if 0 ≤ n ∧ n ≤ (h : Int) then some n.toNat else none | some _ => none | none => some 0) with
   | some l => some (.str (s.extract l h))
   | none => none
  | none => none
 | some ⟨.slice e, _, _, _⟩, .row sz es, none =>
  if (X.T e).map (·.size) = some sz then
  match (match hi with | some (.int _ n) => if 0 ≤ n ∧ n ≤ (es.length : Int) then some n.toNat else none | some _ => none | none => some es.length) with
  | some h => match (match lo with | some (.int _ n) => if 0 ≤ n ∧ n ≤ (h : Int) then some n.toNat else none | some _ => none | none => some 0) with
   | some l => some (.row sz ((es.take h).drop l))
   | none => none
  | none => none
  else none
 | some ⟨.slice e, _, _, _⟩, .zero, none =>
  match lo, hi with
  | none, some (.int _ 0) => if (X.T e).isSome = true then some .zero else none
  | _, _ => none
 | _, _, _ => none
def boundsV (n : Nat) (lo hi : Option V) : Option (Nat × Nat) :=
 match (match hi with | some (.int _ m) => if 0 ≤ m ∧ m ≤ (n : Int) then some m.toNat else none | some _ => none | none => some n) with
 | some h => match (match lo with | some (.int _ m) => if 0 ≤ m ∧ m ≤ (h : Int) then some m.toNat else none | some _ => none | none => some 0) with
  | some l => some (l, h)
  | none => none
 | none => none
def ownP (hp : Hp) : V → Option (Nat × Nat × Nat × Nat)
 | .vec b => match hp b with
  | some (.vec _ sz es) => if 0 < es.length then some (b, sz, 0, es.length) else none
  | _ => none
 | .sub b sz lo k => some (b, sz, lo, k)
 | _ => none
def sliceW (X : Ctx) (hp : Hp) (t : TypeId) (x : V) (lo hi mx : Option V) : Option V :=
 match ownP hp x with
 | some (b, sz, l0, n) => match X.T t, mx, boundsV n lo hi with
  | some ⟨.slice e, _, _, _⟩, none, some (l, h) => if (X.T e).map (·.size) = some sz then some (.sub b sz (l0 + l) (h - l)) else none
  | _, _, _ => none
 | none => sliceV X t x lo hi mx
def copyV (X : Ctx) (hp : Hp) (t : TypeId) (s x : V) : Option (V × Eff) :=
 match X.T t with
 | some ⟨.slice e, _, _, _⟩ => match X.T e, elemsV hp x, elemsV hp s with
  | some i, some (sz', xs), some (_, l) => if l.length = 0 then some (.int .i64 0, .none) else match ownP hp s with
   | some (b, sz, lo, k) => match subE hp b sz (lo + k) with
    | some (T, es) => if i.size = sz ∧ sz' = sz then some (.int .i64 (min xs.length k : Nat), .write b (.vec T sz (es.take lo ++ xs.take (min xs.length k) ++ es.drop (lo + min xs.length k)))) else none
    | none => none
   | none => none
  | _, _, _ => none
 | _ => none
def clearV (X : Ctx) (hp : Hp) (t : TypeId) (s : V) : Option (V × Eff) :=
 match X.T t with
 | some ⟨.slice e, _, _, _⟩ => match X.T e, elemsV hp s with
  | some i, some (_, l) => if l.length = 0 then some (.tup [], .none) else match ownP hp s with
   | some (b, sz, lo, k) => match subE hp b sz (lo + k) with
    | some (T, es) => if i.size = sz then some (.tup [], .write b (.vec T sz (es.take lo ++ List.replicate k i.zero ++ es.drop (lo + k)))) else none
    | none => none
   | none => none
  | _, _ => none
 | _ => none
def eqK : TK → V → V → Option Bool
 | .int _, .int k a, .int k' b => if k = k' then some (decide (a = b)) else none
 | .bool, .bool a, .bool b => some (a == b)
 | .str, .str a, .str b => some (a.toList == b.toList)
 | _, _, _ => none
def eqFs (X : Ctx) (xs ys : List V) : List (Nat × Nat × TypeId) → Option Bool
 | [] => some true
 | (off, _, t) :: fs => match X.T t with
  | some i => match xs[off]?, ys[off]? with
   | some x, some y => match eqK i.k x y, eqFs X xs ys fs with
    | some b, some b' => some (b && b')
    | _, _ => none
   | _, _ => none
  | none => none
def eqV (X : Ctx) (T : TypeId) (x y : V) : Option Bool :=
 match X.T T with
 | some ⟨.bool, _, _, _⟩ => eqK .bool x y
 | some ⟨.struct fs, _, _, _⟩ => if X.eqs.contains T = true then (match x, y with
  | .agg xs, .agg ys => eqFs X xs ys fs
  | _, _ => none) else none
 | _ => none
def nonE (hp : Hp) : V → Option Bool
 | .row _ es => if 0 < es.length then some false else none
 | .vec b => match hp b with
  | some (.vec _ _ es) => if 0 < es.length then some false else none
  | _ => none
 | .raw (.slice (some _) _ _) => some false
 | _ => none
def nilEq (X : Ctx) (hp : Hp) (T : TypeId) (x y : V) : Option Bool :=
 match X.T T with
 | some ⟨.slice _, _, _, _⟩ => match x with
  | .zero => match y with
   | .zero => some true
   | y => nonE hp y
  | x => match y with
   | .zero => nonE hp x
   | _ => none
 | _ => none
def eqH (X : Ctx) (hp : Hp) (T : TypeId) (x y : V) : Option Bool :=
 match eqV X T x y with
 | some b => some b
 | none => nilEq X hp T x y
def ifcQ (X : Ctx) (T : TypeId) (v : V) : Operand → Option Bool
 | .const .nilIface => match X.T T with
  | some ⟨.iface, _, _, _⟩ => match v with
   | .raw .nilIface => some true
   | .ifc _ _ => some false
   | _ => none
  | _ => none
 | _ => none
def orE : Option Bool → Option Bool → Option Bool
 | some b, _ => some b
 | none, c => c
def keyOk : TK → V → Bool
 | .int k, .int k' _ => k' == k
 | .bool, .bool _ => true
 | .str, .str _ => true
 | _, _ => false
def findK (tk : TK) (x : V) : List (V × V) → Option (Option V)
 | [] => some none
 | (k, v) :: l => match eqK tk x k with
  | some true => some (some v)
  | some false => findK tk x l
  | none => none
def updK (tk : TK) (x y : V) : List (V × V) → Option (List (V × V))
 | [] => some [(x, y)]
 | (k, v) :: l => match eqK tk x k with
  | some true => some ((k, y) :: l)
  | some false => (updK tk x y l).map fun l' => (k, v) :: l'
  | none => none
def mapsV (hp : Hp) : V → Option (List (V × V))
 | .vec b => match hp b with
  | some (.map kvs) => some kvs
  | _ => none
 | _ => none
def mapKE (X : Ctx) (T : TypeId) : Option (TI × TI) :=
 match X.T T with
 | some ⟨.map k e, _, _, _⟩ => match X.T k, X.T e with
  | some a, some b => some (a, b)
  | _, _ => none
 | _ => none
def lookV (X : Ctx) (hp : Hp) (T : TypeId) (x i : V) (ok : Bool) : Option V :=
 match mapKE X T, mapsV hp x with
 | some (ki, ei), some kvs => if keyOk ki.k i then match findK ki.k i kvs with
  | some (some v) => some (if ok then .tup [v, .bool true] else v)
  | some none => some (if ok then .tup [ei.zero, .bool false] else ei.zero)
  | none => none
  else none
 | _, _ => none
def updV (X : Ctx) (hp : Hp) (T : TypeId) (x i y : V) : Option (V × Eff) :=
 match mapKE X T, x, mapsV hp x with
 | some (ki, _), .vec b, some kvs => if keyOk ki.k i && y.key.isSome then match updK ki.k i y kvs with
  | some kvs' => some (.undef, .write b (.map kvs'))
  | none => none
  else none
 | _, _, _ => none
def hintOk : Option V → Bool
 | none => true
 | some (.int _ _) => true
 | _ => false
def mkMapV (X : Ctx) (hp : Hp) (d : Nat) (T : TypeId) (r : Option V) : Option (V × Eff) :=
 match mapKE X T with
 | some _ => if hintOk r && (hp (8 * d)).isNone then some (.vec (8 * d), .new [(8 * d, .map [])]) else none
 | none => none
def lenM (X : Ctx) (hp : Hp) (t : TypeId) (x : V) : Option Nat :=
 match X.T t with
 | some ⟨.map _ _, _, _, _⟩ => (mapsV hp x).map (·.length)
 | _ => none
def bornV (X : Ctx) (env : Env) (T : TypeId) (n : Nat) (ps : Array (Nat × Operand)) : Option (V × Eff) :=
 match X.T T with
 | some ⟨.slice e, _, _, _⟩ => match X.T e with
  | some i =>
   if 0 < i.size ∧ n = ps.size ∧ n * i.size ≤ 16777216 ∧ (ps.toList.zipIdx.all fun (p, j) => p.1 == j && V.data (opd env p.2) && stor (opd env p.2) && (opd env p.2).cells.length == i.size) = true
   then some (.row i.size (ps.toList.map fun p => opd env p.2), .none) else none
  | none => none
 | _ => none
def evalOp (X : Ctx) (env : Env) (hp : Hp) (d : Nat) : Op → Option (V × Eff)
 | .move x => some (opd env x, .none)
 | .assign x =>
  match X.nilv d with
  | some (T, sz) => match opd env x with
   | .zero => if (hp (8 * d)).isNone = true ∧ 0 < sz then some (.vec (8 * d), .new [(8 * d, .vec T sz [])]) else none
   | v => some (v, .none)
  | none => some (opd env x, .none)
 | .pick c a b => match opd env c with
  | .bool t => match opd env a, opd env b with
   | .bool x, .bool y => some (.bool (if t then x else y), .none)
   | x, y => some (if t then x else y, .none)
  | _ => none
 | .alloc T => match X.T T with
  | some i => if (hp (8 * d)).isNone = true ∧ stor i.zero = true then some (.ptr (8 * d) 0, .new [(8 * d, .box i.zero)]) else none
  | none => none
 | .box _ x => if (hp (8 * d)).isNone = true ∧ stor (opd env x) = true then some (.ptr (8 * d) 0, .new [(8 * d, .box (opd env x))]) else none
 | .build T ps => match X.T T with
  | some ⟨.struct fs, _, _, .agg z⟩ => match fillV (fun i => (fs[i]?).map fun f => (f.1, f.2.1)) z (ps.toList.map fun p => (p.1, opd env p.2)) with
   | some cs => some (.agg cs, .none)
   | none => none
  | _ => none
 | .buildSlice T n ps => match X.nilv d with
  | some _ => bornV X env T n ps
  | none => match X.T T with
  | some ⟨.slice e, _, _, _⟩ => match X.T e with
   | some i =>
    if (hp (8 * d)).isNone = true ∧ 0 < i.size ∧ n = ps.size ∧ n * i.size ≤ 16777216 ∧ (ps.toList.zipIdx.all fun (p, j) => p.1 == j && V.data (opd env p.2) && stor (opd env p.2) && (opd env p.2).cells.length == i.size) = true
    then some (.vec (8 * d), .new [(8 * d, .vec e i.size (ps.toList.map fun p => opd env p.2))]) else none
   | none => none
  | _ => none
 | .load T a => match X.T T with
  | some i => match opd env a with
   | .rd v off => match subV i.k.agg i.size off v with
    | some r => some (r, .none)
    | none => none
   | .ptr b off => match hp b with
    | some (.box v) => match subV i.k.agg i.size off v with
     | some r => some (r, .none)
     | none => none
    | _ => none
   | .eptr b sz j off => match hp b with
    | some (.vec _ sz' es) => if sz = sz' then match es[j]? with
     | some e => match subV i.k.agg i.size off e with
      | some r => some (r, .none)
      | none => none
     | none => none
     else none
    | _ => none
   | _ => none
  | none => none
 | .store T a x => match X.T T with
  | some i => if (opd env x).cells.length = i.size ∧ stor (opd env x) = true then match opd env a with
   | .ptr b off => match hp b with
    | some (.box v) => match putV off (opd env x) v with
     | some v' => some (.undef, .write b (.box v'))
     | none => none
    | _ => none
   | .eptr b sz j off => match hp b with
    | some (.vec Te sz' es) => if sz = sz' ∧ V.data (opd env x) = true then match es[j]? with
     | some e => match putV off (opd env x) e with
      | some e' => some (.undef, .write b (.vec Te sz' (es.set j e')))
      | none => none
     | none => none
     else none
    | _ => none
   | _ => none
   else none
  | none => none
 | .nilCheck x => match opd env x with
  | .ptr b o => some (.ptr b o, .none)
  | .rd v o => some (.rd v o, .none)
  | .eptr b s i o => some (.eptr b s i o, .none)
  | .fn f cs => some (.fn f cs, .none)
  | _ => none
 | .binOp op T x y _ => match binV op (opd env x) (opd env y) with
  | some v => some (v, .none)
  | none => match op with
   | .eql => (orE (eqH X hp T (opd env x) (opd env y)) (ifcQ X T (opd env x) y)).map fun b => (.bool b, .none)
   | .neq => (orE (eqH X hp T (opd env x) (opd env y)) (ifcQ X T (opd env x) y)).map fun b => (.bool (!b), .none)
   | _ => none
 | .unOp op _ x => (unV op (opd env x)).map fun v => (v, .none)
 | .convert s t x => match X.T s, X.T t, opd env x with
  | some _, some ⟨.int k, _, _, _⟩, .int _ n => some (.int k (k.wrap n), .none)
  | some _, some ⟨.str, _, _, _⟩, .str x => some (.str x, .none)
  | some ⟨.slice e, _, _, _⟩, some ⟨.str, _, _, _⟩, y => (bytesW X e y).map fun v => (v, .none)
  | _, _, _ => none
 | .makeFunc (.func f) first cs => if first.size = 0 then some (.fn f (cs.toList.map (opd env)), .none) else none
 | .makeInterface T x => match X.T T with
  | some ⟨.slice _, _, _, _⟩ => some (.ifc T (opd env x), .none)
  | some ⟨.struct _, _, _, _⟩ => some (.ifc T (opd env x), .none)
  | _ => none
 | .makeSlice T l c => makeV X hp d T (opd env l) (opd env c)
 | .makeMap T r => mkMapV X hp d T (r.map (opd env))
 | .lookup T x i ok => (lookV X hp T (opd env x) (opd env i) ok).map fun v => (v, .none)
 | .mapUpdate T m k v => updV X hp T (opd env m) (opd env k) (opd env v)
 | .slice T x lo hi mx => (sliceW X hp T (opd env x) (lo.map (opd env)) (hi.map (opd env)) (mx.map (opd env))).map fun v => (v, .none)
 | .fieldAddr T x f => match X.T T with
  | some ⟨.struct fs, _, _, _⟩ => match fs[f]? with
   | some (off, fsz, _) => if fsz = 0 then none else match opd env x with
    | .ptr b o => some (.ptr b (o + off), .none)
    | .eptr b sz i o => some (.eptr b sz i (o + off), .none)
    | .rd v o => some (.rd v (o + off), .none)
    | _ => none
   | none => none
  | _ => none
 | .indexAddr T x i => match X.T T, opd env i with
  | some ⟨.slice e, _, _, _⟩, .int _ n => match X.T e, opd env x with
   | some ie, .row sz es => if ie.size = sz then match idx es.length n with
    | some j => match es[j]? with
     | some e => some (.rd e 0, .none)
     | none => none
    | none => none
    else none
   | some ie, .vec b => match hp b with
    | some (.vec _ sz es) => if ie.size = sz then match idx es.length n with
     | some j => some (.eptr b sz j 0, .none)
     | none => none
     else none
    | _ => none
   | some ie, .sub b sz lo k => if ie.size = sz then match idx k n with
     | some j => some (.eptr b sz (lo + j) 0, .none)
     | none => none
    else none
   | _, _ => none
  | some ⟨.array m e, _, _, _⟩, .int _ n => match X.T e, opd env x with
   | some ie, .ptr b o => match idx m n with
    | some j => some (.ptr b (o + j * ie.size), .none)
    | none => none
   | _, _ => none
  | _, _ => none
 | .index T x i => match X.T T, opd env x, opd env i with
  | some ⟨.str, _, _, _⟩, .str s, .int _ n => if 0 ≤ n then match s[n.toNat]? with
   | some c => some (.int .u8 c.toNat, .none)
   | none => none
   else none
  | some ⟨.array m e, _, _, _⟩, .agg cs, .int _ n => match X.T e, idx m n with
   | some ie, some j => match subV ie.k.agg ie.size (j * ie.size) (.agg cs) with
    | some r => some (r, .none)
    | none => none
   | _, _ => none
  | _, _, _ => none
 | .field T x f => match X.T T with
  | some ⟨.struct fs, _, _, _⟩ => match fs[f]?, opd env x with
   | some (off, size, ft), .agg cs => match X.T ft with
    | some i => match subV i.k.agg size off (.agg cs) with
     | some r => some (r, .none)
     | none => none
    | none => none
   | _, _ => none
  | _ => none
 | .extract x i => match opd env x with
  | .tup vs => match vs[i]? with
   | some v => some (v, .none)
   | none => none
  | _ => none
 | .call c => match c.callee with
  | .value f => callW X hp d (opd env f) (c.args.toList.map (opd env))
  | .builtin .len => match c.args.toList, c.argTypes.toList with
   | [x], [t] => match lenM X hp t (opd env x) with
    | some n => some (.int .i64 n, .none)
    | none => match X.T t, lenV hp (opd env x) with
     | some ⟨.slice _, _, _, _⟩, some n => (match opd env x with | .str _ => none | _ => some (.int .i64 n, .none))
     | some ⟨.str, _, _, _⟩, some n => (match opd env x with | .str _ => some (.int .i64 n, .none) | _ => none)
     | _, _ => none
   | _, _ => none
  | .builtin .append => match c.args.toList, c.argTypes.toList with
   | [s, x], [t, t2] => appendV X hp d t t2 (opd env s) (opd env x)
   | _, _ => none
  | .builtin .copy => match c.args.toList, c.argTypes.toList with
   | [s, x], [t, _] => copyV X hp t (opd env s) (opd env x)
   | _, _ => none
  | .builtin .clear => match c.args.toList, c.argTypes.toList with
   | [s], [t] => clearV X hp t (opd env s)
   | _, _ => none
  | .builtin .max => match c.args.toList with
   | [x, y] => match opd env x, opd env y with
    | .int k a, .int _ b => some (.int k (if b > a then b else a), .none)
    | _, _ => none
   | _ => none
  | .builtin .min => match c.args.toList with
   | [x, y] => match opd env x, opd env y with
    | .int k a, .int _ b => some (.int k (if b < a then b else a), .none)
    | _, _ => none
   | _ => none
  | _ => none
 | _ => none
/-! ### What the tables of types say -/
def vEq1 : V → Value → Bool
 | .int k n, .int k' n' => k == k' && n == n'
 | .bool b, .bool b' => b == b'
 | .str s, .string s' => s.data.toList == s'.data.toList
 | .zero, .slice none 0 0 => true
 | .undef, _ => true
 | _, _ => false
def vEq : V → Value → Bool
 | .agg cs, .agg vs => cs.length == vs.size && (cs.zip vs.toList).all fun (c, v) => vEq1 c v
 | c, v => vEq1 c v
theorem vEq1_rel {w : World} {ok : Nat → Prop} {c : V} {v : Value} (h : vEq1 c v = true) : RelD w ok c v := by
 unfold vEq1 at h
 split at h
 ·simp at h; obtain ⟨rfl, rfl⟩ := h; exact .int _ _
 ·simp at h; subst h; exact .bool _
 ·rename_i s s'
  obtain ⟨⟨s⟩⟩ := s
  obtain ⟨⟨s'⟩⟩ := s'
  simp at h
  subst h
  exact .str _
 ·exact .zero
 ·exact .undef _
 ·cases h
theorem vEq_rel {w : World} {ok : Nat → Prop} {c : V} {v : Value} (h : vEq c v = true) (h1 : v.cells.all (·.oneCell') = true) : RelD w ok c v := by
 unfold vEq at h
 split at h
 ·rename_i cs vs
  simp only [Bool.and_eq_true, beq_iff_eq, List.all_eq_true] at h
  obtain ⟨hl, ha⟩ := h
  obtain ⟨vs⟩ := vs
  refine .agg cs vs (by simpa using hl) (fun v hv => by simp [Value.cells] at h1; exact h1 v hv) fun j c v hc hv => vEq1_rel (ha (c, v) ?_)
  have : (cs.zip vs)[j]? = some (c, v) := by simp [List.getElem?_zip_eq_some, hc, hv]
  exact List.mem_of_getElem? this
 ·exact vEq1_rel h
def tkOk (P : Program) : TK → TypeDesc → Bool
 | .int k, .int k' => k == k'
 | .bool, .bool => true
 | .str, .string => true
 | .slice e, .slice e' => e == e'
 | .struct fs, .struct fields => fs == fields.toList.map (fun f => (f.offset, P.cellsOf f.type, f.type)) && fields.all fun f => (P.info? f.type).isSome
 | .array n e, .array n' e' => n == n' && e == e'
 | .map k e, .map k' e' => k == k' && e == e'
 | .other, .struct _ => false
 | .other, .array _ _ => false
 | .other, _ => true
 | .iface, .interface _ => true
 | _, _ => false
def tiOk (P : Program) (t : TypeId) (i : TI) : Bool :=
 match P.info? t, P.underlying t with
 | some info, some d => info.size == i.size && info.bytes == i.bytes && (match info.zero with
   | some z => vEq i.zero z && z.cells.size == i.size && z.cells.all (·.oneCell')
   | none => false) && tkOk P i.k d
 | _, _ => false
structure TFact (P : Program) (t : TypeId) (i : TI) (I : TypeInfo) (d : TypeDesc) (z : Value) : Prop where
 info : P.info? t = some I
 under : P.underlying t = some d
 size : I.size = i.size
 bytes : I.bytes = i.bytes
 zero : I.zero = some z
 zrel : ∀ w ok, RelD w ok i.zero z
 zsize : z.cells.size = i.size
 z1 : z.cells.all (·.oneCell') = true
 tk : tkOk P i.k d = true
theorem tiOk_spec {P : Program} {t : TypeId} {i : TI} (h : tiOk P t i = true) : ∃ info d z, TFact P t i info d z := by
 unfold tiOk at h
 split at h
 ·rename_i info d hi hd
  simp only [Bool.and_eq_true, beq_iff_eq] at h
  obtain ⟨⟨⟨hs, hb⟩, hz⟩, hk⟩ := h
  split at hz
  ·rename_i z hzz
   simp only [Bool.and_eq_true, beq_iff_eq] at hz
   exact ⟨info, d, z, hi, hd, hs, hb, hzz, fun w ok => vEq_rel hz.1.1 hz.2, hz.1.2, hz.2, hk⟩
  ·cases hz
 ·cases h
def TOk (P : Program) (T : TypeId → Option TI) : Prop := ∀ t i, T t = some i → ∃ info d z, TFact P t i info d z
def eqOkB (P : Program) (t : TypeId) : Bool :=
 match P.underlying t with
 | some (.struct fields) => !P.stoodInHeld t && !P.eqGuardType P.depth t && fields.all fun f => f.name != "_"
 | _ => false
def TOkX (P : Program) (X : Ctx) : Prop := TOk P X.T ∧ ∀ t ∈ X.eqs, eqOkB P t = true
theorem TOk_of {P : Program} {l : List (TypeId × TI)} (h : (l.all fun (t, i) => tiOk P t i) = true) : TOk P (fun t => l.lookup t) := fun t i hl => by
 have : (t, i) ∈ l := by
  induction l with
  | nil => simp at hl
  | cons x l ih =>
   obtain ⟨t', i'⟩ := x
   simp only [List.lookup_cons] at hl
   split at hl
   ·rename_i he; simp at he hl; subst he; subst hl; simp
   ·exact List.mem_cons_of_mem _ (ih (by simp at h ⊢; exact h.2) hl)
 exact tiOk_spec (List.all_eq_true.1 h (t, i) this)
/-! ### What a value of the frame tells of the model's -/
section
variable {w : World} {ok : Nat → Prop} {ρ : Nat → Option Value} {val : Value}
theorem Rel.int_inv {k : IntKind} {n : Int} (h : Rel w ok ρ (.int k n) val) : val = .int k n := by
 cases h with | ro h => cases h; rfl
theorem Rel.bool_inv {b : Bool} (h : Rel w ok ρ (.bool b) val) : val = .bool b := by
 cases h with | ro h => cases h; rfl
theorem Rel.str_inv {s : ByteArray} (h : Rel w ok ρ (.str s) val) : val = .string s := by
 cases h with | ro h => cases h; rfl
theorem Rel.zero_inv (h : Rel w ok ρ .zero val) : ∃ a, val = .slice a 0 0 := by
 cases h with | ro h => cases h; exact ⟨_, rfl⟩
theorem Rel.vec_inv {b : Nat} (h : Rel w ok ρ (.vec b) val) : ρ b = some val := by
 cases h with
 | ro h => cases h
 | vec _ _ h => exact h
theorem Rel.ptr_inv {b o : Nat} (h : Rel w ok ρ (.ptr b o) val) : ∃ g, ρ b = some (.pointer (some ⟨g, 0, none⟩)) ∧ val = .pointer (some ⟨g, o, none⟩) := by
 cases h with
 | ro h => cases h
 | ptr _ _ g h => exact ⟨g, h, rfl⟩
theorem Rel.eptr_inv {b sz i o : Nat} (h : Rel w ok ρ (.eptr b sz i o) val) : ∃ g n cap, ρ b = some (.slice (some ⟨g, 0, none⟩) n cap) ∧ val = .pointer (some ⟨g, i * sz + o, none⟩) := by
 cases h with
 | ro h => cases h
 | eptr _ _ _ _ g n cap h => exact ⟨g, n, cap, h, rfl⟩
theorem Rel.sub_inv {b sz lo k : Nat} (h : Rel w ok ρ (.sub b sz lo k) val) : ∃ (g n cap c : Nat) (ad : Option Addr), ρ b = some (.slice (some ⟨g, 0, none⟩) n cap) ∧ val = .slice ad k c ∧ 0 < n ∧ lo + k ≤ n ∧ k ≤ c ∧ (c ≤ maxLen ∧ c + lo = cap) ∧ (c = 0 ∨ ad = some ⟨g, lo * sz, none⟩) := by
 cases h with
 | ro h => cases h
 | sub _ _ _ _ g n cap c ad h hx => exact ⟨g, n, cap, c, ad, h, rfl, hx⟩
theorem Rel.rd_inv {v : V} {o : Nat} (h : Rel w ok ρ (.rd v o) val) : RelD w ok (.rd v o) val := by
 cases h with | ro h => exact h
theorem Rel.row_inv {sz : Nat} {es : List V} (h : Rel w ok ρ (.row sz es) val) : RelD w ok (.row sz es) val := by
 cases h with | ro h => exact h
theorem Rel.tup_inv {cs : List V} (h : Rel w ok ρ (.tup cs) val) : ∃ vs : List Value, val = .tuple vs.toArray ∧ cs.length = vs.length ∧ ∀ (j : Nat) c v, cs[j]? = some c → vs[j]? = some v → Rel w ok ρ c v := by
 cases h with
 | ro h => cases h with | tup _ vs hl h => exact ⟨vs, rfl, hl, fun j c v hc hv => .ro (h j c v hc hv)⟩
 | tup _ vs hl h => exact ⟨vs, rfl, hl, h⟩
theorem Rel.agg_inv {cs : List V} (h : Rel w ok ρ (.agg cs) val) : ∃ vs : List Value, val = .agg vs.toArray ∧ cs.length = vs.length ∧ (∀ v ∈ vs, v.oneCell' = true) ∧ ∀ (j : Nat) c v, cs[j]? = some c → vs[j]? = some v → Rel w ok ρ c v := by
 cases h with
 | ro h => cases h with | agg _ vs hl h1 h => exact ⟨vs, rfl, hl, h1, fun j c v hc hv => .ro (h j c v hc hv)⟩
 | agg _ vs hl h1 h => exact ⟨vs, rfl, hl, h1, h⟩
theorem Rel.fn_inv {f : FuncId} {cs : List V} (h : Rel w ok ρ (.fn f cs) val) : ∃ vs : List Value, val = .func (.func f) #[] vs.toArray ∧ cs.length = vs.length ∧ ∀ (j : Nat) c v, cs[j]? = some c → vs[j]? = some v → Rel w ok ρ c v := by
 cases h with
 | ro h => cases h with | fn _ _ vs hl h => exact ⟨vs, rfl, hl, fun j c v hc hv => .ro (h j c v hc hv)⟩
 | fn _ _ vs hl h => exact ⟨vs, rfl, hl, h⟩
theorem cells_one {v : Value} (h : v.oneCell' = true) : v.cells = #[v] := by cases v <;> first | rfl | cases h
theorem Rel.scalar_one {v : V} (h : Rel w ok ρ v val) (hs : scalar v = true) : val.oneCell' = true := by
 cases h with
 | ro h => cases h <;> first | rfl | cases hs
 | vec _ _ _ h1 => exact h1
 | _ => first | rfl | cases hs
theorem scalar_cells {v : V} (hs : scalar v = true) : v.cells = [v] := by cases v <;> first | rfl | cases hs
theorem Rel.stor_cells {v : V} (h : Rel w ok ρ v val) (hs : stor v = true) : val.cells.size = v.cells.length ∧ (∀ u ∈ val.cells.toList, u.oneCell' = true) ∧
  ∀ (j : Nat) c u, v.cells[j]? = some c → val.cells.toList[j]? = some u → Rel w ok ρ c u := by
 by_cases hsc : scalar v = true
 ·have h1 := h.scalar_one hsc
  rw [cells_one h1, scalar_cells hsc]
  refine ⟨rfl, by simpa using h1, fun j c u hc hu => ?_⟩
  cases j with
  | zero => simp at hc hu; subst hc; subst hu; exact h
  | succ j => simp at hc
 ·cases v <;> first | (simp [stor, scalar, isAggV] at hs hsc; done) | skip
  obtain ⟨vs, rfl, hl, h1, hc⟩ := h.agg_inv
  exact ⟨by simp [Value.cells, V.cells, hl], by simpa [Value.cells] using h1, by simpa [Value.cells, V.cells] using hc⟩
theorem Rel.of_cells {v : V} {xs : List Value} (hs : stor v = true) (hl : xs.length = v.cells.length) (h1 : ∀ u ∈ xs, u.oneCell' = true)
  (hc : ∀ (j : Nat) c u, v.cells[j]? = some c → xs[j]? = some u → Rel w ok ρ c u) : ∃ val, val.cells.toList = xs ∧ Rel w ok ρ v val := by
 by_cases hsc : scalar v = true
 ·rw [scalar_cells hsc] at hl hc
  match xs, hl with
  | [u], _ =>
   refine ⟨u, by rw [cells_one (h1 u (by simp))], hc 0 v u rfl rfl⟩
 ·cases v <;> first | (simp [stor, scalar, isAggV] at hs hsc; done) | skip
  exact ⟨.agg xs.toArray, by simp [Value.cells], .agg _ xs (by simpa [V.cells] using hl.symm) h1 (by simpa [V.cells] using hc)⟩
theorem dataL_iff {cs : List V} : V.dataL cs = true ↔ ∀ c ∈ cs, V.data c = true := by
 induction cs with
 | nil => simp [V.dataL]
 | cons c cs ih => simp [V.dataL, ih]
theorem plainL_iff {cs : List V} : V.plainL cs = true ↔ ∀ c ∈ cs, V.plain c = true := by
 induction cs with
 | nil => simp [V.plainL]
 | cons c cs ih => simp [V.plainL, ih]
theorem Rel.toD {v : V} (h : Rel w ok ρ v val) (hd : V.data v = true) : RelD w ok v val := by
 induction h with
 | ro h => exact h
 | ptr => simp [V.data] at hd
 | eptr => simp [V.data] at hd
 | vec => simp [V.data] at hd
 | sub => simp [V.data] at hd
 | agg cs vs hl h1 _ ih => rw [V.data, dataL_iff] at hd; exact .agg cs vs hl h1 fun j c v hc hv => ih j c v hc hv (hd c (List.mem_of_getElem? hc))
 | tup cs vs hl _ ih => rw [V.data, dataL_iff] at hd; exact .tup cs vs hl fun j c v hc hv => ih j c v hc hv (hd c (List.mem_of_getElem? hc))
 | fn f cs vs hl _ ih => rw [V.data, dataL_iff] at hd; exact .fn f cs vs hl fun j c v hc hv => ih j c v hc hv (hd c (List.mem_of_getElem? hc))
 | ifc t v val _ ih => rw [V.data] at hd; exact .ifc t v val (ih hd)
theorem RelD.plain {w' : World} {ok' : Nat → Prop} {v : V} (h : RelD w ok v val) (hp : V.plain v = true) : RelD w' ok' v val := by
 induction h with
 | int => exact .int _ _
 | bool => exact .bool _
 | str => exact .str _
 | agg cs vs hl h1 _ ih => rw [V.plain, plainL_iff] at hp; exact .agg cs vs hl h1 fun j c v hc hv => ih j c v hc hv (hp c (List.mem_of_getElem? hc))
 | tup cs vs hl _ ih => rw [V.plain, plainL_iff] at hp; exact .tup cs vs hl fun j c v hc hv => ih j c v hc hv (hp c (List.mem_of_getElem? hc))
 | fn f cs vs hl _ ih => rw [V.plain, plainL_iff] at hp; exact .fn f cs vs hl fun j c v hc hv => ih j c v hc hv (hp c (List.mem_of_getElem? hc))
 | zero => exact .zero
 | _ => simp [V.plain] at hp
end
theorem ofC_rel {w : World} {ok : Nat → Prop} (v : Value) : RelD w ok (ofC v) v := by
 unfold ofC
 split
 ·exact .int _ _
 ·exact .bool _
 ·exact .str _
 ·exact .zero
 ·exact .raw _
/-! ### The operations -/
def Eff.hp (hp : Hp) : Eff → Hp
 | .none => hp
 | .new l => either hp (fun b => l.lookup b)
 | .write b k => upd hp b (some k)
 | .change b k => upd (hpScrub b .undef hp) b (some k)
 | .lend b k => upd (hpScrub b (.vec b) hp) b (some k)
 | .writes l => either (fun b => l.lookup b) hp
def Eff.tr : Eff → V → V
 | .change b _ => V.scrub b .undef
 | .lend b _ => V.scrub b (.vec b)
 | _ => id
def Eff.tc : Eff → Nat → Bool
 | .none, _ => false
 | .new l, b => l.any fun p => p.1 == b
 | .write _ _, _ => false
 | .change c _, b => c == b
 | .lend _ _, _ => false
 | .writes l, b => (l.any fun p => p.1 == b) && decide (b < 1000000)
structure Step (ok : Nat → Prop) (B : Nat) (w : World) (ρ : Nat → Option Value) (w' : World) (ρ' : Nat → Option Value) (hp' : Hp) (tr : V → V) (tc : Nat → Bool) : Prop where
 below : Below B w w'
 inv : Inv ok B w' ρ' hp'
 rel : ∀ v val, Rel w (okAt ok B ρ w) ρ v val → Rel w' (okAt ok B ρ' w') ρ' (tr v) val
 keep : ∀ g, g < w.heap.size → (∀ b sv, ρ b = some sv → own sv ≠ some g) → w'.heap[g]? = w.heap[g]?
 fresh : ∀ b sv g, ρ' b = some sv → own sv = some g → w.heap.size ≤ g ∨ ∃ b0 sv0, ρ b0 = some sv0 ∧ own sv0 = some g
 hdr : ∀ b, tc b = false → ρ' b = ρ b
 grow : w.heap.size ≤ w'.heap.size
theorem Step.refl {ok : Nat → Prop} {B : Nat} {w : World} {ρ : Nat → Option Value} {hp : Hp} (h : Inv ok B w ρ hp) : Step ok B w ρ w ρ hp id (fun _ => false) := ⟨.refl _ _, h, fun _ _ h => h, fun _ _ _ => rfl, fun b sv g h1 h2 => .inr ⟨b, sv, h1, h2⟩, fun _ _ => rfl, Nat.le_refl _⟩
def OpOk (P : Program) (ok : Nat → Prop) (B : Nat) (w : World) (ρ : Nat → Option Value) (hp : Hp) (a : Act) (o : Oper) (v : V) (eff : Eff) : Prop :=
 ∀ (K : Act → World → Prop) (Q : Exit → Act → World → Prop), (∀ w' ρ' val, Step ok B w ρ w' ρ' (eff.hp hp) eff.tr eff.tc → Rel w' (okAt ok B ρ' w') ρ' v val → K (a.put o.dst val) w') → o.wp P a w K Q
section
variable {P : Program} {ok : Nat → Prop} {B : Nat} {w w' : World} {ρ : Nat → Option Value} {hp : Hp} {a : Act} {o : Oper} {v : V} {eff : Eff}
theorem OpOk.value (hI : Inv ok B w ρ hp) (val : Value) (hr : (execOp a.eval o).run P w = .ok (.value val) w) (hv : Rel w (okAt ok B ρ w) ρ v val) : OpOk P ok B w ρ hp a o v .none := by
 intro K Q hK
 unfold Oper.wp
 rw [hr]
 exact hK w ρ val (.refl hI) hv
theorem OpOk.step {ρ' : Nat → Option Value} (val : Value) (hr : (execOp a.eval o).run P w = .ok (.value val) w') (hs : Step ok B w ρ w' ρ' (eff.hp hp) eff.tr eff.tc) (hv : Rel w' (okAt ok B ρ' w') ρ' v val) : OpOk P ok B w ρ hp a o v eff := by
 intro K Q hK
 unfold Oper.wp
 rw [hr]
 exact hK w' ρ' val hs hv
theorem OpOk.skip {ρ' : Nat → Option Value} (hr : (execOp a.eval o).run P w = .ok .skip w') (hs : Step ok B w ρ w' ρ' (eff.hp hp) eff.tr eff.tc) : OpOk P ok B w ρ hp a o .undef eff := by
 intro K Q hK
 unfold Oper.wp
 rw [hr]
 exact hK w' ρ' undef hs (.ro (.undef _))
def one {α : Type} (n : Nat) (x : α) : Nat → Option α := fun b => if b = n then some x else none
theorem add1_ok (h : Inv ok B w ρ hp) (n : Nat) (sv : Value) (hf : hp n = none) (hs : w.heap.size ≤ w'.heap.size) (hkeep : ∀ g, g < w.heap.size → w'.heap[g]? = w.heap[g]?)
  (hown : ∀ g, own sv = some g → w.heap.size ≤ g) :
  (∀ g, okAt ok B ρ w g → okAt ok B (either ρ (one n sv)) w' g ∧ w'.heap[g]? = w.heap[g]?) ∧ (∀ b s, ρ b = some s → either ρ (one n sv) b = some s) ∧ either ρ (one n sv) n = some sv := by
 have hn : ρ n = none := by
  cases hr : ρ n with
  | none => rfl
  | some s => obtain ⟨k, hk⟩ := h.dom n s hr; rw [hf] at hk; cases hk
 refine ⟨?_, fun b s hr => by simp [either, hr], by simp [either, hn, one]⟩
 intro g hg
 obtain ⟨ho, hlt, hno⟩ := hg
 refine ⟨⟨ho, by omega, fun b s hr ho => ?_⟩, hkeep g hlt⟩
 unfold either at hr
 split at hr
 ·rename_i hr1; simp at hr; subst hr; exact hno b _ hr1 ho
 ·unfold one at hr
  split at hr
  ·simp at hr; subst hr; have := hown g ho; omega
  ·cases hr
theorem add1 (h : Inv ok B w ρ hp) (n : Nat) (sv : Value) (k : Blk) (hf : hp n = none) (hb : Below w.heap.size w w')
  (hown : ∀ g, own sv = some g → w.heap.size ≤ g) (hk : BlkOk w' (okAt ok B (either ρ (one n sv)) w') (either ρ (one n sv)) B sv k) :
  Step ok B w ρ w' (either ρ (one n sv)) ((Eff.new [(n, k)]).hp hp) (Eff.new [(n, k)]).tr (Eff.new [(n, k)]).tc := by
 have hs := hb.size
 have hkeep : ∀ g, g < w.heap.size → w'.heap[g]? = w.heap[g]? := fun g hg => hb.block g hg
 obtain ⟨hokk, hr1, hr2⟩ := add1_ok (w' := w') h n sv hf hs hkeep hown
 have hhp : (Eff.new [(n, k)]).hp hp = either hp (one n k) := by
  funext b
  simp only [Eff.hp, either, one, List.lookup_cons, List.lookup_nil]
  cases hp b with
  | some x => rfl
  | none =>
   by_cases hbn : b = n
   ·simp [hbn]
   ·have hq : (b == n) = false := by simpa using hbn
    simp [hbn, hq]
 have hρ : ∀ b s, either ρ (one n sv) b = some s → ρ b = some s ∨ (b = n ∧ s = sv) := by
  intro b s he
  unfold either at he
  split at he
  ·rename_i hr; exact .inl (by simpa [hr] using he)
  ·unfold one at he
   split at he
   ·rename_i hbn; simp at he; exact .inr ⟨hbn, he.symm⟩
   ·cases he
 refine ⟨hb.mono h.size, ?_, fun v val hv => hv.mono hokk hr1, fun g hg _ => hkeep g hg, fun b s g hs ho => by
  rcases hρ b s hs with hr | ⟨_, rfl⟩
  ·exact .inr ⟨b, s, hr, ho⟩
  ·exact .inl (hown g ho), fun b hb => by
  have hbn : ¬ b = n := by intro e; subst e; simp [Eff.tc] at hb
  unfold either one
  cases ρ b <;> simp [hbn], hs⟩
 rw [hhp]
 refine ⟨Nat.le_trans h.size hs, ?_, ?_, ?_, fun g hg => h.new g (by omega), fun b s g hr ho => (hρ b s hr).elim (fun hr => h.fr b s g hr ho) fun hr => .inr (h.new g (by rw [hr.2] at ho; exact hown g ho))⟩
 ·intro b k' hk'
  unfold either at hk'
  split at hk'
  ·rename_i k1 hk1
   simp at hk'
   subst hk'
   obtain ⟨s, hr, hb'⟩ := h.blk b k1 hk1
   exact ⟨s, hr1 b s hr, hb'.mono' hokk hs (fun g ho => hkeep g (hb'.own_ge ho).2) hr1⟩
  ·unfold one at hk'
   split at hk'
   ·rename_i hbn; simp at hk'; subst hk'; subst hbn; exact ⟨sv, hr2, hk⟩
   ·cases hk'
 ·intro b s hr
  rcases hρ b s hr with hr | ⟨rfl, rfl⟩
  ·obtain ⟨k', hk'⟩ := h.dom b s hr; exact ⟨k', by simp [either, hk']⟩
  ·exact ⟨k, by simp [either, hf, one]⟩
 ·intro b1 b2 s1 s2 g h1 h2 o1 o2
  rcases hρ b1 s1 h1 with k1 | ⟨e1, f1⟩ <;> rcases hρ b2 s2 h2 with k2 | ⟨e2, f2⟩
  ·exact h.inj b1 b2 s1 s2 g k1 k2 o1 o2
  ·subst f2; have := (h.own_ge k1 o1).2; have := hown g o2; omega
  ·subst f1; have := (h.own_ge k2 o2).2; have := hown g o1; omega
  ·omega
theorem below_alloc (w : World) (o : Obj) : Below w.heap.size w (w.alloc o) := (Below.refl _ _).alloc (Nat.le_refl _) o
theorem new_box (h : Inv ok B w ρ hp) (n : Nat) (T : TypeId) (v : V) (val : Value) (hf : hp n = none) (hst : stor v = true) (hv : Rel w (okAt ok B ρ w) ρ v val) :
  ∃ ρ', Step ok B w ρ (w.alloc (.cells val.cells T)) ρ' ((Eff.new [(n, .box v)]).hp hp) (Eff.new [(n, .box v)]).tr (Eff.new [(n, .box v)]).tc ∧
   Rel (w.alloc (.cells val.cells T)) (okAt ok B ρ' (w.alloc (.cells val.cells T))) ρ' (.ptr n 0) (.pointer (some ⟨w.heap.size, 0, none⟩)) := by
 have hown : ∀ g, own (.pointer (some ⟨w.heap.size, 0, none⟩)) = some g → w.heap.size ≤ g := by intro g hg; simp [own] at hg; omega
 have hb := below_alloc w (.cells val.cells T)
 obtain ⟨hokk, hr1, hr2⟩ := add1_ok (w' := w.alloc (.cells val.cells T)) h n (.pointer (some ⟨w.heap.size, 0, none⟩)) hf hb.size (fun g hg => hb.block g hg) hown
 obtain ⟨hsz, h1, _⟩ := hv.stor_cells hst
 refine ⟨_, add1 h n (.pointer (some ⟨w.heap.size, 0, none⟩)) (.box v) hf hb hown ⟨w.heap.size, val, rfl, h.size, by rw [World.size_alloc]; omega, ?_, ?_, h1, hv.mono hokk hr1⟩, .ptr n 0 _ hr2⟩
 ·intro j u hu
  rw [Nat.zero_add, World.cell?_alloc_at _ _ _ _ rfl]
  simpa using hu
 ·intro j hj
  rw [Nat.zero_add, World.cell?_alloc_at _ _ _ _ rfl, World.frozen?_alloc_at _ _ _ _ rfl]
  simp [hj]
end
section
variable {P : Program} {X : Ctx} {ok : Nat → Prop} {B : Nat} {w : World} {ρ : Nat → Option Value} {hp : Hp} {env : Env} {a : Act} {o : Oper} {v : V} {eff : Eff} {d : Nat}
theorem some_pair {α β : Type} {a a' : α} {b b' : β} (h : some (a, b) = some (a', b')) : a' = a ∧ b' = b := by simp at h; exact ⟨h.1.symm, h.2.symm⟩
theorem os_move (hI : Inv ok B w ρ hp) (hE : ∀ x, Rel w (okAt ok B ρ w) ρ (opd env x) (a.eval x)) {x : Operand} (ho : o.op = .move x) (h : evalOp X env hp d (.move x) = some (v, eff)) : OpOk P ok B w ρ hp a o v eff := by
 simp only [evalOp] at h
 obtain ⟨rfl, rfl⟩ := some_pair h
 exact .value hI (a.eval x) (by simp [execOp, ho]) (hE x)
theorem inv_nil (hI : Inv ok B w ρ hp) (n : Nat) (T : TypeId) (sz : Nat) (av : Option Addr) (hf : hp n = none) (hsz : 0 < sz) :
  ∃ ρ', Step ok B w ρ w ρ' ((Eff.new [(n, .vec T sz [])]).hp hp) (Eff.new [(n, .vec T sz [])]).tr (Eff.new [(n, .vec T sz [])]).tc ∧ Rel w (okAt ok B ρ' w) ρ' (.vec n) (.slice av 0 0) := by
 have hown : ∀ g, own (.slice av 0 0) = some g → w.heap.size ≤ g := by intro g hg; cases av <;> simp [own] at hg
 obtain ⟨hokk, hr1, hr2⟩ := add1_ok (w' := w) hI n (.slice av 0 0) hf (Nat.le_refl _) (fun g hg => rfl) hown
 exact ⟨_, add1 hI n (.slice av 0 0) (.vec T sz []) hf (.refl _ _) hown ⟨hsz, [], rfl, by simp, by simp, by simp, .inl ⟨av, rfl, rfl⟩⟩, .vec n _ hr2 rfl⟩
theorem os_assign (hI : Inv ok B w ρ hp) (hE : ∀ x, Rel w (okAt ok B ρ w) ρ (opd env x) (a.eval x)) {x : Operand} (ho : o.op = .assign x) (h : evalOp X env hp d (.assign x) = some (v, eff)) : OpOk P ok B w ρ hp a o v eff := by
 simp only [evalOp] at h
 split at h
 ·rename_i T sz _
  split at h
  ·rename_i hz
   split at h
   ·rename_i hc
    obtain ⟨rfl, rfl⟩ := some_pair h
    have hx := hE x
    rw [hz] at hx
    obtain ⟨av, hx⟩ := hx.zero_inv
    obtain ⟨ρ', hs, hr⟩ := inv_nil hI (8 * d) T sz av (by simpa using hc.1) hc.2
    exact .step (.slice av 0 0) (by simp [execOp, ho, hx]) hs hr
   ·cases h
  ·obtain ⟨rfl, rfl⟩ := some_pair h
   exact .value hI (a.eval x) (by simp [execOp, ho]) (hE x)
 ·obtain ⟨rfl, rfl⟩ := some_pair h
  exact .value hI (a.eval x) (by simp [execOp, ho]) (hE x)
theorem os_pick (hI : Inv ok B w ρ hp) (hE : ∀ x, Rel w (okAt ok B ρ w) ρ (opd env x) (a.eval x)) {c x y : Operand} (ho : o.op = .pick c x y) (h : evalOp X env hp d (.pick c x y) = some (v, eff)) : OpOk P ok B w ρ hp a o v eff := by
 simp only [evalOp] at h
 split at h
 ·rename_i t ht
  have hc := hE c
  rw [ht] at hc
  have hc := hc.bool_inv
  have hv : eff = .none ∧ Rel w (okAt ok B ρ w) ρ v (if t then a.eval x else a.eval y) := by
   split at h
   ·rename_i p q hp' hq'
    obtain ⟨rfl, rfl⟩ := some_pair h
    have hx := hE x
    have hy := hE y
    rw [hp'] at hx
    rw [hq'] at hy
    refine ⟨rfl, ?_⟩
    cases t
    ·simpa using hy
    ·simpa using hx
   ·obtain ⟨rfl, rfl⟩ := some_pair h
    refine ⟨rfl, ?_⟩
    cases t
    ·simpa using hE y
    ·simpa using hE x
  obtain ⟨rfl, hv⟩ := hv
  exact .value hI _ (by simp [execOp, ho, hc, asBool]) hv
 ·cases h
theorem os_alloc (hT : TOk P X.T) (hI : Inv ok B w ρ hp) {T : TypeId} (ho : o.op = .alloc T) (h : evalOp X env hp d (.alloc T) = some (v, eff)) : OpOk P ok B w ρ hp a o v eff := by
 simp only [evalOp] at h
 split at h
 ·rename_i i hi
  split at h
  ·rename_i hc
   obtain ⟨rfl, rfl⟩ := some_pair h
   obtain ⟨info, dd, z, hf⟩ := hT T i hi
   obtain ⟨ρ', hs, hr⟩ := new_box hI (8 * d) T i.zero z (by simpa using hc.1) hc.2 (.ro (hf.zrel _ _))
   exact .step _ (by simp [execOp, ho, Instr.alloc, zeroValue, typeInfo, hf.info, hf.zero, newVar, newRow]) hs hr
  ·cases h
 ·cases h
theorem os_box (hI : Inv ok B w ρ hp) (hE : ∀ x, Rel w (okAt ok B ρ w) ρ (opd env x) (a.eval x)) {T : TypeId} {x : Operand} (ho : o.op = .box T x) (h : evalOp X env hp d (.box T x) = some (v, eff)) : OpOk P ok B w ρ hp a o v eff := by
 simp only [evalOp] at h
 split at h
 ·rename_i hc
  obtain ⟨rfl, rfl⟩ := some_pair h
  obtain ⟨ρ', hs, hr⟩ := new_box hI (8 * d) T (opd env x) (a.eval x) (by simpa using hc.1) hc.2 (hE x)
  exact .step _ (by simp [execOp, ho, Instr.box, newVar, newRow]) hs hr
 ·cases h
theorem os_nilCheck (hI : Inv ok B w ρ hp) (hE : ∀ x, Rel w (okAt ok B ρ w) ρ (opd env x) (a.eval x)) {x : Operand} (ho : o.op = .nilCheck x) (h : evalOp X env hp d (.nilCheck x) = some (v, eff)) : OpOk P ok B w ρ hp a o v eff := by
 simp only [evalOp] at h
 have hx := hE x
 split at h
 ·rename_i b off hq
  obtain ⟨rfl, rfl⟩ := some_pair h
  rw [hq] at hx
  obtain ⟨g, hg, he⟩ := id hx.ptr_inv
  exact .value hI (a.eval x) (by simp [execOp, ho, he]) hx
 ·rename_i v0 off hq
  obtain ⟨rfl, rfl⟩ := some_pair h
  rw [hq] at hx
  have he : ∃ ad, a.eval x = .pointer (some ad) := by have hh := hx.rd_inv; generalize a.eval x = vv at hh ⊢; cases hh; exact ⟨_, rfl⟩
  obtain ⟨ad, he⟩ := he
  exact .value hI (a.eval x) (by simp [execOp, ho, he]) hx
 ·rename_i b s i off hq
  obtain ⟨rfl, rfl⟩ := some_pair h
  rw [hq] at hx
  obtain ⟨g, n, cap, hg, he⟩ := id hx.eptr_inv
  exact .value hI (a.eval x) (by simp [execOp, ho, he]) hx
 ·rename_i f cs hq
  obtain ⟨rfl, rfl⟩ := some_pair h
  rw [hq] at hx
  obtain ⟨vs, he, _⟩ := id hx.fn_inv
  exact .value hI (a.eval x) (by simp [execOp, ho, he]) hx
 ·cases h
theorem os_extract (hI : Inv ok B w ρ hp) (hE : ∀ x, Rel w (okAt ok B ρ w) ρ (opd env x) (a.eval x)) {x : Operand} {i : Nat} (ho : o.op = .extract x i) (h : evalOp X env hp d (.extract x i) = some (v, eff)) : OpOk P ok B w ρ hp a o v eff := by
 simp only [evalOp] at h
 have hx := hE x
 split at h
 ·rename_i cs hq
  rw [hq] at hx
  obtain ⟨vs, he, hl, hr⟩ := hx.tup_inv
  split at h
  ·rename_i c hc
   obtain ⟨rfl, rfl⟩ := some_pair h
   have hlt : i < vs.length := by have := (List.getElem?_eq_some_iff.1 hc).1; omega
   exact .value hI vs[i] (by simp [execOp, ho, he, Instr.extract, hlt]) (hr i _ _ hc (List.getElem?_eq_getElem hlt))
  ·cases h
 ·cases h
theorem mkFunc_rel (hE : ∀ x, Rel w (okAt ok B ρ w) ρ (opd env x) (a.eval x)) (f : FuncId) (cs : List Operand) :
  Rel w (okAt ok B ρ w) ρ (.fn f (cs.map (opd env))) (.func (.func f) #[] (cs.map a.eval).toArray) := by
 refine .fn f _ _ (by simp) fun j c u hc hu => ?_
 rw [List.getElem?_map] at hc hu
 cases hj : cs[j]? with
 | none => simp [hj] at hc
 | some x => simp [hj] at hc hu; subst hc; subst hu; exact hE x
theorem os_makeFunc (hI : Inv ok B w ρ hp) (hE : ∀ x, Rel w (okAt ok B ρ w) ρ (opd env x) (a.eval x)) {fn : Fn} {first cs : Array Operand} (ho : o.op = .makeFunc fn first cs) (h : evalOp X env hp d (.makeFunc fn first cs) = some (v, eff)) : OpOk P ok B w ρ hp a o v eff := by
 cases fn with
 | func f =>
  simp only [evalOp] at h
  split at h
  ·rename_i hf
   obtain ⟨rfl, rfl⟩ := some_pair h
   obtain ⟨first⟩ := first
   obtain ⟨cs⟩ := cs
   have hf : first = [] := by simpa using hf
   subst hf
   have := mkFunc_rel hE f cs
   exact .value hI _ (by simp [execOp, ho, Instr.makeFunc]; rfl) (by simpa using this)
  ·cases h
 | _ => simp [evalOp] at h
theorem eqK_bool {x y : V} {b : Bool} (h : eqK .bool x y = some b) : ∃ p p', x = .bool p ∧ y = .bool p' := by
 cases x <;> first | (cases y <;> cases h; done) | skip
 cases y <;> first | (cases h; done) | skip
 exact ⟨_, _, rfl, rfl⟩
theorem eqK_run (n : Nat) {t : TypeId} {i : TI} {I : TypeInfo} {d0 : TypeDesc} {z : Value} (hf : TFact P t i I d0 z) {x y : V} {b : Bool} (h : eqK i.k x y = some b) {vx vy : Value} (hx : Rel w ok ρ x vx) (hy : Rel w ok ρ y vy) :
  (Op.equalIn (n + 1) t vx vy).run P w = .ok b w := by
 have htk := hf.tk
 unfold eqK at h
 split at h
 ·rename_i k0 k m k' m' hk0
  rw [hx.int_inv, hy.int_inv]
  rw [hk0] at htk
  cases d0 <;> first | (simp [tkOk] at htk; done) | skip
  split at h
  ·rename_i hkk
   subst hkk
   rw [run_equalIn_int w n t k _ m m' hf.under]
   simp at h
   subst h
   simp
   exact Bool.beq_eq_decide_eq m m'
  ·cases h
 ·rename_i p p' hk0
  rw [hx.bool_inv, hy.bool_inv]
  rw [hk0] at htk
  cases d0 <;> first | (simp [tkOk] at htk; done) | skip
  rw [run_equalIn_bool' w n t p p' hf.under]
  simp at h
  simp [h]
 ·rename_i s s' hk0
  rw [hx.str_inv, hy.str_inv]
  rw [hk0] at htk
  cases d0 <;> first | (simp [tkOk] at htk; done) | skip
  rw [run_equalIn_string w n t s s' hf.under]
  simp at h
  simp [h]
 ·cases h
theorem eqK_plain {t : TypeId} {i : TI} {I : TypeInfo} {d0 : TypeDesc} {z : Value} (hf : TFact P t i I d0 z) {x y : V} {b : Bool} (h : eqK i.k x y = some b) : P.plainKey t = true := by
 have htk := hf.tk
 unfold eqK at h
 split at h
 ·rename_i k0 k m k' m' hk0
  rw [hk0] at htk
  cases d0 <;> first | (simp [tkOk] at htk; done) | skip
  simp [Program.plainKey, hf.under]
 ·rename_i p p' hk0
  rw [hk0] at htk
  cases d0 <;> first | (simp [tkOk] at htk; done) | skip
  simp [Program.plainKey, hf.under]
 ·rename_i s s' hk0
  rw [hk0] at htk
  cases d0 <;> first | (simp [tkOk] at htk; done) | skip
  simp [Program.plainKey, hf.under]
 ·cases h
theorem eqFs_run (n : Nat) (hT : TOk P X.T) {xs ys : List V} {vs us : List Value} (hl : xs.length = vs.length) (hl' : ys.length = us.length) (hx : ∀ (j : Nat) c v, xs[j]? = some c → vs[j]? = some v → Rel w ok ρ c v)
  (hy : ∀ (j : Nat) c v, ys[j]? = some c → us[j]? = some v → Rel w ok ρ c v) : ∀ (fields : List Field), (∀ f ∈ fields, f.name ≠ "_") → ∀ b, eqFs X xs ys (fields.map fun f => (f.offset, P.cellsOf f.type, f.type)) = some b →
  (Op.eqFields (n + 1) vs.toArray us.toArray fields).run P w = .ok b w
 | [], _, b, h => by simp [eqFs] at h; subst h; simp [Op.eqFields]
 | f :: fs, hn, b, h => by
  simp only [List.map_cons, eqFs] at h
  split at h <;> first | (cases h; done) | skip
  rename_i i hi
  split at h <;> first | (cases h; done) | skip
  rename_i x y hxo hyo
  split at h <;> first | (cases h; done) | skip
  rename_i b1 b2 h1 h2
  obtain ⟨I, d0, z, hf⟩ := hT _ _ hi
  have hpl := eqK_plain hf h1
  have hvl : f.offset < vs.length := by have := (List.getElem?_eq_some_iff.1 hxo).1; omega
  have hul : f.offset < us.length := by have := (List.getElem?_eq_some_iff.1 hyo).1; omega
  have p1 := run_part_plain (P := P) w hpl (xs := vs.toArray) (off := f.offset) (v := vs[f.offset]) (by simp [hvl])
  have p2 := run_part_plain (P := P) w hpl (xs := us.toArray) (off := f.offset) (v := us[f.offset]) (by simp [hul])
  have hr := eqK_run n hf h1 (hx _ _ _ hxo (List.getElem?_eq_getElem hvl)) (hy _ _ _ hyo (List.getElem?_eq_getElem hul))
  have ih := eqFs_run n hT hl hl' hx hy fs (fun f hf => hn f (List.mem_cons_of_mem _ hf)) b2 h2
  simp at h
  subst h
  unfold Op.eqFields
  rw [if_pos (hn f (by simp))]
  simp only [Sem.run_bind, p1, p2, hr, Result.andThen_ok]
  cases b1
  ·simp
  ·simp [ih]
theorem orE_some' {a c : Option Bool} {b : Bool} (h : orE a c = some b) : a = some b ∨ (a = none ∧ c = some b) := by
 cases a with
 | some x => exact .inl h
 | none => exact .inr ⟨rfl, h⟩
theorem ifcQ_inv {X : Ctx} {T : TypeId} {v : V} {y : Operand} {b : Bool} (h : ifcQ X T v y = some b) : y = .const .nilIface ∧ ∃ s1 b1 z1, X.T T = some ⟨.iface, s1, b1, z1⟩ ∧ ((v = .raw .nilIface ∧ b = true) ∨ ((∃ t u, v = .ifc t u) ∧ b = false)) := by
 unfold ifcQ at h
 split at h
 ·split at h
  ·rename_i s1 b1 z1 hT
   refine ⟨rfl, s1, b1, z1, hT, ?_⟩
   split at h
   ·exact .inl ⟨rfl, (Option.some.inj h).symm⟩
   ·exact .inr ⟨⟨_, _, rfl⟩, (Option.some.inj h).symm⟩
   ·cases h
  ·cases h
 ·cases h
theorem equalIn_ifc0 (n : Nat) {T : TypeId} {ms : Array (String × TypeId)} (hu : P.underlying T = some (.interface ms)) : (Op.equalIn (n + 1) T .nilIface .nilIface).run P w = .ok true w := by
 simp [Op.equalIn, run_underlying hu]
theorem equalIn_ifc1 (n : Nat) {T : TypeId} {ms : Array (String × TypeId)} (hu : P.underlying T = some (.interface ms)) (t : TypeId) (u : Value) : (Op.equalIn (n + 1) T (.iface t u) .nilIface).run P w = .ok false w := by
 simp [Op.equalIn, run_underlying hu]
theorem ifcQ_run (hT : TOk P X.T) {T : TypeId} {v : V} {y : Operand} {b : Bool} {vx : Value} (h : ifcQ X T v y = some b) (hx : Rel w (okAt ok B ρ w) ρ v vx) :
  y = .const .nilIface ∧ ((vx = .nilIface ∧ b = true) ∨ ((∃ t u, vx = .iface t u) ∧ b = false)) ∧ (Op.equalIn 10000 T vx .nilIface).run P w = .ok b w := by
 obtain ⟨hy, s1, b1, z1, hTT, hv⟩ := ifcQ_inv h
 obtain ⟨I, d0, z, hf⟩ := hT _ _ hTT
 have htk := hf.tk
 cases d0 <;> first | (simp [tkOk] at htk; done) | skip
 refine ⟨hy, ?_⟩
 rcases hv with ⟨rfl, rfl⟩ | ⟨⟨t, u, rfl⟩, rfl⟩
 ·obtain rfl : vx = .nilIface := by cases hx with | ro hx => cases hx; rfl
  exact ⟨.inl ⟨rfl, rfl⟩, equalIn_ifc0 9999 hf.under⟩
 ·obtain ⟨t', u', rfl⟩ : ∃ t u, vx = .iface t u := by
   cases hx with
   | ro hx => cases hx; exact ⟨_, _, rfl⟩
   | ifc => exact ⟨_, _, rfl⟩
  exact ⟨.inr ⟨⟨_, _, rfl⟩, rfl⟩, equalIn_ifc1 9999 hf.under _ _⟩
theorem os_bin (hT : TOkX P X) (hI : Inv ok B w ρ hp) (hE : ∀ x, Rel w (okAt ok B ρ w) ρ (opd env x) (a.eval x)) {op : BinOp} {T U : TypeId} {x y : Operand}
  (hN : ∀ b, nilEq X hp T (opd env x) (opd env y) = some b → ∃ ad n c ad' n' c', a.eval x = .slice ad n c ∧ a.eval y = .slice ad' n' c' ∧ (Op.equalIn 10000 T (.slice ad n c) (.slice ad' n' c')).run P w = .ok b w) (ho : o.op = .binOp op T x y U) (h : evalOp X env hp d (.binOp op T x y U) = some (v, eff)) : OpOk P ok B w ρ hp a o v eff := by
 simp only [evalOp] at h
 cases hb : binV op (opd env x) (opd env y) with
 | none =>
  rw [hb] at h
  simp only at h
  have fin2 : ∀ (q : Bool) (b : Bool), ifcQ X T (opd env x) y = some b → (op = .eql ∧ q = b ∨ op = .neq ∧ q = !b) → OpOk P ok B w ρ hp a o (.bool q) .none := by
   intro q b hq hop
   obtain ⟨hy, hvx, hr⟩ := ifcQ_run (w := w) hT.1 hq (hE x)
   subst hy
   refine .value hI (.bool q) ?_ (.ro (.bool _))
   have ey : a.eval (.const .nilIface) = .nilIface := rfl
   rcases hvx with ⟨ex, hb⟩ | ⟨⟨t, u, ex⟩, hb⟩
   ·rw [ex] at hr
    rcases hop with ⟨rfl, rfl⟩ | ⟨rfl, rfl⟩ <;> simp [execOp, ho, ex, ey, eqGuard, binOp, Op.equal, Op.maxDepth, hr]
   ·rw [ex] at hr
    rcases hop with ⟨rfl, rfl⟩ | ⟨rfl, rfl⟩ <;> simp [execOp, ho, ex, ey, eqGuard, binOp, Op.equal, Op.maxDepth, hr]
  have fin : ∀ (q : Bool) (b : Bool), eqH X hp T (opd env x) (opd env y) = some b → (op = .eql ∧ q = b ∨ op = .neq ∧ q = !b) → OpOk P ok B w ρ hp a o (.bool q) .none := by
   intro q b hq hop
   refine .value hI (.bool q) ?_ (.ro (.bool _))
   unfold eqH at hq
   split at hq
   case h_2 =>
    obtain ⟨ad, n, c, ad', n', c', ex, ey, hr⟩ := hN b hq
    rcases hop with ⟨rfl, rfl⟩ | ⟨rfl, rfl⟩ <;> simp [execOp, ho, ex, ey, eqGuard, binOp, Op.equal, Op.maxDepth, hr]
   rename_i b0 hq0
   simp only [Option.some.injEq] at hq
   rw [hq] at hq0
   clear hq
   have hq := hq0
   clear hq0
   have hx := hE x
   have hy := hE y
   unfold eqV at hq
   split at hq
   ·rename_i s1 b1 z1 hTT
    obtain ⟨I, d0, z, hf⟩ := hT.1 _ _ hTT
    have hr := eqK_run (w := w) 9999 hf hq hx hy
    rcases eqK_bool hq with ⟨p, p', e1, e2⟩
    rw [e1] at hx
    rw [e2] at hy
    have ex := hx.bool_inv
    have ey := hy.bool_inv
    rw [ex, ey] at hr
    rcases hop with ⟨rfl, rfl⟩ | ⟨rfl, rfl⟩ <;> simp [execOp, ho, ex, ey, eqGuard, binOp, Op.equal, Op.maxDepth, hr]
   ·rename_i fs s1 b1 z1 hTT
    split at hq
    ·rename_i hc
     split at hq
     ·rename_i xs ys hxx hyy
      obtain ⟨I, d0, z, hf⟩ := hT.1 _ _ hTT
      have hcm := hT.2 T (by simpa using hc)
      rw [hxx] at hx
      rw [hyy] at hy
      obtain ⟨vs, ex, hl, _, hrx⟩ := hx.agg_inv
      obtain ⟨us, ey, hl', _, hry⟩ := hy.agg_inv
      cases d0 <;> first | (have := hf.tk; simp [tkOk] at this; done) | skip
      rename_i fields
      have htk := hf.tk
      simp only [tkOk, Bool.and_eq_true, beq_iff_eq] at htk
      unfold eqOkB at hcm
      rw [hf.under] at hcm
      simp only [Bool.and_eq_true, Bool.not_eq_true'] at hcm
      have hfo : P.fieldsOf T = fields := by simp [Program.fieldsOf, hf.under]
      have hr := eqFs_run (w := w) (ρ := ρ) 9998 hT.1 hl hl' hrx hry fields.toList (fun f hfm => by
       have := Array.all_eq_true_iff_forall_mem.1 hcm.2 f (by simpa using hfm)
       simpa using this) b (by rw [← htk.1]; exact hq)
      have hr2 := run_equalIn_struct (P := P) w 9999 T vs.toArray us.toArray (by rw [hfo]; exact hf.under) hcm.1.1
      rw [hfo, hr] at hr2
      have hg := run_eqGuard_agg (P := P) w
      rcases hop with ⟨rfl, rfl⟩ | ⟨rfl, rfl⟩
      ·simp only [execOp, ho, ex, ey, Sem.run_bind, Sem.run_pure, hg _ _ _ _ _ _ hcm.1.2, Result.andThen_ok, run_eql_struct]; rw [hr2]; rfl
      ·simp only [execOp, ho, ex, ey, Sem.run_bind, Sem.run_pure, hg _ _ _ _ _ _ hcm.1.2, Result.andThen_ok, run_neq_struct]; rw [hr2]; rfl
     ·cases hq
    ·cases hq
   ·cases hq
  cases op <;> simp only [Option.map_eq_some_iff, reduceCtorEq] at h
  ·obtain ⟨b, hb2, h2⟩ := h
   obtain ⟨rfl, rfl⟩ : Ev.V.bool b = v ∧ Eff.none = eff := by simpa using h2
   rcases orE_some' hb2 with hb2 | ⟨_, hb2⟩
   ·exact fin b b hb2 (.inl ⟨rfl, rfl⟩)
   ·exact fin2 b b hb2 (.inl ⟨rfl, rfl⟩)
  ·obtain ⟨b, hb2, h2⟩ := h
   obtain ⟨rfl, rfl⟩ : Ev.V.bool (!b) = v ∧ Eff.none = eff := by simpa using h2
   rcases orE_some' hb2 with hb2 | ⟨_, hb2⟩
   ·exact fin (!b) b hb2 (.inr ⟨rfl, rfl⟩)
   ·exact fin2 (!b) b hb2 (.inr ⟨rfl, rfl⟩)
 | some r =>
  rw [hb] at h
  obtain ⟨rfl, rfl⟩ := some_pair h
  have hx := hE x
  have hy := hE y
  generalize hq : opd env x = X1 at hb hx
  generalize hq' : opd env y = Y1 at hb hy
  unfold binV at hb
  split at hb
  ·rename_i k m k' m'
   have ex := hx.int_inv
   have ey := hy.int_inv
   split at hb
   ·rename_i hk
    subst hk
    cases op <;> simp only at hb <;> first
     | (cases hb; done)
     | (split at hb <;> first
      | (cases hb; done)
      | (rename_i hz; cases hb; refine .value hI _ ?_ (.ro (.int _ _)); simp [execOp, ho, ex, ey, eqGuard, binOp, Op.intDiv, Op.shift, hz]; done))
     | (cases hb; refine .value hI _ ?_ (.ro (.int _ _)); simp [execOp, ho, ex, ey, eqGuard, binOp, Op.intArith]; done)
     | (cases hb; refine .value hI _ ?_ (.ro (.int _ _)); unfold execOp; rw [ho]; simp only [ex, ey, binOp_and, binOp_or, binOp_xor, eqGuard_and, eqGuard_or, eqGuard_xor]; rfl)
     | (cases hb; refine .value hI _ ?_ (.ro (.bool _)); simp [execOp, ho, ex, ey, eqGuard, binOp, Op.intCmp]; done)
   ·cases op <;> simp only at hb <;> first
     | (cases hb; done)
     | (split at hb <;> first
      | (cases hb; done)
      | (rename_i hz; cases hb; refine .value hI _ ?_ (.ro (.int _ _)); simp [execOp, ho, ex, ey, eqGuard, binOp, Op.shift, hz]; done))
  ·rename_i s s'
   have ex := hx.str_inv
   have ey := hy.str_inv
   cases op <;> simp only at hb <;> first
    | (cases hb; done)
    | (split at hb <;> first
     | (cases hb; done)
     | (rename_i hz; cases hb; refine .value hI _ ?_ (.ro (.str _)); simp [execOp, ho, ex, ey, eqGuard, binOp, Op.stringOp]; omega))
    | (cases hb; refine .value hI _ ?_ (.ro (.bool _)); simp [execOp, ho, ex, ey, eqGuard, binOp, Op.stringOp]; done)
  ·cases hb
theorem os_un (hI : Inv ok B w ρ hp) (hE : ∀ x, Rel w (okAt ok B ρ w) ρ (opd env x) (a.eval x)) {op : UnOp} {T : TypeId} {x : Operand} (ho : o.op = .unOp op T x) (h : evalOp X env hp d (.unOp op T x) = some (v, eff)) : OpOk P ok B w ρ hp a o v eff := by
 simp only [evalOp] at h
 cases hb : unV op (opd env x) with
 | none => simp [hb] at h
 | some r =>
  rw [hb] at h
  obtain ⟨rfl, rfl⟩ := some_pair h
  have hx := hE x
  generalize hq : opd env x = X1 at hb hx
  unfold unV at hb
  split at hb
  ·have ex := hx.int_inv
   split at hb
   ·cases hb; exact .value hI _ (by simp [execOp, ho, ex, Op.unary, Op.intArith]) (.ro (.int _ _))
   ·cases hb
  ·have ex := hx.bool_inv
   split at hb
   ·cases hb; exact .value hI _ (by simp [execOp, ho, ex, Op.unary]) (.ro (.bool _))
   ·cases hb
  ·cases hb
end
section
variable {P : Program} {X : Ctx} {ok : Nat → Prop} {B : Nat} {w : World} {ρ : Nat → Option Value} {hp : Hp} {env : Env} {a : Act} {o : Oper} {v : V} {eff : Eff} {d : Nat}
theorem TFact.row {t : TypeId} {i : TI} {I : TypeInfo} {D : TypeDesc} {z : Value} (hf : TFact P t i I D z) : D.isRow = i.k.agg := by
 have h := hf.tk
 cases hk : i.k <;> cases D <;> simp_all [tkOk, TK.agg]
theorem take_drop_get {α : Type} {l : List α} {off n j : Nat} {x : α} (h : ((l.drop off).take n)[j]? = some x) : l[off + j]? = some x ∧ j < n := by
 rw [List.getElem?_take] at h
 split at h
 ·rename_i hlt; rw [List.getElem?_drop] at h; exact ⟨h, hlt⟩
 ·cases h
theorem load_sub {ok : Nat → Prop} {t : TypeId} {i : TI} {I : TypeInfo} {D : TypeDesc} {z : Value} (hf : TFact P t i I D z) {v r : V} {val : Value} {g o off : Nat} (hv : Rel w ok ρ v val)
  (hc : w.rangeAt g o val.cells.toList) (hs : subV i.k.agg i.size off v = some r) :
  ∃ rv, (Instr.loadAt t (.pointer (some ⟨g, o + off, none⟩))).run P w = .ok rv w ∧ Rel w ok ρ r rv := by
 unfold subV at hs
 split at hs
 ·rename_i hst
  obtain ⟨hsz, h1, hcs⟩ := hv.stor_cells hst
  split at hs
  ·rename_i hagg
   split at hs
   ·rename_i hle
    simp at hs
    subst hs
    have hlen : ((val.cells.toList.drop off).take i.size).length = i.size := by simp; omega
    refine ⟨_, run_loadAt_mid w g (o + off) t ((val.cells.toList.drop off).take i.size) D ?_ hf.under (by rw [hf.row]; exact hagg) (by rw [hf.info, hlen]; simp [hf.size]), ?_⟩
    ·intro j u hu
     have := hc (off + j) u (take_drop_get hu).1
     rwa [← Nat.add_assoc] at this
    ·refine .agg _ _ (by rw [hlen]; simp; omega) (fun u hu => ?_) fun j c u hcj hu => ?_
     ·exact h1 u (List.mem_of_mem_drop (List.mem_of_mem_take hu))
     ·exact hcs (off + j) c u (take_drop_get hcj).1 (take_drop_get hu).1
   ·cases hs
  ·rename_i hagg
   split at hs
   ·rename_i c hcc
    split at hs
    ·simp at hs
     subst hs
     have hlt : off < val.cells.toList.length := by have := (List.getElem?_eq_some_iff.1 hcc).1; simp; omega
     have hu := List.getElem?_eq_getElem hlt
     have hcell := hc off _ hu
     refine ⟨_, ?_, hcs off c _ hcc hu⟩
     have hr : (isAgg t).run P w = .ok false w := by
      have := hf.row
      unfold isAgg
      rw [Sem.run_bind, run_underlying hf.under w]
      cases D <;> simp_all [TypeDesc.isRow]
     simp [Instr.loadAt, Instr.sureAddr, loadVar, hr, hcell]
    ·cases hs
   ·cases hs
 ·cases hs
theorem flat_get {sz : Nat} : ∀ {vs : List Value} {i k : Nat} {v : Value}, (∀ v ∈ vs, v.cells.size = sz) → vs[i]? = some v → k < sz → (vs.flatMap (·.cells.toList))[i * sz + k]? = v.cells.toList[k]?
 | [], i, k, v, _, h, _ => by simp at h
 | x :: vs, 0, k, v, hs, h, hk => by
  simp at h
  subst h
  have := hs x (by simp)
  rw [List.flatMap_cons, Nat.zero_mul, Nat.zero_add, List.getElem?_append_left (by simpa using by omega)]
 | x :: vs, i + 1, k, v, hs, h, hk => by
  have hx := hs x (by simp)
  rw [List.flatMap_cons, List.getElem?_append_right (by simp [hx, Nat.add_mul]; omega)]
  have e : (i + 1) * sz + k - x.cells.toList.length = i * sz + k := by simp [hx, Nat.add_mul]; omega
  rw [e]
  exact flat_get (fun v hv => hs v (List.mem_cons_of_mem _ hv)) (by simpa using h) hk
theorem OwnV.elem {ok : Nat → Prop} {T : TypeId} {sz : Nat} {es : List V} {g n cap j : Nat} {e : V} (h : OwnV w ok B T sz (.slice (some ⟨g, 0, none⟩) n cap) es) (he : es[j]? = some e) :
  ∃ ev, RelD w ok e ev ∧ ev.cells.size = sz ∧ (∀ u ∈ ev.cells.toList, u.oneCell' = true) ∧ w.rangeAt g (j * sz) ev.cells.toList := by
 obtain ⟨vs, hl, hs, h1, hr, ho⟩ := h
 have hj : j < vs.length := by have := (List.getElem?_eq_some_iff.1 he).1; omega
 have hv := List.getElem?_eq_getElem hj
 rcases ho with ⟨_, _, rfl⟩ | ho
 ·simp at he
 refine ⟨vs[j], hr j e _ he hv, hs _ (List.getElem_mem hj), h1 _ (List.getElem_mem hj), fun k u hu => ?_⟩
 have hk : k < sz := by have := (List.getElem?_eq_some_iff.1 hu).1; have := hs _ (List.getElem_mem hj); simp at *; omega
 have hg : (Value.slice (some ⟨g, 0, none⟩) n cap).ownBlock = some g := rfl
 have := ho.cells hg (j * sz + k) u (by rw [flat_get hs hv hk]; exact hu)
 rwa [Addr.add_mid, Nat.zero_add] at this
theorem load_val (hT : TOk P X.T) (hI : Inv ok B w ρ hp) {T : TypeId} {x : Operand} {xv : Value} (hx : Rel w (okAt ok B ρ w) ρ (opd env x) xv) (h : evalOp X env hp d (.load T x) = some (v, eff)) :
  eff = .none ∧ ∃ rv, (Instr.loadAt T xv).run P w = .ok rv w ∧ Rel w (okAt ok B ρ w) ρ v rv := by
 simp only [evalOp] at h
 split at h
 ·rename_i i hi
  obtain ⟨I, D, z, hf⟩ := hT T i hi
  split at h
  ·rename_i v0 off hq
   split at h
   ·rename_i r hr
    obtain ⟨rfl, rfl⟩ := some_pair h
    rw [hq] at hx
    have hd := hx.rd_inv
    cases hd with
    | rd _ _ val g o0 hok h1 hc hv =>
     obtain ⟨rv, hrun, hrel⟩ := load_sub (off := off) hf (Rel.ro (ρ := ρ) hv) hc hr
     exact ⟨rfl, rv, hrun, hrel⟩
   ·cases h
  ·rename_i b off hq
   split at h
   ·rename_i v0 hb
    split at h
    ·rename_i r hr
     obtain ⟨rfl, rfl⟩ := some_pair h
     rw [hq] at hx
     obtain ⟨g, hg, he⟩ := hx.ptr_inv
     obtain ⟨sv, hsv, g', val, rfl, _, _, hra, _, _, hrel⟩ := hI.blk b _ hb
     rw [hg] at hsv
     simp at hsv
     subst hsv
     obtain ⟨rv, hrun, hrel'⟩ := load_sub (off := off) hf hrel hra hr
     rw [Nat.zero_add] at hrun
     exact ⟨rfl, rv, by rw [he]; exact hrun, hrel'⟩
    ·cases h
   ·cases h
  ·rename_i b sz j off hq
   split at h
   ·rename_i T' sz' es hb
    split at h
    ·rename_i hsz
     subst hsz
     split at h
     ·rename_i e he
      split at h
      ·rename_i r hr
       obtain ⟨rfl, rfl⟩ := some_pair h
       rw [hq] at hx
       obtain ⟨g, n, cap, hg, hex⟩ := hx.eptr_inv
       obtain ⟨sv, hsv, hpos, hown⟩ := hI.blk b _ hb
       rw [hg] at hsv
       simp at hsv
       subst hsv
       obtain ⟨ev, hrel, hsz, h1, hra⟩ := hown.elem he
       obtain ⟨rv, hrun, hrel'⟩ := load_sub (off := off) hf (Rel.ro (ρ := ρ) hrel) hra hr
       exact ⟨rfl, rv, by rw [hex]; exact hrun, hrel'⟩
      ·cases h
     ·cases h
    ·cases h
   ·cases h
  ·cases h
 ·cases h
theorem os_load (hT : TOk P X.T) (hI : Inv ok B w ρ hp) (hE : ∀ x, Rel w (okAt ok B ρ w) ρ (opd env x) (a.eval x)) {T : TypeId} {x : Operand} (ho : o.op = .load T x) (h : evalOp X env hp d (.load T x) = some (v, eff)) : OpOk P ok B w ρ hp a o v eff := by
 obtain ⟨rfl, rv, hr, hrel⟩ := load_val hT hI (hE x) h
 exact .value hI rv (by simp [execOp, ho, hr]) hrel
end
section
variable {P : Program} {X : Ctx} {ok : Nat → Prop} {B : Nat} {w w' : World} {ρ : Nat → Option Value} {hp : Hp} {env : Env} {a : Act} {o : Oper} {v : V} {eff : Eff} {d : Nat}
theorem size_setCells (g : Nat) : ∀ (vs : List Value) (o : Nat) (w : World), (w.setCells g o vs).heap.size = w.heap.size
 | [], _, _ => rfl
 | v :: r, o, w => by rw [World.setCells, size_setCells g r]; simp
theorem heap_setCells_ne (g : Nat) (k : Nat) (h : k ≠ g) : ∀ (vs : List Value) (o : Nat) (w : World), (w.setCells g o vs).heap[k]? = w.heap[k]?
 | [], _, _ => rfl
 | v :: r, o, w => by rw [World.setCells, heap_setCells_ne g k h r, Below.heap_setCell _ _ _ _ h]
theorem below_setCells (g : Nat) (hg : B ≤ g) : ∀ (vs : List Value) (o : Nat) (w : World), Below B w (w.setCells g o vs)
 | [], _, _ => .refl _ _
 | v :: r, o, w => by rw [World.setCells]; exact ((Below.refl B w).setCell hg v).trans (below_setCells g hg r (o + 1) _)
theorem heap_setCell_at (w : World) (g o : Nat) (v : Value) (cur : Array Value) (T : TypeId) (fr : Nat × Nat) (h : w.heap[g]? = some (.cells cur T fr)) :
  (w.setCell ⟨g, o, none⟩ v).heap[g]? = some (.cells (cur.setIfInBounds o v) T fr) := by
 simp only [World.setCell]
 rw [Array.getElem?_modify, if_pos rfl, h]
 simp
theorem heap_setCells_at (g : Nat) (T : TypeId) (fr : Nat × Nat) : ∀ (vs : List Value) (o : Nat) (w : World) (cur : Array Value), w.heap[g]? = some (.cells cur T fr) → o + vs.length ≤ cur.size →
  ∃ cur', (w.setCells g o vs).heap[g]? = some (.cells cur' T fr) ∧ cur'.size = cur.size ∧ ∀ j, cur'[j]? = if o ≤ j ∧ j < o + vs.length then vs[j - o]? else cur[j]?
 | [], o, w, cur, h, _ => ⟨cur, h, rfl, fun j => by rw [if_neg (by simp only [List.length_nil]; omega)]⟩
 | v :: r, o, w, cur, h, hl => by
  simp at hl
  obtain ⟨cur', h1, h2, h3⟩ := heap_setCells_at g T fr r (o + 1) (w.setCell ⟨g, o, none⟩ v) _ (heap_setCell_at w g o v cur T fr h) (by simp; omega)
  refine ⟨cur', h1, by simpa using h2, fun j => ?_⟩
  rw [h3 j]
  by_cases hj : j = o
  ·subst hj
   rw [if_neg (by omega), if_pos (by simp), Nat.sub_self, Array.getElem?_setIfInBounds, if_pos rfl, if_pos (by omega)]
   rfl
  ·by_cases hj2 : o + 1 ≤ j ∧ j < o + 1 + r.length
   ·rw [if_pos hj2, if_pos (by simp; omega)]
    rw [show j - o = (j - (o + 1)) + 1 by omega]
    simp
   ·rw [if_neg hj2, if_neg (by simp; omega), Array.getElem?_setIfInBounds_ne (by omega)]
theorem run_storeAt_any {t : TypeId} {i : TI} {I : TypeInfo} {D : TypeDesc} {z : Value} (hf : TFact P t i I D z) (g off : Nat) (val : Value) (hsz : val.cells.size = i.size)
  (ht : w.there g off val.cells.size) (h1 : ∀ u ∈ val.cells.toList, u.oneCell' = true) :
  (Instr.storeAt t (.pointer (some ⟨g, off, none⟩)) val).run P w = .ok () (w.setCells g off val.cells.toList) := by
 have := run_storeCells_cells (P := P) g off val.cells.toList 0 w (fun j hj => by simpa using (ht j (by simpa using hj)).1) (fun j hj => by simpa using (ht j (by simpa using hj)).2) h1
 simp only [Nat.add_zero] at this
 simp [Instr.storeAt, Instr.sureAddr, storeVar, sizeOf, typeInfo, hf.info, hf.size, hsz, this]
def putL {α : Type} (off : Nat) (x l : List α) : List α := l.take off ++ x ++ l.drop (off + x.length)
theorem putL_length {α : Type} {off : Nat} {x l : List α} (h : off + x.length ≤ l.length) : (putL off x l).length = l.length := by simp [putL]; omega
theorem putL_get {α : Type} {off : Nat} {x l : List α} (h : off + x.length ≤ l.length) (j : Nat) : (putL off x l)[j]? = if off ≤ j ∧ j < off + x.length then x[j - off]? else l[j]? := by
 unfold putL
 by_cases h1 : j < off
 ·rw [if_neg (by omega), List.append_assoc, List.getElem?_append_left (by simp; omega), List.getElem?_take, if_pos h1]
 ·by_cases h2 : j < off + x.length
  ·rw [if_pos (by omega), List.append_assoc, List.getElem?_append_right (by simp; omega), List.getElem?_append_left (by simp; omega)]
   simp only [List.length_take]
   rw [show min off l.length = off by omega]
  ·rw [if_neg (by omega), List.getElem?_append_right (by simp; omega), List.getElem?_drop]
   simp only [List.length_append, List.length_take]
   rw [show off + x.length + (j - (min off l.length + x.length)) = j by omega]
theorem putV_spec {off : Nat} {x v v' : V} (h : putV off x v = some v') (hst : stor v = true) (_hx : stor x = true) : off + x.cells.length ≤ v.cells.length ∧ v'.cells = putL off x.cells v.cells ∧ stor v' = true := by
 unfold putV at h
 split at h
 ·rename_i cs
  split at h
  ·rename_i hle
   cases h
   exact ⟨hle, rfl, rfl⟩
  ·cases h
 ·rename_i hna
  split at h
  ·rename_i hc
   simp at h hc
   subst h
   obtain ⟨⟨h1, h2⟩, rfl⟩ := hc
   rw [scalar_cells h1, scalar_cells h2]
   exact ⟨by simp, by simp [putL], by simp [stor, h2]⟩
  ·cases h
theorem put_rel {off : Nat} {x v v' : V} {xv val : Value} (h : putV off x v = some v') (hst : stor v = true) (hx : stor x = true) (hrx : Rel w ok ρ x xv) (hrv : Rel w ok ρ v val) :
  ∃ val', Rel w ok ρ v' val' ∧ val'.cells.toList = putL off xv.cells.toList val.cells.toList ∧ off + xv.cells.size ≤ val.cells.size ∧ val'.cells.size = val.cells.size ∧ (∀ u ∈ val'.cells.toList, u.oneCell' = true) := by
 obtain ⟨hle, hcs, hst'⟩ := putV_spec h hst hx
 obtain ⟨sx, ox, rx⟩ := hrx.stor_cells hx
 obtain ⟨sv, ov, rv⟩ := hrv.stor_cells hst
 have hle' : off + xv.cells.toList.length ≤ val.cells.toList.length := by simp; omega
 have one : ∀ u ∈ putL off xv.cells.toList val.cells.toList, u.oneCell' = true := by
  intro u hu
  unfold putL at hu
  rcases List.mem_append.1 hu with hu | hu
  ·rcases List.mem_append.1 hu with hu | hu
   ·exact ov u (List.mem_of_mem_take hu)
   ·exact ox u hu
  ·exact ov u (List.mem_of_mem_drop hu)
 obtain ⟨val', hv', hr'⟩ := Rel.of_cells (w := w) (ok := ok) (ρ := ρ) (v := v') (xs := putL off xv.cells.toList val.cells.toList) hst' (by rw [hcs, putL_length hle', putL_length hle]; simp; omega) one (fun j c u hc hu => by
  rw [hcs, putL_get hle] at hc
  rw [putL_get hle'] at hu
  simp only [Array.length_toList, sx] at hu
  split at hc
  ·rename_i hj; rw [if_pos hj] at hu; exact rx _ c u hc hu
  ·rename_i hj; rw [if_neg hj] at hu; exact rv _ c u hc hu)
 refine ⟨val', hr', hv', by omega, ?_, by rw [hv']; exact one⟩
 have : val'.cells.toList.length = val.cells.toList.length := by rw [hv', putL_length hle']
 simpa using this
theorem write_ok (h : Inv ok B w ρ hp) (b : Nat) (sv : Value) (hr : ρ b = some sv) (hs : w'.heap.size = w.heap.size) (hkeep : ∀ g, g < w.heap.size → own sv ≠ some g → w'.heap[g]? = w.heap[g]?) :
  ∀ g, okAt ok B ρ w g → okAt ok B ρ w' g ∧ w'.heap[g]? = w.heap[g]? := by
 intro g hg
 obtain ⟨ho, hlt, hno⟩ := hg
 exact ⟨⟨ho, by omega, hno⟩, hkeep g hlt (hno b sv hr)⟩
theorem range_set {g o off : Nat} {xs l : List Value} (h : w.rangeAt g o l) (ht : w.there g o l.length) (hle : off + xs.length ≤ l.length) :
  (w.setCells g (o + off) xs).rangeAt g o (putL off xs l) := by
 intro j u hu
 rw [putL_get hle] at hu
 split at hu
 ·rename_i hj
  have hlt : j - off < xs.length := by omega
  have := World.cell?_setCells_in g xs (o + off) w (fun i hi => by have := (ht (off + i) (by omega)).1; rwa [← Nat.add_assoc] at this) (j - off) hlt
  rw [show o + off + (j - off) = o + j by omega] at this
  rw [this, ← hu, List.getElem?_eq_getElem hlt]
 ·rename_i hj
  rw [World.cell?_setCells_out g xs (o + off) w ⟨g, o + j, none⟩ (fun _ _ => by show o + j < o + off ∨ o + off + xs.length ≤ o + j; omega)]
  exact h j u hu
theorem there_set {g o o' n : Nat} {xs : List Value} (ht : w.there g o n) : (w.setCells g o' xs).there g o n := fun j hj =>
 ⟨World.isSome_setCells g xs o' w _ (ht j hj).1, by rw [World.frozen?_setCells]; exact (ht j hj).2⟩
theorem take_eq {α : Type} {l l' : List α} (hl : l.length = l'.length) (h : ∀ j, j < l.length → l[j]? = l'[j]?) : l = l' := by
 apply List.ext_getElem? fun j => ?_
 by_cases hj : j < l.length
 ·exact h j hj
 ·rw [List.getElem?_eq_none (by omega), List.getElem?_eq_none (by omega)]
theorem flat_length {sz : Nat} : ∀ {vs : List Value}, (∀ v ∈ vs, v.cells.size = sz) → (vs.flatMap (·.cells.toList)).length = vs.length * sz
 | [], _ => by simp
 | x :: vs, h => by
  have := flat_length (vs := vs) (fun v hv => h v (List.mem_cons_of_mem _ hv))
  rw [List.flatMap_cons, List.length_append, this]
  simp [h x (by simp), Nat.add_mul]; omega
theorem OwnV.set {ok ok' : Nat → Prop} {T : TypeId} {sz : Nat} {es : List V} {g n cap j off : Nat} {e e' : V} {ev ev' xv : Value} (hpos : 0 < sz) (h : OwnV w ok B T sz (.slice (some ⟨g, 0, none⟩) n cap) es)
  (he : es[j]? = some e) (hev : w.rangeAt g (j * sz) ev.cells.toList) (hsz : ev.cells.size = sz)
  (hk : ∀ g', ok g' → ok' g' ∧ (w.setCells g (j * sz + off) xv.cells.toList).heap[g']? = w.heap[g']?)
  (hr : RelD (w.setCells g (j * sz + off) xv.cells.toList) ok' e' ev') (hc : ev'.cells.toList = putL off xv.cells.toList ev.cells.toList) (hle : off + xv.cells.size ≤ ev.cells.size)
  (h1' : ∀ u ∈ ev'.cells.toList, u.oneCell' = true) : OwnV (w.setCells g (j * sz + off) xv.cells.toList) ok' B T sz (.slice (some ⟨g, 0, none⟩) n cap) (es.set j e') := by
 obtain ⟨vs, hl, hs, h1, hrr, ho⟩ := h
 have hjlt : j < es.length := (List.getElem?_eq_some_iff.1 he).1
 have hj : j < vs.length := by omega
 have hszev : ev'.cells.size = sz := by
  have : ev'.cells.toList.length = ev.cells.toList.length := by rw [hc, putL_length (by simpa using hle)]
  simp at this; omega
 rcases ho with ⟨_, _, rfl⟩ | ho
 ·simp at he
 refine ⟨vs.set j ev', by simpa using hl, fun v hv => ?_, fun v hv => ?_, fun i c u hc' hu => ?_, .inr ?_⟩
 ·rcases List.mem_or_eq_of_mem_set hv with hv | rfl
  ·exact hs v hv
  ·exact hszev
 ·rcases List.mem_or_eq_of_mem_set hv with hv | rfl
  ·exact h1 v hv
  ·exact h1'
 ·rw [List.getElem?_set] at hc' hu
  split at hc'
  ·rename_i hij
   subst hij
   rw [if_pos rfl, if_pos hj] at hu
   simp at hc' hu
   subst hc'; subst hu
   exact hr
  ·rename_i hij
   rw [if_neg hij] at hu
   exact (hrr i c u hc' hu).mono hk
 ·have hsv : ∀ v ∈ vs.set j ev', v.cells.size = sz := fun v hv => by
   rcases List.mem_or_eq_of_mem_set hv with hv | rfl
   ·exact hs v hv
   ·exact hszev
  refine ⟨by rw [flat_length hsv]; simp [hl], ?_⟩
  rcases ho.2 with ⟨hn, _⟩ | ⟨g', cap', cur, heq, hb, hg, hle1, hmx, hcsz, htk⟩
  ·cases hn
  ·simp at heq
   obtain ⟨rfl, rfl, rfl⟩ := heq
   have hbound : j * sz + sz ≤ es.length * sz := by
    have := Nat.mul_le_mul_right sz (show j + 1 ≤ es.length by omega)
    rw [Nat.add_mul, Nat.one_mul] at this
    exact this
   have hcap : es.length * sz ≤ cap * sz := Nat.mul_le_mul_right sz hle1
   obtain ⟨cur', hg', hsz', hget⟩ := heap_setCells_at g T (0, 0) xv.cells.toList (j * sz + off) w cur hg (by simp; omega)
   right
   refine ⟨g, cap, cur', by simp, hb, hg', by simpa using hle1, hmx, by omega, ?_⟩
   have hlen : (cur'.toList.take ((es.set j e').length * sz)).length = es.length * sz := by simp; omega
   apply take_eq
   ·rw [hlen, flat_length hsv]; simp [hl]
   ·intro m hm
    rw [hlen] at hm
    have hi : m / sz < es.length := Nat.div_lt_of_lt_mul (by rwa [Nat.mul_comm] at hm)
    have hk' : m % sz < sz := Nat.mod_lt _ hpos
    have hme : m / sz * sz + m % sz = m := by rw [Nat.mul_comm]; exact Nat.div_add_mod m sz
    rw [List.getElem?_take, if_pos (by simpa using hm)]
    have hcur : cur'.toList[m]? = cur'[m]? := by simp
    rw [hcur, hget m]
    have hold : cur[m]? = (vs.flatMap (·.cells.toList))[m]? := by
     rw [← htk, List.getElem?_take, if_pos hm]; simp
    have hiv : m / sz < vs.length := by omega
    have hnew : ((vs.set j ev').flatMap (·.cells.toList))[m]? = ((vs.set j ev')[m / sz]'(by simpa using hiv)).cells.toList[m % sz]? := by
     have := flat_get hsv (List.getElem?_eq_getElem (show m / sz < (vs.set j ev').length by simpa using hiv)) hk'
     rwa [hme] at this
    have hold2 : (vs.flatMap (·.cells.toList))[m]? = (vs[m / sz]).cells.toList[m % sz]? := by
     have := flat_get hs (List.getElem?_eq_getElem hiv) hk'
     rwa [hme] at this
    rw [hnew]
    by_cases hij : m / sz = j
    ·have hset : ((vs.set j ev')[m / sz]'(by simpa using hiv)) = ev' := by
      simp [hij]
     rw [hset, hc, putL_get (by simpa using hle)]
     have hmj : m = j * sz + m % sz := by rw [← hij]; exact hme.symm
     have hevv : ev.cells.toList[m % sz]? = cur[m]? := by
      have hlt : m % sz < ev.cells.toList.length := by simp; omega
      have h5 := hev (m % sz) _ (List.getElem?_eq_getElem hlt)
      rw [cell_of_row w g (j * sz + m % sz) cur T (0, 0) hg, ← hmj] at h5
      rw [h5, List.getElem?_eq_getElem hlt]
     simp only [Array.length_toList]
     by_cases hin : off ≤ m % sz ∧ m % sz < off + xv.cells.size
     ·rw [if_pos (by omega), if_pos hin]
      congr 1
      omega
     ·rw [if_neg (by omega), if_neg hin, hevv]
    ·have hset : ((vs.set j ev')[m / sz]'(by simpa using hiv)) = vs[m / sz] := by
      rw [List.getElem_set]; rw [if_neg (by omega)]
     rw [hset, ← hold2, ← hold, if_neg]
     simp only [Array.length_toList]
     intro hcon
     rcases Nat.lt_or_gt_of_ne hij with hlt | hgt
     ·have : (m / sz + 1) * sz ≤ j * sz := Nat.mul_le_mul_right sz (by omega)
      rw [Nat.add_mul, Nat.one_mul] at this
      omega
     ·have : (j + 1) * sz ≤ m / sz * sz := Nat.mul_le_mul_right sz (by omega)
      rw [Nat.add_mul, Nat.one_mul] at this
      omega
end
section
variable {P : Program} {X : Ctx} {ok : Nat → Prop} {B : Nat} {w w' : World} {ρ : Nat → Option Value} {hp : Hp} {env : Env} {a : Act} {o : Oper} {v : V} {eff : Eff} {d : Nat}
theorem os_store (hT : TOk P X.T) (hI : Inv ok B w ρ hp) (hE : ∀ x, Rel w (okAt ok B ρ w) ρ (opd env x) (a.eval x)) {T : TypeId} {x y : Operand} (ho : o.op = .store T x y) (h : evalOp X env hp d (.store T x y) = some (v, eff)) : OpOk P ok B w ρ hp a o v eff := by
 simp only [evalOp] at h
 have hx := hE x
 have hy := hE y
 have hye := hy
 split at h
 ·rename_i i hi
  obtain ⟨I, D, z, hf⟩ := hT T i hi
  split at h
  ·rename_i hc
   obtain ⟨hylen, hyst⟩ := hc
   obtain ⟨ysz, yone, _⟩ := hy.stor_cells hyst
   have fin : ∀ w1, (Instr.storeAt T (a.eval x) (a.eval y)).run P w = .ok () w1 → (execOp a.eval o).run P w = .ok .skip w1 := fun w1 hr => by simp [execOp, ho, hr]
   split at h
   ·rename_i b off hq
    split at h
    ·rename_i v0 hb
     split at h
     ·rename_i v' hput
      obtain ⟨rfl, rfl⟩ := some_pair h
      rw [hq] at hx
      obtain ⟨g, hg, he⟩ := hx.ptr_inv
      obtain ⟨sv, hsv, g', val, rfl, hBg, hlt, hra, hth, h1, hrel⟩ := hI.blk b _ hb
      rw [hg] at hsv
      simp at hsv
      subst hsv
      have hst0 : stor v0 = true := by
       by_cases hs0 : stor v0 = true
       ·exact hs0
       ·exfalso
        unfold putV at hput
        split at hput
        ·simp [stor, isAggV] at hs0
        ·split at hput
         ·rename_i hcc; simp [stor] at hs0 hcc; rw [hs0.1] at hcc; simp at hcc
         ·cases hput
      obtain ⟨val', hr', hc', hle, hsz', h1'⟩ := put_rel hput hst0 hyst hy hrel
      have hrun := run_storeAt_any (P := P) (w := w) hf g off (a.eval y) (by omega) (fun j hj => by have := hth (off + j) (by omega); rwa [← Nat.add_assoc, Nat.zero_add] at this) yone
      have hok := write_ok (w' := w.setCells g off (a.eval y).cells.toList) hI b _ hg (size_setCells _ _ _ _) (fun k _ hk => heap_setCells_ne g k (by intro e; apply hk; simp [own, e]) _ _ _)
      have hw := hI.write (w' := w.setCells g off (a.eval y).cells.toList) b _ (.box v') hg (size_setCells _ _ _ _) (fun k _ hk => heap_setCells_ne g k (by intro e; apply hk; simp [own, e]) _ _ _) ⟨g, val', rfl, hBg, by rw [size_setCells]; exact hlt, ?_, ?_, h1', hr'.mono hok fun _ _ h => h⟩
      ·exact .skip (fin _ (by rw [he]; exact hrun)) ⟨below_setCells g hBg _ _ _, hw.1, hw.2, fun k _ hk => heap_setCells_ne g k (by intro e; exact hk b _ hg (by simp [own, e])) _ _ _, fun b sv g h1 h2 => .inr ⟨b, sv, h1, h2⟩, fun _ _ => rfl, by rw [size_setCells]; exact Nat.le_refl _⟩
      ·rw [hc']
       have := range_set (off := off) (xs := (a.eval y).cells.toList) hra (by simpa using hth) (by simpa using hle)
       rwa [Nat.zero_add] at this
      ·rw [hsz']; exact there_set hth
     ·cases h
    ·cases h
   ·rename_i b sz j off hq
    split at h
    ·rename_i Te sz' es hb
     split at h
     ·rename_i hcc
      obtain ⟨rfl, hyd⟩ := hcc
      split at h
      ·rename_i e he
       split at h
       ·rename_i e' hput
        obtain ⟨rfl, rfl⟩ := some_pair h
        rw [hq] at hx
        obtain ⟨g, n, cap, hg, hex⟩ := hx.eptr_inv
        obtain ⟨sv, hsv, hpos, hown⟩ := hI.blk b _ hb
        rw [hg] at hsv
        simp at hsv
        subst hsv
        obtain ⟨ev, hrel, hsz, h1, hra⟩ := hown.elem he
        have hst0 : stor e = true := by
         by_cases hs0 : stor e = true
         ·exact hs0
         ·exfalso
          unfold putV at hput
          split at hput
          ·simp [stor, isAggV] at hs0
          ·split at hput
           ·rename_i hcc; simp [stor] at hs0 hcc; rw [hs0.1] at hcc; simp at hcc
           ·cases hput
        obtain ⟨ev', hr', hc', hle, hsz', h1'⟩ := put_rel (ρ := fun _ => none) hput hst0 hyst (.ro (hy.toD hyd)) (.ro hrel)
        have hd' : V.data e' = true ∨ True := .inr trivial
        have hrd : RelD w (okAt ok B ρ w) e' ev' := by
         clear hd'
         have : ∀ (v : V) (u : Value), Rel w (okAt ok B ρ w) (fun _ => none) v u → RelD w (okAt ok B ρ w) v u := by
          intro v u hvu
          induction hvu with
          | ro h => exact h
          | ptr _ _ _ h => cases h
          | eptr _ _ _ _ _ _ _ h => cases h
          | vec _ _ h => cases h
          | sub _ _ _ _ _ _ _ _ _ h => cases h
          | agg cs vs hl h1 _ ih => exact .agg cs vs hl h1 ih
          | tup cs vs hl _ ih => exact .tup cs vs hl ih
          | fn f cs vs hl _ ih => exact .fn f cs vs hl ih
          | ifc t v val _ ih => exact .ifc t v val ih
         exact this _ _ hr'
        have hjlt : j < es.length := (List.getElem?_eq_some_iff.1 he).1
        have hblk : ∃ cur, w.heap[g]? = some (.cells cur Te (0, 0)) ∧ j * sz + sz ≤ cur.size ∧ B ≤ g ∧ cap ≠ 0 := by
         obtain ⟨vs, hl, _, _, _, hoo⟩ := hown
         rcases hoo with ⟨_, _, rfl⟩ | hoo
         ·simp at he
         rcases hoo.2 with ⟨hn, _⟩ | ⟨g', cap', cur, heq, hbb, hgg, hle1, hmx, hcsz, htk⟩
         ·cases hn
         ·simp at heq
          obtain ⟨rfl, rfl, rfl⟩ := heq
          refine ⟨cur, hgg, ?_, hbb, by omega⟩
          have := Nat.mul_le_mul_right sz (show j + 1 ≤ cap by omega)
          rw [Nat.add_mul, Nat.one_mul] at this
          omega
        obtain ⟨cur, hgg, hfit, hBg, hcap⟩ := hblk
        have hownv : own (.slice (some ⟨g, 0, none⟩) n cap) = some g := by simp [own, hcap]
        have hrun := run_storeAt_any (P := P) (w := w) hf g (j * sz + off) (a.eval y) (by omega) (fun k hk => by
         rw [cell_of_row w g (j * sz + off + k) cur Te (0, 0) hgg]
         refine ⟨by rw [Array.getElem?_eq_getElem (by omega)]; rfl, by simp [World.frozen?, hgg]⟩) yone
        have hok := write_ok (w' := w.setCells g (j * sz + off) (a.eval y).cells.toList) hI b _ hg (size_setCells _ _ _ _) (fun k _ hk => heap_setCells_ne g k (by intro e; apply hk; rw [hownv, e]) _ _ _)
        have hw := hI.write (w' := w.setCells g (j * sz + off) (a.eval y).cells.toList) b _ (.vec Te sz (es.set j e')) hg (size_setCells _ _ _ _) (fun k _ hk => heap_setCells_ne g k (by intro e; apply hk; rw [hownv, e]) _ _ _)
         ⟨hpos, hown.set hpos he hra hsz hok (hrd.mono hok) hc' hle h1'⟩
        exact .skip (fin _ (by rw [hex]; exact hrun)) ⟨below_setCells g hBg _ _ _, hw.1, hw.2, fun k _ hk => heap_setCells_ne g k (by intro e; exact hk b _ hg (by rw [hownv, e])) _ _ _, fun b sv g h1 h2 => .inr ⟨b, sv, h1, h2⟩, fun _ _ => rfl, by rw [size_setCells]; exact Nat.le_refl _⟩
       ·cases h
      ·cases h
     ·cases h
    ·cases h
   ·cases h
  ·cases h
 ·cases h
theorem os_fieldAddr (hT : TOk P X.T) (hI : Inv ok B w ρ hp) (hE : ∀ x, Rel w (okAt ok B ρ w) ρ (opd env x) (a.eval x)) {T : TypeId} {x : Operand} {f : Nat} (ho : o.op = .fieldAddr T x f) (h : evalOp X env hp d (.fieldAddr T x f) = some (v, eff)) : OpOk P ok B w ρ hp a o v eff := by
 simp only [evalOp] at h
 have hx := hE x
 split at h
 ·rename_i fs _ _ _ hi
  obtain ⟨I, D, z, hf⟩ := hT T _ hi
  have htk := hf.tk
  unfold tkOk at htk
  cases D <;> simp at htk
  rename_i fields
  obtain ⟨htk, _⟩ := htk
  split at h
  ·rename_i off fsz ft hff
   rw [htk, List.getElem?_map] at hff
   cases hfld : fields[f]? with
   | none => simp [hfld] at hff
   | some fd =>
    simp [hfld] at hff
    obtain ⟨hoff, hsz, _⟩ := hff
    split at h
    ·cases h
    rename_i hne
    have hsome : ∃ fi, P.info? fd.type = some fi ∧ fi.size ≠ 0 := by
     unfold Program.cellsOf at hsz
     cases hfi : P.info? fd.type with
     | none => simp [hfi] at hsz; omega
     | some fi => simp [hfi] at hsz; exact ⟨fi, rfl, by omega⟩
    obtain ⟨fi, hfi, hfs⟩ := hsome
    have fin : ∀ g o1, a.eval x = .pointer (some ⟨g, o1, none⟩) → (execOp a.eval o).run P w = .ok (.value (.pointer (some ⟨g, o1 + off, none⟩))) w := fun g o1 he => by
     simp [execOp, ho, he, Instr.fieldAt, run_underlying hf.under, hfld, Instr.sureAddr, fieldPlace, hoff, sizeOf, typeInfo, hfi, hfs, Addr.add_mid]
    split at h
    ·rename_i b o1 hq
     obtain ⟨rfl, rfl⟩ := some_pair h
     rw [hq] at hx
     obtain ⟨g, hg, he⟩ := hx.ptr_inv
     exact .value hI _ (fin g o1 he) (.ptr b _ g hg)
    ·rename_i b sz j o1 hq
     obtain ⟨rfl, rfl⟩ := some_pair h
     rw [hq] at hx
     obtain ⟨g, n, cap, hg, he⟩ := hx.eptr_inv
     exact .value hI _ (fin g _ he) (by rw [Nat.add_assoc]; exact .eptr b sz j _ g n cap hg)
    ·rename_i v0 o1 hq
     obtain ⟨rfl, rfl⟩ := some_pair h
     rw [hq] at hx
     have hd := hx.rd_inv
     generalize hxv : a.eval x = xv at hd fin
     cases hd with
     | rd _ _ val g o0 hok h1 hc hv =>
      exact .value hI _ (fin g (o0 + o1) rfl) (.ro (by rw [Nat.add_assoc]; exact .rd v0 _ val g o0 hok h1 hc hv))
    ·cases h
  ·cases h
 ·cases h
theorem os_indexAddr (hT : TOk P X.T) (hI : Inv ok B w ρ hp) (hE : ∀ x, Rel w (okAt ok B ρ w) ρ (opd env x) (a.eval x)) {T : TypeId} {x y : Operand} (ho : o.op = .indexAddr T x y) (h : evalOp X env hp d (.indexAddr T x y) = some (v, eff)) : OpOk P ok B w ρ hp a o v eff := by
 simp only [evalOp] at h
 have hx := hE x
 have hy := hE y
 split at h
 ·rename_i e _ _ _ k n hi hqy
  obtain ⟨I, D, z, hf⟩ := hT T _ hi
  have htk := hf.tk
  unfold tkOk at htk
  cases D <;> simp at htk
  subst htk
  rw [hqy] at hy
  have ey := hy.int_inv
  split at h
  ·rename_i ie sz es hie hq
   obtain ⟨I2, D2, z2, hf2⟩ := hT e ie hie
   rw [hq] at hx
   split at h
   ·rename_i hsz
    split at h
    ·rename_i j hj
     split at h
     ·rename_i el hel
      obtain ⟨rfl, rfl⟩ := some_pair h
      unfold idx at hj
      split at hj
      ·rename_i hb
       simp at hj
       have hd := hx.row_inv
       generalize hxv : a.eval x = xv at hd
       cases hd with
       | nil => simp at hel
       | row _ _ g o0 cap vs hok hcap hmax hl hvsz h1 hc hr =>
        have hjlt : j < vs.length := by have := (List.getElem?_eq_some_iff.1 hel).1; omega
        have hv := List.getElem?_eq_getElem hjlt
        refine .value hI (.pointer (some ⟨g, o0 + j * sz + 0, none⟩)) ?_ (.ro (.rd el 0 vs[j] g _ hok (h1 _ (List.getElem_mem hjlt)) (hc j _ hv) (hr j el _ hel hv)))
        simp [execOp, ho, hxv, ey, Instr.indexAt, asIntOf, run_underlying hf.under, hb, sizeOf, typeInfo, hf2.info, hf2.size, hsz, hj, Addr.add_mid]
      ·cases hj
     ·cases h
    ·cases h
   ·cases h
  ·rename_i ie b hie hq
   obtain ⟨I2, D2, z2, hf2⟩ := hT e ie hie
   rw [hq] at hx
   split at h
   ·rename_i Te sz es hb'
    split at h
    ·rename_i hsz
     split at h
     ·rename_i j hj
      obtain ⟨rfl, rfl⟩ := some_pair h
      unfold idx at hj
      split at hj
      ·rename_i hb
       simp at hj
       have hr := hx.vec_inv
       obtain ⟨sv, hsv, hpos, hown⟩ := hI.blk b _ hb'
       rw [hr] at hsv
       simp at hsv
       have hform : ∃ g cap, a.eval x = .slice (some ⟨g, 0, none⟩) es.length cap := by
        obtain ⟨vs, hl, _, _, _, hoo⟩ := hown
        rcases hoo with ⟨_, _, rfl⟩ | hoo
        ·simp at hb; omega
        rcases hoo.2 with ⟨hn, hz⟩ | ⟨g', cap', cur, heq, _⟩
        ·omega
        ·exact ⟨g', cap', by rw [hsv]; exact heq⟩
       obtain ⟨g, cap, hex⟩ := hform
       refine .value hI (.pointer (some ⟨g, j * sz + 0, none⟩)) ?_ (.eptr b sz j 0 g es.length cap (by rw [hr, hex]))
       simp [execOp, ho, hex, ey, Instr.indexAt, asIntOf, run_underlying hf.under, hb, sizeOf, typeInfo, hf2.info, hf2.size, hsz, hj, Addr.add_mid]
      ·cases hj
     ·cases h
    ·cases h
   ·cases h
  ·rename_i ie b sz lo k0 hie hq
   obtain ⟨I2, D2, z2, hf2⟩ := hT e ie hie
   rw [hq] at hx
   split at h
   ·rename_i hsz
    split at h
    ·rename_i j hj
     obtain ⟨rfl, rfl⟩ := some_pair h
     unfold idx at hj
     split at hj
     ·rename_i hb
      simp at hj
      obtain ⟨g, n0, cap, c, ad, hg, hex, _, _, hkc, _, ha⟩ := hx.sub_inv
      have had := ha.resolve_left (by omega)
      subst had
      refine .value hI (.pointer (some ⟨g, (lo + j) * sz + 0, none⟩)) ?_ (.eptr b sz (lo + j) 0 g n0 cap hg)
      simp [execOp, ho, hex, ey, Instr.indexAt, asIntOf, run_underlying hf.under, hb, sizeOf, typeInfo, hf2.info, hf2.size, hsz, hj, Addr.add_mid, Nat.add_mul]
     ·cases hj
    ·cases h
   ·cases h
  ·cases h
 ·rename_i m e _ _ _ k n hi hqy
  obtain ⟨I, D, z, hf⟩ := hT T _ hi
  have htk := hf.tk
  unfold tkOk at htk
  cases D <;> simp at htk
  obtain ⟨rfl, rfl⟩ := htk
  rw [hqy] at hy
  have ey := hy.int_inv
  split at h
  ·rename_i ie b o1 hie hq
   obtain ⟨I2, D2, z2, hf2⟩ := hT _ ie hie
   rw [hq] at hx
   split at h
   ·rename_i j hj
    obtain ⟨rfl, rfl⟩ := some_pair h
    unfold idx at hj
    split at hj
    ·rename_i hb
     simp at hj
     obtain ⟨g, hg, he⟩ := hx.ptr_inv
     refine .value hI (.pointer (some ⟨g, o1 + j * ie.size, none⟩)) ?_ (.ptr b _ g hg)
     simp [execOp, ho, he, ey, Instr.indexAt, Instr.sureAddr, asIntOf, run_underlying hf.under, hb, sizeOf, typeInfo, hf2.info, hf2.size, hj, Addr.add_mid]
    ·cases hj
   ·cases h
  ·cases h
 ·cases h
theorem os_index (hT : TOk P X.T) (hI : Inv ok B w ρ hp) (hE : ∀ x, Rel w (okAt ok B ρ w) ρ (opd env x) (a.eval x)) {T : TypeId} {x y : Operand} (ho : o.op = .index T x y) (h : evalOp X env hp d (.index T x y) = some (v, eff)) : OpOk P ok B w ρ hp a o v eff := by
 simp only [evalOp] at h
 have hx := hE x
 have hy := hE y
 split at h
 ·rename_i _ _ _ s k n hi hqx hqy
  obtain ⟨I, D, z, hf⟩ := hT T _ hi
  have htk := hf.tk
  unfold tkOk at htk
  cases D <;> simp at htk
  rw [hqy] at hy
  rw [hqx] at hx
  have ey := hy.int_inv
  have ex := hx.str_inv
  split at h
  ·rename_i hn
   split at h
   ·rename_i c hc
    obtain ⟨rfl, rfl⟩ := some_pair h
    refine .value hI (.int .u8 c.toNat) ?_ (.ro (.int _ _))
    simp [execOp, ho, ex, ey, Instr.index, asIntOf, run_underlying hf.under, hn, hc]
   ·cases h
  ·cases h
 ·rename_i m e _ _ _ cs k n hi hqx hqy
  obtain ⟨I, D, z, hf⟩ := hT T _ hi
  have htk := hf.tk
  unfold tkOk at htk
  cases D <;> simp at htk
  obtain ⟨rfl, rfl⟩ := htk
  rw [hqy] at hy
  have ey := hy.int_inv
  rw [hqx] at hx
  obtain ⟨vs, hex, hl, h1, hr⟩ := hx.agg_inv
  split at h
  ·rename_i ie j hi2 hj
   obtain ⟨I2, D2, z2, hf2⟩ := hT _ ie hi2
   unfold idx at hj
   split at hj
   ·rename_i hb
    simp at hj
    split at h
    ·rename_i r hsub
     obtain ⟨rfl, rfl⟩ := some_pair h
     unfold subV at hsub
     simp only [stor, isAggV, Bool.or_true, if_true] at hsub
     have hcells : (V.agg cs).cells = cs := rfl
     have hrow := hf2.row
     have hisagg : (isAgg e).run P w = .ok ie.k.agg w := by
      unfold isAgg
      rw [Sem.run_bind, run_underlying hf2.under w]
      cases D2 <;> simp_all [TypeDesc.isRow]
     split at hsub
     ·rename_i hagg
      by_cases hle : j * ie.size + ie.size ≤ (V.agg cs).cells.length
      ·rw [if_pos hle] at hsub
       cases hsub
       refine .value hI (.agg ((vs.drop (j * ie.size)).take ie.size).toArray) ?_ (.agg _ _ (by rw [hcells]; simp; omega) (fun u hu => h1 u (List.mem_of_mem_drop (List.mem_of_mem_take hu))) fun j c u hc hu => hr _ c u (take_drop_get hc).1 (take_drop_get hu).1)
       simp [execOp, ho, hex, ey, Instr.index, asIntOf, run_underlying hf.under, part, hb, hisagg, hagg, sizeOf, typeInfo, hf2.info, hf2.size, hj]
      ·rw [if_neg hle] at hsub
       cases hsub
     ·rename_i hagg
      split at hsub
      ·rename_i c hc
       by_cases hsc : scalar c = true
       ·rw [if_pos hsc] at hsub
        cases hsub
        have hlt : j * ie.size < vs.length := by have := (List.getElem?_eq_some_iff.1 hc).1; rw [hcells] at this; omega
        refine .value hI vs[j * ie.size] ?_ (hr _ _ _ hc (List.getElem?_eq_getElem hlt))
        simp [execOp, ho, hex, ey, Instr.index, asIntOf, run_underlying hf.under, part, hb, hisagg, hagg, sizeOf, typeInfo, hf2.info, hf2.size, hj, hlt]
       ·rw [if_neg hsc] at hsub
        cases hsub
      ·cases hsub
    ·cases h
   ·cases hj
  ·cases h
 ·cases h
theorem os_field (hT : TOk P X.T) (hI : Inv ok B w ρ hp) (hE : ∀ x, Rel w (okAt ok B ρ w) ρ (opd env x) (a.eval x)) {T : TypeId} {x : Operand} {f : Nat} (ho : o.op = .field T x f) (h : evalOp X env hp d (.field T x f) = some (v, eff)) : OpOk P ok B w ρ hp a o v eff := by
 simp only [evalOp] at h
 have hx := hE x
 split at h
 ·rename_i fs _ _ _ hi
  obtain ⟨I, D, z, hf⟩ := hT T _ hi
  have htk := hf.tk
  unfold tkOk at htk
  cases D <;> simp at htk
  rename_i fields
  obtain ⟨htk, _⟩ := htk
  split at h
  ·rename_i off size ft cs hff hqx
   rw [hqx] at hx
   obtain ⟨vs, hex, hl, h1, hr⟩ := hx.agg_inv
   rw [htk, List.getElem?_map] at hff
   cases hfld : fields[f]? with
   | none => simp [hfld] at hff
   | some fd =>
    simp [hfld] at hff
    obtain ⟨hoff, hsz, hft⟩ := hff
    split at h
    ·rename_i i hi2
     obtain ⟨I2, D2, z2, hf2⟩ := hT ft i hi2
     split at h
     ·rename_i r hsub
      obtain ⟨rfl, rfl⟩ := some_pair h
      have hsize : i.size = size := by rw [← hsz, hft]; simp [Program.cellsOf, hf2.info, hf2.size]
      unfold subV at hsub
      simp only [stor, isAggV, Bool.or_true, if_true] at hsub
      have hcells : (V.agg cs).cells = cs := rfl
      have hrow := hf2.row
      have hisagg : (isAgg ft).run P w = .ok i.k.agg w := by
       unfold isAgg
       rw [Sem.run_bind, run_underlying hf2.under w]
       cases D2 <;> simp_all [TypeDesc.isRow]
      split at hsub
      ·rename_i hagg
       by_cases hle : off + size ≤ (V.agg cs).cells.length
       ·rw [if_pos hle] at hsub
        cases hsub
        refine .value hI (.agg ((vs.drop off).take size).toArray) ?_ (.agg _ _ (by rw [hcells]; simp; omega) (fun u hu => h1 u (List.mem_of_mem_drop (List.mem_of_mem_take hu))) fun j c u hc hu => hr _ c u (take_drop_get hc).1 (take_drop_get hu).1)
        simp [execOp, ho, hex, Instr.field, run_underlying hf.under, hfld, asAgg, part, hft, hisagg, hagg, hoff, sizeOf, typeInfo, hf2.info, hf2.size, hsize]
       ·rw [if_neg hle] at hsub
        cases hsub
      ·rename_i hagg
       split at hsub
       ·rename_i c hc
        by_cases hsc : scalar c = true
        ·rw [if_pos hsc] at hsub
         cases hsub
         have hlt : off < vs.length := by have := (List.getElem?_eq_some_iff.1 hc).1; rw [hcells] at this; omega
         refine .value hI vs[off] ?_ (hr off _ _ hc (List.getElem?_eq_getElem hlt))
         simp [execOp, ho, hex, Instr.field, run_underlying hf.under, hfld, asAgg, part, hft, hisagg, hagg, hoff, hlt]
        ·rw [if_neg hsc] at hsub
         cases hsub
       ·cases hsub
     ·cases h
    ·cases h
  ·cases h
 ·cases h
end
section
variable {P : Program} {X : Ctx} {ok : Nat → Prop} {B : Nat} {w w' : World} {ρ : Nat → Option Value} {hp : Hp} {env : Env} {a : Act} {o : Oper} {v : V} {eff : Eff} {d : Nat}
theorem OwnV.form {T : TypeId} {sz : Nat} {sv : Value} {es : List V} {ok : Nat → Prop} (h : OwnV w ok B T sz sv es) : (∃ ad, sv = .slice ad 0 0 ∧ es = []) ∨
  ∃ (g cap : Nat) (vs : List Value), sv = .slice (some ⟨g, 0, none⟩) es.length cap ∧ cap ≠ 0 ∧ es.length ≤ cap ∧ vs.length = es.length ∧ (∀ v ∈ vs, v.cells.size = sz) ∧ (∀ v ∈ vs, ∀ u ∈ v.cells.toList, u.oneCell' = true) ∧
   (∀ (i : Nat) e v, es[i]? = some e → vs[i]? = some v → RelD w ok e v) ∧ w.ownsRow B T sz sv es.length (vs.flatMap (·.cells.toList)) := by
 obtain ⟨vs, hl, hsz, h1, hr, ho⟩ := h
 rcases ho with h0 | ho
 ·exact .inl h0
 rcases ho.2 with ⟨rfl, hz⟩ | ⟨g, cap, cur, rfl, hb, hg, hle, rest⟩
 ·exact .inl ⟨none, rfl, List.eq_nil_of_length_eq_zero hz⟩
 ·by_cases hc : cap = 0
  ·left
   have : es.length = 0 := by omega
   exact ⟨_, by rw [this, hc], List.eq_nil_of_length_eq_zero this⟩
  ·exact .inr ⟨g, cap, vs, rfl, hc, hle, hl, hsz, h1, hr, ho⟩
theorem len_rel (hI : Inv ok B w ρ hp) {x : V} {val : Value} (hx : Rel w (okAt ok B ρ w) ρ x val) {n : Nat} (hn : lenV hp x = some n) (hs : ∀ s, x ≠ .str s) : ∃ ad cap, val = .slice ad n cap := by
 unfold lenV at hn
 split at hn
 ·simp at hn
  subst hn
  have := hx.row_inv
  cases this with
  | nil => exact ⟨_, 0, rfl⟩
  | row _ _ g o cap => exact ⟨_, _, rfl⟩
 ·simp at hn
  subst hn
  obtain ⟨ad, rfl⟩ := hx.zero_inv
  exact ⟨ad, 0, rfl⟩
 ·rename_i b
  split at hn
  ·rename_i T sz es hb
   simp at hn
   subst hn
   have hr := hx.vec_inv
   obtain ⟨sv, hsv, hpos, vs, hl, _, _, _, hoo⟩ := hI.blk b _ hb
   rw [hr] at hsv
   simp at hsv
   subst hsv
   rcases hoo with ⟨ad, rfl, rfl⟩ | hoo
   ·exact ⟨ad, 0, rfl⟩
   rcases hoo.2 with ⟨rfl, hz⟩ | ⟨g', cap', cur, rfl, _⟩
   ·exact ⟨none, 0, by rw [hz]⟩
   ·exact ⟨_, _, rfl⟩
  ·cases hn
 ·simp at hn
  subst hn
  obtain ⟨g, n0, cap, c, ad, _, rfl, _⟩ := hx.sub_inv
  exact ⟨_, _, rfl⟩
 ·exact (hs _ rfl).elim
 ·cases hn
theorem flat_part {sz lo k : Nat} {vs : List Value} (hs : ∀ v ∈ vs, v.cells.size = sz) {j : Nat} {u : Value} (h : (((vs.drop lo).take k).flatMap (·.cells.toList))[j]? = some u) : (vs.flatMap (·.cells.toList))[lo * sz + j]? = some u := by
 have hs2 : ∀ v ∈ (vs.drop lo).take k, v.cells.size = sz := fun v hv => hs v (List.mem_of_mem_drop (List.mem_of_mem_take hv))
 have hjl := (List.getElem?_eq_some_iff.1 h).1
 rw [flat_length hs2] at hjl
 have hpos : 0 < sz := by cases sz with | zero => simp at hjl | succ n => omega
 have hi : j / sz < ((vs.drop lo).take k).length := Nat.div_lt_of_lt_mul (by rwa [Nat.mul_comm] at hjl)
 have hme : j / sz * sz + j % sz = j := by rw [Nat.mul_comm]; exact Nat.div_add_mod j sz
 have hg := List.getElem?_eq_getElem hi
 have hf := flat_get hs2 hg (Nat.mod_lt j hpos)
 rw [hme, h] at hf
 have hg2 : vs[lo + j / sz]? = some (((vs.drop lo).take k)[j / sz]) := by
  rw [List.getElem?_take] at hg
  split at hg
  ·rwa [List.getElem?_drop] at hg
  ·cases hg
 have hf2 := flat_get hs hg2 (Nat.mod_lt j hpos)
 rw [← hf, show (lo + j / sz) * sz + j % sz = lo * sz + j by rw [Nat.add_mul]; omega] at hf2
 exact hf2
theorem sub_form (hI : Inv ok B w ρ hp) {b sz lo k : Nat} {val : Value} (hx : Rel w (okAt ok B ρ w) ρ (.sub b sz lo k) val) {T : TypeId} {es : List V} (hs : subE hp b sz (lo + k) = some (T, es)) :
  hp b = some (.vec T sz es) ∧ 0 < sz ∧ ∃ (g cap c : Nat) (ad : Option Addr) (vs : List Value), ρ b = some (.slice (some ⟨g, 0, none⟩) es.length cap) ∧ cap ≠ 0 ∧ val = .slice ad k c ∧ lo + k ≤ es.length ∧ k ≤ c ∧ (c ≤ maxLen ∧ c + lo = cap) ∧ (c = 0 ∨ ad = some ⟨g, lo * sz, none⟩) ∧
   vs.length = es.length ∧ (∀ v ∈ vs, v.cells.size = sz) ∧ (∀ v ∈ vs, ∀ u ∈ v.cells.toList, u.oneCell' = true) ∧ (∀ (i : Nat) e v, es[i]? = some e → vs[i]? = some v → RelD w (okAt ok B ρ w) e v) ∧ w.ownsRow B T sz (.slice (some ⟨g, 0, none⟩) es.length cap) es.length (vs.flatMap (·.cells.toList)) := by
 unfold subE at hs
 split at hs
 ·rename_i T' sz' es' hb
  split at hs
  ·rename_i hc
   simp only [Option.some.injEq, Prod.mk.injEq] at hs
   obtain ⟨rfl, rfl⟩ := hs
   obtain ⟨rfl, hle⟩ := hc
   obtain ⟨g, n, cap, c, ad, hg, rfl, hn, hln, hkc, hcm, ha⟩ := hx.sub_inv
   obtain ⟨sv, hsv, hpos, hown⟩ := hI.blk b _ hb
   rw [hg] at hsv
   simp only [Option.some.injEq] at hsv
   subst hsv
   rcases hown.form with ⟨ad', he, _⟩ | ⟨g', cap', vs, he, hc0, _, hl, hsz, h1, hrr, how⟩
   ·simp at he; omega
   ·simp only [Value.slice.injEq, Option.some.injEq, Addr.mk.injEq] at he
    obtain ⟨⟨rfl, _, _⟩, rfl, rfl⟩ := he
    exact ⟨hb, hpos, g, cap, c, ad, vs, hg, hc0, rfl, hle, hkc, hcm, ha, hl, hsz, h1, hrr, how⟩
  ·cases hs
 ·cases hs
theorem own_part (hI : Inv ok B w ρ hp) {x : V} {val : Value} (hx : Rel w (okAt ok B ρ w) ρ x val) {b sz lo k : Nat} (hop : ownP hp x = some (b, sz, lo, k)) :
  ∃ (g n cap c : Nat) (ad : Option Addr), ρ b = some (.slice (some ⟨g, 0, none⟩) n cap) ∧ val = .slice ad k c ∧ 0 < n ∧ lo + k ≤ n ∧ k ≤ c ∧ (c ≤ maxLen ∧ c + lo = cap) ∧ (c = 0 ∨ ad = some ⟨g, lo * sz, none⟩) := by
 unfold ownP at hop
 split at hop
 ·rename_i b'
  split at hop
  ·rename_i T sz' es hb
   split at hop
   ·rename_i hlen
    simp only [Option.some.injEq, Prod.mk.injEq] at hop
    obtain ⟨rfl, rfl, rfl, rfl⟩ := hop
    obtain ⟨sv, hsv, hpos, hown⟩ := hI.blk b' _ hb
    have hxv := hx.vec_inv
    rw [hsv] at hxv
    simp only [Option.some.injEq] at hxv
    subst hxv
    rcases hown.form with ⟨ad', he, h0⟩ | ⟨g, cap, vs, he, hc0, hle, hl, hsz, h1, hrr, how⟩
    ·rw [h0] at hlen; simp at hlen
    ·have hmx : cap ≤ maxLen := by
      rcases how.2 with ⟨h1, h2⟩ | ⟨g', cap', cur, h1, h2, h3, h4, h5, _⟩
      ·rw [he] at h1; simp at h1
      ·rw [he] at h1; simp at h1; omega
     subst he
     exact ⟨g, es.length, cap, cap, _, hsv, rfl, hlen, by omega, hle, ⟨hmx, by omega⟩, .inr (by simp)⟩
   ·cases hop
  ·cases hop
 ·simp only [Option.some.injEq, Prod.mk.injEq] at hop
  obtain ⟨rfl, rfl, rfl, rfl⟩ := hop
  exact hx.sub_inv
 ·cases hop
theorem part_get {α : Type} {l : List α} {lo k i : Nat} {x : α} (h : ((l.drop lo).take k)[i]? = some x) : i < k ∧ l[lo + i]? = some x := by
 rw [List.getElem?_take] at h
 split at h
 ·rename_i hi; rw [List.getElem?_drop] at h; exact ⟨hi, h⟩
 ·cases h
theorem KV.len : ∀ {es : List MapEntry} {kvs : List (V × V)}, KV es kvs → es.length = kvs.length
 | [], [], _ => rfl
 | _ :: _, _ :: _, h => by simp [KV.len h.2.2]
 | [], _ :: _, h => h.elim
 | _ :: _, [], h => h.elim
theorem KV.app : ∀ {es : List MapEntry} {kvs : List (V × V)} {e : MapEntry} {p : V × V}, KV es kvs → p.1.key = some e.key → p.2.key = some e.val → KV (es ++ [e]) (kvs ++ [p])
 | [], [], _, _, _, h1, h2 => ⟨h1, .inr h2, trivial⟩
 | _ :: _, _ :: _, _, _, h, h1, h2 => ⟨h.1, h.2.1, KV.app h.2.2 h1 h2⟩
 | [], _ :: _, _, _, h, _, _ => h.elim
 | _ :: _, [], _, _, h, _, _ => h.elim
theorem maps_rel (hI : Inv ok B w ρ hp) {x : V} {val : Value} (hx : Rel w (okAt ok B ρ w) ρ x val) {kvs : List (V × V)} (hm : mapsV hp x = some kvs) :
  ∃ (b g : Nat) (es : Array MapEntry) (clock : Nat), x = .vec b ∧ hp b = some (.map kvs) ∧ val = .map (some g) ∧ ρ b = some (.map (some g)) ∧ w.heap[g]? = some (.map es clock) ∧
   KV es.toList kvs ∧ (∀ e ∈ es.toList, e.born < clock) ∧ (es.toList.map (·.born)).Nodup := by
 unfold mapsV at hm
 split at hm
 ·rename_i b
  split at hm
  ·rename_i kvs' hb
   simp only [Option.some.injEq] at hm
   subst hm
   obtain ⟨sv, hr, g, es, clock, rfl, hB, hes, hkv⟩ := hI.blk b _ hb
   have := hx.vec_inv
   rw [hr] at this
   exact ⟨b, g, es, clock, rfl, hb, (Option.some.inj this).symm, hr, hes, hkv⟩
  ·cases hm
 ·cases hm
theorem os_len (hT : TOk P X.T) (hI : Inv ok B w ρ hp) (hE : ∀ x, Rel w (okAt ok B ρ w) ρ (opd env x) (a.eval x)) {c : Call} (hcal : c.callee = .builtin .len) (ho : o.op = .call c) (h : evalOp X env hp d (.call c) = some (v, eff)) : OpOk P ok B w ρ hp a o v eff := by
 obtain ⟨cal, args, tys⟩ := c
 simp only at hcal
 subst hcal
 obtain ⟨args⟩ := args
 obtain ⟨tys⟩ := tys
 rcases args with _ | ⟨x, _ | ⟨y, rest⟩⟩ <;> rcases tys with _ | ⟨t, _ | ⟨u, rest2⟩⟩ <;> simp only [evalOp] at h <;> try (cases h; done)
 have hx := hE x
 split at h
 ·rename_i n hn
  obtain ⟨rfl, rfl⟩ := some_pair h
  unfold lenM at hn
  split at hn
  ·rename_i k e _ _ _ hi
   obtain ⟨I, D, z, hf⟩ := hT t _ hi
   have htk := hf.tk
   unfold tkOk at htk
   cases D <;> simp at htk
   simp only [Option.map_eq_some_iff] at hn
   obtain ⟨kvs, hm, rfl⟩ := hn
   obtain ⟨b, g, es, clock, hq, hb, hex, hr, hes, hkv, _⟩ := maps_rel hI hx hm
   have hlen : es.size = kvs.length := by have := KV.len hkv; simpa using this
   exact .value hI (.int .i64 kvs.length) (by simp [execOp, ho, resolve, invoke, builtin, Builtin.len_, hex, run_underlying hf.under, MapKept.run_getObj_map hes, Result.andThen, goInt, hlen]) (.ro (.int _ _))
  ·cases hn
 rename_i hnm
 split at h
 ·rename_i e _ _ _ n hi hn
  obtain ⟨I, D, z, hf⟩ := hT t _ hi
  have htk := hf.tk
  unfold tkOk at htk
  cases D <;> simp at htk
  split at h
  ·cases h
  ·rename_i hns
   obtain ⟨rfl, rfl⟩ := some_pair h
   obtain ⟨ad, cap, hex⟩ := len_rel hI hx hn hns
   exact .value hI (.int .i64 n) (by simp [execOp, ho, resolve, invoke, builtin, Builtin.len_, hex, run_underlying hf.under, goInt]) (.ro (.int _ _))
 ·rename_i _ _ _ n hi hn
  obtain ⟨I, D, z, hf⟩ := hT t _ hi
  have htk := hf.tk
  unfold tkOk at htk
  cases D <;> simp at htk
  split at h
  ·rename_i s hq
   obtain ⟨rfl, rfl⟩ := some_pair h
   rw [hq] at hx
   have hex := hx.str_inv
   simp only [hq, lenV, Option.some.injEq] at hn
   subst hn
   exact .value hI (.int .i64 s.size) (by simp [execOp, ho, resolve, invoke, builtin, Builtin.len_, hex, run_underlying hf.under, goInt]) (.ro (.int _ _))
  ·cases h
 ·cases h
theorem os_max (hI : Inv ok B w ρ hp) (hE : ∀ x, Rel w (okAt ok B ρ w) ρ (opd env x) (a.eval x)) {c : Call} (hcal : c.callee = .builtin .max) (ho : o.op = .call c) (h : evalOp X env hp d (.call c) = some (v, eff)) : OpOk P ok B w ρ hp a o v eff := by
 obtain ⟨cal, args, tys⟩ := c
 simp only at hcal
 subst hcal
 obtain ⟨args⟩ := args
 rcases args with _ | ⟨x, _ | ⟨y, _ | ⟨y2, rest⟩⟩⟩ <;> simp only [evalOp] at h <;> try (cases h; done)
 have hx := hE x
 have hy := hE y
 split at h
 ·rename_i k m k' m' hq hq'
  obtain ⟨rfl, rfl⟩ := some_pair h
  rw [hq] at hx
  rw [hq'] at hy
  have ex := hx.int_inv
  have ey := hy.int_inv
  exact .value hI _ (by simp [execOp, ho, resolve, invoke, builtin, Builtin.max_, Builtin.max2, ex, ey]) (.ro (.int _ _))
 ·cases h
theorem os_min (hI : Inv ok B w ρ hp) (hE : ∀ x, Rel w (okAt ok B ρ w) ρ (opd env x) (a.eval x)) {c : Call} (hcal : c.callee = .builtin .min) (ho : o.op = .call c) (h : evalOp X env hp d (.call c) = some (v, eff)) : OpOk P ok B w ρ hp a o v eff := by
 obtain ⟨cal, args, tys⟩ := c
 simp only at hcal
 subst hcal
 obtain ⟨args⟩ := args
 rcases args with _ | ⟨x, _ | ⟨y, _ | ⟨y2, rest⟩⟩⟩ <;> simp only [evalOp] at h <;> try (cases h; done)
 have hx := hE x
 have hy := hE y
 split at h
 ·rename_i k m k' m' hq hq'
  obtain ⟨rfl, rfl⟩ := some_pair h
  rw [hq] at hx
  rw [hq'] at hy
  have ex := hx.int_inv
  have ey := hy.int_inv
  exact .value hI _ (by simp [execOp, ho, resolve, invoke, builtin, Builtin.min_, Builtin.min2, ex, ey]) (.ro (.int _ _))
 ·cases h
theorem elems_rel (hI : Inv ok B w ρ hp) {x : V} {val : Value} (hx : Rel w (okAt ok B ρ w) ρ x val) {sz : Nat} {es : List V} (he : elemsV hp x = some (sz, es)) :
  (∃ ad cap, val = .slice ad 0 cap ∧ es = []) ∨ ∃ (g o cap : Nat) (vs : List Value), val = .slice (some ⟨g, o, none⟩) es.length cap ∧ vs.length = es.length ∧ (∀ v ∈ vs, v.cells.size = sz) ∧ (∀ v ∈ vs, ∀ u ∈ v.cells.toList, u.oneCell' = true) ∧
   (∀ (i : Nat) e v, es[i]? = some e → vs[i]? = some v → RelD w (okAt ok B ρ w) e v) ∧ ∀ (j : Nat) u, (vs.flatMap (·.cells.toList))[j]? = some u → w.cell? ⟨g, o + j, none⟩ = some u := by
 unfold elemsV at he
 split at he
 ·rename_i sz es
  simp at he
  obtain ⟨rfl, rfl⟩ := he
  have := hx.row_inv
  cases this with
  | nil => exact .inl ⟨_, 0, rfl, rfl⟩
  | row _ _ g o cap vs hok hcap hmax hl hsz h1 hc h =>
   refine .inr ⟨g, o, cap, vs, rfl, hl, hsz, h1, h, fun j u hu => ?_⟩
   have hjl := (List.getElem?_eq_some_iff.1 hu).1
   rw [flat_length hsz] at hjl
   have hpos : 0 < sz := by cases sz with | zero => simp at hjl | succ n => omega
   have hi : j / sz < vs.length := Nat.div_lt_of_lt_mul (by rwa [Nat.mul_comm] at hjl)
   have hme : j / sz * sz + j % sz = j := by rw [Nat.mul_comm]; exact Nat.div_add_mod j sz
   have hf := flat_get hsz (List.getElem?_eq_getElem hi) (Nat.mod_lt j hpos)
   rw [hme, hu] at hf
   have := hc (j / sz) _ (List.getElem?_eq_getElem hi) (j % sz) u hf.symm
   rw [show o + j / sz * sz + j % sz = o + j by omega] at this
   exact this
 ·rename_i b
  split at he
  ·rename_i T sz' es' hb
   simp at he
   obtain ⟨rfl, rfl⟩ := he
   have hr := hx.vec_inv
   obtain ⟨sv, hsv, hpos, vs, hl, hsz, h1, hrr, hoo⟩ := hI.blk b _ hb
   rw [hr] at hsv
   simp at hsv
   subst hsv
   rcases hoo with ⟨ad, rfl, rfl⟩ | hoo
   ·exact .inl ⟨ad, 0, rfl, rfl⟩
   have hc := fun g hg => hoo.cells (g := g) hg
   rcases hoo.2 with ⟨rfl, hz⟩ | ⟨g', cap', cur, rfl, _⟩
   ·exact .inl ⟨none, 0, rfl, List.eq_nil_of_length_eq_zero hz⟩
   ·refine .inr ⟨g', 0, cap', vs, rfl, hl, hsz, h1, hrr, fun j u hu => ?_⟩
    have := hc g' rfl j u hu
    rwa [Addr.add_mid] at this
  ·cases he
 ·rename_i b sz0 lo k
  simp only [Option.map_eq_some_iff] at he
  obtain ⟨⟨T, es0⟩, hs, he⟩ := he
  simp only [Prod.mk.injEq] at he
  obtain ⟨rfl, rfl⟩ := he
  obtain ⟨hb, hpos, g, cap, c, ad, vs, hg, hc0, rfl, hle, hkc, hcm, ha, hl, hsz, h1, hrr, how⟩ := sub_form hI hx hs
  by_cases hk : k = 0
  ·subst hk
   exact .inl ⟨ad, c, rfl, by simp⟩
  ·have had := ha.resolve_left (by omega)
   subst had
   have hlen : ((es0.drop lo).take k).length = k := by rw [List.length_take, List.length_drop]; omega
   rw [hlen]
   refine .inr ⟨g, lo * sz0, c, (vs.drop lo).take k, rfl, by rw [List.length_take, List.length_drop]; omega, fun v hv => hsz v (List.mem_of_mem_drop (List.mem_of_mem_take hv)), fun v hv => h1 v (List.mem_of_mem_drop (List.mem_of_mem_take hv)), fun i e v he hv => hrr (lo + i) e v (part_get he).2 (part_get hv).2, fun j u hu => ?_⟩
   have := how.cells (g := g) rfl (lo * sz0 + j) u (flat_part hsz hu)
   rwa [Addr.add_mid, Nat.zero_add] at this
 ·cases he
theorem run_append_types {t t2 ty e e2 : TypeId} (ad ad2 : Option Addr) (n cap m c : Nat) (h1 : P.underlying t = some (.slice e)) (h2 : P.underlying t2 = some (.slice e2)) :
  (Builtin.append_ #[t, t2] ty #[.slice ad n cap, .slice ad2 m c]).run P w = (Builtin.append_ #[t, t] ty #[.slice ad n cap, .slice ad2 m c]).run P w := by
 simp [Builtin.append_, run_underlying h1, run_underlying h2]
theorem run_append_none {t ty e : TypeId} {I : TypeInfo} (h1 : P.underlying t = some (.slice e)) (h2 : P.info? e = some I) (ad : Option Addr) (n cap : Nat) (hn : n ≤ cap) (ad2 : Option Addr) (c2 : Nat) :
  (Builtin.append_ #[t, t] ty #[.slice ad n cap, .slice ad2 0 c2]).run P w = .ok (.slice ad n cap) w := by
 cases ad <;> cases ad2 <;> simp [Builtin.append_, run_underlying h1, sizeOf, typeInfo, h2, Builtin.lenOf, hn, Builtin.firstCells, loadCells, loadCellsFrom, storeCells]
theorem ownsRow_base {b b' : Nat} {e : TypeId} {size n : Nat} {sv : Value} {xs : List Value} (h : w.ownsRow b e size sv n xs) (hb : b' ≤ b) : w.ownsRow b' e size sv n xs := by
 refine ⟨h.1, h.2.imp id ?_⟩
 rintro ⟨g, cap, cur, rfl, hbg, rest⟩
 exact ⟨g, cap, cur, rfl, by omega, rest⟩
theorem below_grown {row : Option Nat} (hg : w.grownBy w' row) (hB : B ≤ w.heap.size) (hr : ∀ k, row = some k → B ≤ k) : Below B w w' := (Below.refl B w).grown hg hB hr
end
section
variable {P : Program} {X : Ctx} {ok : Nat → Prop} {B : Nat} {w w' : World} {ρ : Nat → Option Value} {hp : Hp} {env : Env} {a : Act} {o : Oper} {v : V} {eff : Eff} {d : Nat}
theorem append_zero {t ty e : TypeId} {i : TI} {I : TypeInfo} {D : TypeDesc} {z : Value} (hu : P.underlying t = some (.slice e)) (hf : TFact P e i I D z) (hpos : 0 < i.size)
  (ad : Option Addr) (g o cap : Nat) (es : List V) (vs : List Value) (hl : vs.length = es.length) (hs : ∀ v ∈ vs, v.cells.size = i.size)
  (hc : ∀ (j : Nat) u, (vs.flatMap (·.cells.toList))[j]? = some u → w.cell? ⟨g, o + j, none⟩ = some u) (h1 : ∀ v ∈ vs, ∀ u ∈ v.cells.toList, u.oneCell' = true) (hm : 0 < es.length)
  (hby : es.length * i.bytes ≤ 140737488355328) (h63 : es.length ≤ maxLen) :
  ∃ v' w', (Builtin.append_ #[t, t] ty #[.slice ad 0 0, .slice (some ⟨g, o, none⟩) es.length cap]).run P w = .ok v' w' ∧ w'.ownsRow w.heap.size e i.size v' es.length (vs.flatMap (·.cells.toList)) ∧ w.grownBy w' none := by
 have hl' : (vs.flatMap (·.cells.toList)).length = es.length * i.size := by rw [flat_length hs, hl]
 have hcc : ∀ j u, (vs.flatMap (·.cells.toList))[j]? = some u → w.cell? ((⟨g, o, none⟩ : Addr).add j) = some u := fun j u hu => by rw [Addr.add_mid]; exact hc j u hu
 cases ad with
 | none =>
  obtain ⟨v', w', hr, ho, hg, _⟩ := run_append_own (P := P) w w.heap.size t ty e I z i.size i.bytes hu hf.info hf.zero hf.size hf.bytes hf.zsize hpos (.slice none 0 0) 0 [] (World.ownsRow_nil _ _ _ _)
   ⟨g, o, none⟩ es.length cap _ hl' hcc (fun u hu => by
    obtain ⟨v, hv, huv⟩ := List.mem_flatMap.1 hu
    exact h1 v hv u huv) (by omega) (by rw [Nat.zero_add]; exact hby) (Nat.le_refl _)
  rw [Nat.zero_add, List.nil_append] at ho
  exact ⟨v', w', hr, ho, hg⟩
 | some b =>
  obtain ⟨v', w', hr, ho, hg⟩ := run_append_arg_grows (P := P) w t ty e I z i.size i.bytes hu hf.info hf.zero hf.size hf.bytes hf.zsize hpos b 0 0 [] (by simp) (by simp)
   ⟨g, o, none⟩ es.length cap _ hl' hcc (by omega) (by omega) (by rw [Nat.zero_add]; exact hby)
  rw [Nat.zero_add, List.nil_append] at ho
  exact ⟨v', w', hr, ho, hg⟩
theorem own_lt_of_owns {b : Nat} {e : TypeId} {size n : Nat} {sv : Value} {xs : List Value} (h : w.ownsRow b e size sv n xs) {g : Nat} (hg : own sv = some g) : b ≤ g ∧ sv.ownBlock = some g := by
 rcases h.2 with ⟨rfl, _⟩ | ⟨g', cap, cur, rfl, hb, _⟩
 ·simp [own] at hg
 ·simp only [own] at hg
  split at hg
  ·cases hg
  ·simp at hg; subst hg; exact ⟨hb, rfl⟩
theorem owns_one {b : Nat} {e : TypeId} {size n : Nat} {sv : Value} {xs : List Value} (h : w.ownsRow b e size sv n xs) : sv.oneCell' = true := by
 rcases h.2 with ⟨rfl, _⟩ | ⟨g', cap, cur, rfl, hb, _⟩ <;> rfl
theorem slice_under {t : TypeId} (hT : TOk P X.T) (h : isSlice X t = true) : ∃ e, P.underlying t = some (.slice e) := by
 unfold isSlice at h
 split at h
 ·rename_i e _ _ _ hi
  obtain ⟨I, D, z, hf⟩ := hT _ _ hi
  have htk := hf.tk
  unfold tkOk at htk
  cases D <;> simp at htk
  subst htk
  exact ⟨_, hf.under⟩
 ·cases h
theorem elemsZ_rel (hI : Inv ok B w ρ hp) {x : V} {val : Value} (hx : Rel w (okAt ok B ρ w) ρ x val) {n0 sz : Nat} {es : List V} (he : elemsZ n0 hp x = some (sz, es)) :
  (∃ ad cap, val = .slice ad 0 cap ∧ es = []) ∨ ∃ (g o cap : Nat) (vs : List Value), val = .slice (some ⟨g, o, none⟩) es.length cap ∧ vs.length = es.length ∧ (∀ v ∈ vs, v.cells.size = sz) ∧ (∀ v ∈ vs, ∀ u ∈ v.cells.toList, u.oneCell' = true) ∧
   (∀ (i : Nat) e v, es[i]? = some e → vs[i]? = some v → RelD w (okAt ok B ρ w) e v) ∧ ∀ (j : Nat) u, (vs.flatMap (·.cells.toList))[j]? = some u → w.cell? ⟨g, o + j, none⟩ = some u := by
 by_cases hz : x = .zero
 ·subst hz
  simp only [elemsZ, Option.some.injEq, Prod.mk.injEq] at he
  obtain ⟨a, ha⟩ := hx.zero_inv
  exact .inl ⟨a, 0, ha, he.2.symm⟩
 ·by_cases hz2 : ∃ ad c, x = .raw (.slice ad 0 c)
  ·obtain ⟨ad, c, rfl⟩ := hz2
   simp only [elemsZ, Option.some.injEq, Prod.mk.injEq] at he
   have hv : val = .slice ad 0 c := by cases hx with | ro hx => cases hx; rfl
   exact .inl ⟨ad, c, hv, he.2.symm⟩
  ·have : elemsZ n0 hp x = elemsV hp x := by
    unfold elemsZ
    split
    ·exact absurd rfl hz
    ·exact absurd ⟨_, _, rfl⟩ hz2
    ·rfl
   rw [this] at he
   exact elems_rel hI hx he
theorem os_append (hT : TOk P X.T) (hI : Inv ok B w ρ hp) (hE : ∀ x, Rel w (okAt ok B ρ w) ρ (opd env x) (a.eval x)) {c : Call} (hcal : c.callee = .builtin .append) (ho : o.op = .call c) (h : evalOp X env hp d (.call c) = some (v, eff)) : OpOk P ok B w ρ hp a o v eff := by
 obtain ⟨cal, args, tys⟩ := c
 simp only at hcal
 subst hcal
 obtain ⟨args⟩ := args
 obtain ⟨tys⟩ := tys
 rcases args with _ | ⟨s, _ | ⟨x, _ | ⟨y2, rest⟩⟩⟩ <;> rcases tys with _ | ⟨t, _ | ⟨t2, _ | ⟨u2, rest2⟩⟩⟩ <;> simp only [evalOp] at h <;> try (cases h; done)
 have hs := hE s
 have hx := hE x
 unfold appendV at h
 split at h
 ·rename_i e _ _ _ hi
  obtain ⟨I0, D0, z0, hf0⟩ := hT t _ hi
  have htk := hf0.tk
  unfold tkOk at htk
  cases D0 <;> simp at htk
  subst htk
  split at h
  ·rename_i i hi2
   obtain ⟨I, D, z, hf⟩ := hT _ i hi2
   split at h
   ·rename_i hsl
    obtain ⟨e2, hu2⟩ := slice_under hT hsl
    have fin : ∀ (ad ad2 : Option Addr) (n cap m c : Nat) (v' : Value) (w1 : World), a.eval s = .slice ad n cap → a.eval x = .slice ad2 m c → (Builtin.append_ #[t, t] o.type #[.slice ad n cap, .slice ad2 m c]).run P w = .ok v' w1 →
      (execOp a.eval o).run P w = .ok (.value v') w1 := fun ad ad2 n cap m c v' w1 e1 e2 hr => by
     rw [← run_append_types ad ad2 n cap m c hf0.under hu2] at hr
     simp [execOp, ho, resolve, invoke, builtin, e1, e2, hr]
    split at h
    ·rename_i hq
     rw [hq] at hs
     obtain ⟨ad, es0⟩ := hs.zero_inv
     split at h
     ·rename_i sz es hel
      split at h
      ·rename_i hc
       obtain ⟨rfl, hpos, hby, h63, hfr⟩ := hc
       obtain ⟨rfl, rfl⟩ := some_pair h
       rcases elemsZ_rel hI hx hel with ⟨ad2, c2, hxe, rfl⟩ | ⟨g, o0, cap, vs, hxe, hl, hsz, h1, hrr, hcell⟩
       ·obtain ⟨ρ', hst, hrel⟩ := inv_nil hI (8 * d) e i.size ad (by simpa using hfr) hpos
        exact .step _ (fin ad ad2 0 0 0 c2 _ _ es0 hxe (run_append_none hf0.under hf.info ad 0 0 (Nat.le_refl _) ad2 c2)) hst hrel
       ·by_cases hm : es.length = 0
        ·have hnil : es = [] := List.eq_nil_of_length_eq_zero hm
         subst hnil
         obtain ⟨ρ', hst, hrel⟩ := inv_nil hI (8 * d) e i.size ad (by simpa using hfr) hpos
         exact .step _ (fin ad _ 0 0 0 cap _ _ es0 hxe (run_append_none hf0.under hf.info ad 0 0 (Nat.le_refl _) _ cap)) hst hrel
        ·obtain ⟨v', w1, hr, how, hgr⟩ := append_zero (w := w) (ty := o.type) hf0.under hf hpos ad g o0 cap es vs hl hsz hcell h1 (by omega) hby h63
         have hb : Below w.heap.size w w1 := below_grown hgr (Nat.le_refl _) (fun k hk => by cases hk)
         have hown : ∀ g, own v' = some g → w.heap.size ≤ g := fun g hg => (own_lt_of_owns how hg).1
         obtain ⟨hokk, hr1, hr2⟩ := add1_ok (w' := w1) hI (8 * d) v' (by simpa using hfr) hb.size (fun g hg => hb.block g hg) hown
         exact .step v' (fin ad _ 0 0 _ cap _ _ es0 hxe hr) (add1 hI (8 * d) v' (.vec e i.size es) (by simpa using hfr) hb hown ⟨hpos, vs, hl, hsz, h1, fun j el vv he hv => (hrr j el vv he hv).mono hokk, .inr (ownsRow_base how hI.size)⟩) (.vec _ _ hr2 (owns_one how))
      ·cases h
     ·cases h
    ·rename_i b hq
     rw [hq] at hs
     have hrb := hs.vec_inv
     split at h
     ·rename_i T sz es sz' es' hb hel
      split at h
      ·rename_i hc
       obtain ⟨rfl, rfl, rfl, hby, h63, _⟩ := hc
       obtain ⟨rfl, rfl⟩ := some_pair h
       obtain ⟨sv, hsv, hpos, hown⟩ := hI.blk b _ hb
       rw [hrb] at hsv
       simp at hsv
       subst hsv
       -- nothing is appended
       have none_case : ∀ (ad2 : Option Addr) (c2 : Nat), a.eval x = .slice ad2 0 c2 → es' = [] → OpOk P ok B w ρ hp a o (.vec b) (.change b (.vec T i.size (es ++ es'))) := by
        intro ad2 c2 hxe hnil
        subst hnil
        rw [List.append_nil]
        have hform : ∃ ad cap, a.eval s = .slice ad es.length cap ∧ es.length ≤ cap := by
         rcases hown.form with ⟨ad, he, rfl⟩ | ⟨g, cap, vs, he, _, hle, _⟩
         ·exact ⟨ad, 0, he, Nat.le_refl _⟩
         ·exact ⟨_, cap, he, hle⟩
        obtain ⟨ad, cap, hse, hle⟩ := hform
        have hone : (a.eval s).oneCell' = true := by rw [hse]; rfl
        have hupd : upd ρ b (some (a.eval s)) = ρ := by funext k; unfold upd; split <;> simp_all
        have hch := hI.change (w' := w) b .undef (some (a.eval s, .vec T i.size es)) (Nat.le_refl _) (fun _ _ _ => rfl) (fun sv k hn => by
         simp at hn
         obtain ⟨rfl, rfl⟩ := hn
         exact ⟨fun g hg => .inr ⟨_, hrb, hg⟩, by rw [hupd]; exact ⟨hpos, hown⟩⟩) (fun _ _ _ => .ro (.undef _))
        exact .step (ρ' := upd ρ b (some (a.eval s))) (a.eval s) (fin ad ad2 es.length cap 0 c2 _ _ hse hxe (by rw [hse]; exact run_append_none hf0.under hf.info ad _ cap hle ad2 c2)) ⟨.refl _ _, hch.1, hch.2, fun _ _ _ => rfl, (fun b sv g h1 h2 => by rw [hupd] at h1; exact .inr ⟨b, sv, h1, h2⟩), fun _ _ => by rw [hupd], Nat.le_refl _⟩ (.vec _ _ (by simp [upd]) hone)
       rcases elemsZ_rel hI hx hel with ⟨ad2, c2, hxe, hnil⟩ | ⟨g, o0, cap, vs, hxe, hl, hsz, h1, hrr, hcell⟩
       ·exact none_case ad2 c2 hxe hnil
       ·by_cases hm : es'.length = 0
        ·exact none_case _ cap (by rw [hxe, hm]) (List.eq_nil_of_length_eq_zero hm)
        ·-- the row that it becomes
         have hnew : ∃ v' w1, (∀ (hh : True), (execOp a.eval o).run P w = .ok (.value v') w1) ∧ Below B w w1 ∧ w.heap.size ≤ w1.heap.size ∧ (∀ k, k < w.heap.size → own (a.eval s) ≠ some k → w1.heap[k]? = w.heap[k]?) ∧
           (∀ k, own v' = some k → w.heap.size ≤ k ∨ own (a.eval s) = some k) ∧ v'.oneCell' = true ∧
           ∃ vs0 : List Value, vs0.length = es.length ∧ (∀ v ∈ vs0, v.cells.size = i.size) ∧ (∀ v ∈ vs0, ∀ u ∈ v.cells.toList, u.oneCell' = true) ∧ (∀ (j : Nat) e v, es[j]? = some e → vs0[j]? = some v → RelD w (okAt ok B ρ w) e v) ∧
            w1.ownsRow B T i.size v' (es ++ es').length ((vs0 ++ vs).flatMap (·.cells.toList)) := by
          rcases hown.form with ⟨ad, he, rfl⟩ | ⟨g0, cap0, vs0, he, hc0, hle0, hl0, hsz0, h10, hr0, how⟩
          ·obtain ⟨v', w1, hr, how, hgr⟩ := append_zero (w := w) (ty := o.type) hf0.under hf hpos ad g o0 cap es' vs hl hsz hcell h1 (by omega) (by simpa using hby) (by simpa using h63)
           have hbb : Below w.heap.size w w1 := below_grown hgr (Nat.le_refl _) (fun k hk => by cases hk)
           refine ⟨v', w1, fun _ => fin ad _ 0 0 _ cap _ _ he hxe hr, hbb.mono hI.size, hbb.size, fun k hk _ => hbb.block k hk, fun k hk => .inl (own_lt_of_owns how hk).1, owns_one how, [], rfl, by simp, by simp, by simp, ?_⟩
           simpa using ownsRow_base how hI.size
          ·obtain ⟨v', w1, hr, how', hgr, _, hob⟩ := run_append_own_at (P := P) w B t o.type T I z i.size i.bytes hf0.under hf.info hf.zero hf.size hf.bytes hf.zsize hpos (a.eval s) es.length _ how
            ⟨g, o0, none⟩ es'.length cap (vs.flatMap (·.cells.toList)) (by rw [flat_length hsz, hl]) (fun j u hu => by rw [Addr.add_mid]; exact hcell j u hu) (fun u hu => by
             obtain ⟨v, hv, huv⟩ := List.mem_flatMap.1 hu
             exact h1 v hv u huv) h63 hby hI.size
           have hownS : own (a.eval s) = some g0 := by rw [he]; simp [own, hc0]
           have hobS : (a.eval s).ownBlock = some g0 := by rw [he]; rfl
           have hgB : B ≤ g0 := (hI.own_ge hrb hownS).1
           refine ⟨v', w1, fun _ => fin _ _ _ cap0 _ cap _ _ he hxe (by rw [← he]; exact hr), below_grown hgr hI.size (fun k hk => by rw [hobS] at hk; simp at hk; omega), hgr.size, fun k hk hne => hgr.block k hk (by rw [hobS]; intro e; apply hne; rw [hownS, ← e]), fun k hk => ?_, owns_one how', vs0, hl0, hsz0, h10, hr0, ?_⟩
           ·have hkb := (own_lt_of_owns how' hk).2
            rcases hob with hob | hob
            ·right; rw [hownS, ← hobS, ← hob]; exact hkb
            ·left; rw [hob] at hkb; simp at hkb; omega
           ·rw [List.length_append, List.flatMap_append]; exact how'
         obtain ⟨v', w1, hr, hbb, hss, hkeep, hownn, hone, vs0, hl0, hsz0, h10, hr0, how⟩ := hnew
         have hkeep' : ∀ k, k < w.heap.size → (∀ sv, ρ b = some sv → own sv ≠ some k) → w1.heap[k]? = w.heap[k]? := fun k hk hne => hkeep k hk (hne _ hrb)
         have hokk : ∀ k, okAt ok B ρ w k → okAt ok B (upd ρ b (some v')) w1 k ∧ w1.heap[k]? = w.heap[k]? := by
          intro k hk
          obtain ⟨hok, hlt, hno⟩ := hk
          refine ⟨⟨hok, by omega, fun b' sv hr' ho' => ?_⟩, hkeep k hlt (hno b _ hrb)⟩
          unfold upd at hr'
          split at hr'
          ·simp at hr'
           subst hr'
           rcases hownn k ho' with hq | hq
           ·omega
           ·exact hno b _ hrb hq
          ·exact hno b' sv hr' ho'
         have hch := hI.change (w' := w1) b .undef (some (v', .vec T i.size (es ++ es'))) hss hkeep' (fun sv k hn => by
          simp at hn
          obtain ⟨rfl, rfl⟩ := hn
          refine ⟨fun g hg => (hownn g hg).imp id fun hq => ⟨_, hrb, hq⟩, hpos, vs0 ++ vs, by simp [hl0, hl], ?_, ?_, ?_, .inr how⟩
          ·intro v hv
           rcases List.mem_append.1 hv with hv | hv
           ·exact hsz0 v hv
           ·exact hsz v hv
          ·intro v hv
           rcases List.mem_append.1 hv with hv | hv
           ·exact h10 v hv
           ·exact h1 v hv
          ·intro j el vv he hv
           by_cases hj : j < es.length
           ·rw [List.getElem?_append_left hj] at he
            rw [List.getElem?_append_left (by omega)] at hv
            exact (hr0 j el vv he hv).mono hokk
           ·rw [List.getElem?_append_right (by omega)] at he
            rw [List.getElem?_append_right (by omega), hl0] at hv
            exact (hrr _ el vv he hv).mono hokk) (fun _ _ _ => .ro (.undef _))
         exact .step (ρ' := upd ρ b (some v')) v' (hr trivial) ⟨hbb, hch.1, hch.2, fun g hg hno => hkeep' g hg fun sv hr => hno b sv hr, (fun b' s g hs ho => by
          unfold upd at hs
          split at hs
          ·simp at hs
           subst hs
           rcases hownn g ho with hq | hq
           ·exact .inl hq
           ·exact .inr ⟨b, _, hrb, hq⟩
          ·exact .inr ⟨b', s, hs, ho⟩), (fun b' hb' => by
          have hne : ¬ b' = b := by intro e; subst e; simp [Eff.tc] at hb'
          unfold upd; rw [if_neg hne]), hss⟩ (.vec _ _ (by simp [upd]) hone)
      ·cases h
     ·cases h
    ·cases h
   ·cases h
  ·cases h
 ·cases h
end
/-! ### Maps -/
section
variable {P : Program} {X : Ctx} {ok : Nat → Prop} {B : Nat} {w : World} {ρ : Nat → Option Value} {hp : Hp} {env : Env} {a : Act} {o : Oper} {d : Nat} {v : V} {eff : Eff}
theorem key_rel {w : World} {ok : Nat → Prop} {v : V} {u : Value} (h : v.key = some u) : RelD w ok v u := by
 cases v <;> simp only [V.key, Option.some.injEq, reduceCtorEq] at h <;> subst h
 ·exact .int _ _
 ·exact .bool _
 ·exact .str _
theorem Rel.of_key {v : V} {val u : Value} (h : Rel w ok ρ v val) (hk : v.key = some u) : val = u := by
 cases v <;> simp only [V.key, Option.some.injEq, reduceCtorEq] at hk <;> subst hk
 ·exact h.int_inv
 ·exact h.bool_inv
 ·exact h.str_inv
theorem keyOk_spec {tk : TK} {D : TypeDesc} (htk : tkOk P tk D = true) {x : V} (hx : keyOk tk x = true) : ∃ u, x.key = some u ∧ MapKept.IsKey D u := by
 unfold keyOk at hx
 split at hx
 ·unfold tkOk at htk
  cases D <;> simp at htk
  simp at hx
  subst hx
  subst htk
  exact ⟨_, rfl, rfl⟩
 ·unfold tkOk at htk
  cases D <;> simp at htk
  exact ⟨_, rfl, trivial⟩
 ·unfold tkOk at htk
  cases D <;> simp at htk
  exact ⟨_, rfl, trivial⟩
 ·cases hx
theorem eqK_key {tk : TK} {x k : V} (hx : keyOk tk x = true) {b : Bool} (h : eqK tk x k = some b) : keyOk tk k = true ∧ (b = true ↔ x.key = k.key) := by
 unfold eqK at h
 split at h
 ·split at h
  ·rename_i he
   subst he
   simp only [Option.some.injEq] at h
   subst h
   exact ⟨hx, by simp [V.key]⟩
  ·cases h
 ·simp only [Option.some.injEq] at h
  subst h
  exact ⟨rfl, by simp [V.key]⟩
 ·rename_i s s'
  simp only [Option.some.injEq] at h
  subst h
  refine ⟨rfl, ?_⟩
  simp only [V.key, Option.some.injEq, Value.string.injEq, beq_iff_eq]
  rw [ByteArray.toList_eq, ByteArray.toList_eq]
  obtain ⟨⟨s⟩⟩ := s
  obtain ⟨⟨s'⟩⟩ := s'
  constructor
  ·intro h
   have h' : s = s' := h
   rw [h']
  ·intro h
   rw [h]
 ·cases h
theorem findK_spec {tk : TK} {D : TypeDesc} (htk : tkOk P tk D = true) {x : V} (hx : keyOk tk x = true) {xu : Value} (hxu : x.key = some xu) : ∀ (es : List MapEntry) (kvs : List (V × V)) (i : Nat) (r : Option V),
  KV es kvs → findK tk x kvs = some r →
  (r = none ∧ Instr.findNow D xu es i = some none) ∨ ∃ v u j, r = some v ∧ (v = .undef ∨ v.key = some u) ∧ Instr.findNow D xu es i = some (some (i + j, u))
 | [], [], i, r, _, h => by simp only [findK, Option.some.injEq] at h; exact .inl ⟨h.symm, rfl⟩
 | e :: es, (k, v) :: kvs, i, r, hm, h => by
  obtain ⟨hk, hv, hm⟩ := hm
  simp only at hk hv
  simp only [findK] at h
  obtain ⟨xu', hxu', hxk⟩ := keyOk_spec htk hx
  rw [hxu] at hxu'
  cases hxu'
  split at h
  ·rename_i hq
   obtain ⟨hko, hiff⟩ := eqK_key hx hq
   obtain ⟨ku, hku, hkk⟩ := keyOk_spec htk hko
   rw [hku] at hk
   cases hk
   obtain ⟨r', hr', hi'⟩ := MapKept.sameNow_of_keys hxk hkk
   have : r' = true := hi'.2 (by have := hiff.1 rfl; rw [hxu, hku] at this; exact Option.some.inj this)
   subst this
   simp only [Option.some.injEq] at h
   exact .inr ⟨v, e.val, 0, h.symm, hv, by simp [Instr.findNow, hr']⟩
  ·rename_i hq
   obtain ⟨hko, hiff⟩ := eqK_key hx hq
   obtain ⟨ku, hku, hkk⟩ := keyOk_spec htk hko
   rw [hku] at hk
   cases hk
   obtain ⟨r', hr', hi'⟩ := MapKept.sameNow_of_keys hxk hkk
   have : r' = false := by
    cases r' with
    | false => rfl
    | true => have := hiff.2 (by rw [hxu, hku, hi'.1 rfl]); cases this
   subst this
   rcases findK_spec htk hx hxu es kvs (i + 1) r hm h with ⟨h1, h2⟩ | ⟨v', u, j, h1, h2, h3⟩
   ·exact .inl ⟨h1, by simp [Instr.findNow, hr', h2]⟩
   ·exact .inr ⟨v', u, j + 1, h1, h2, by simp [Instr.findNow, hr', h3]; omega⟩
  ·cases h
 | [], _ :: _, _, _, hm, _ => hm.elim
 | _ :: _, [], _, _, hm, _ => hm.elim
theorem updK_spec {tk : TK} {D : TypeDesc} (htk : tkOk P tk D = true) {x y : V} (hx : keyOk tk x = true) {xu yu : Value} (hxu : x.key = some xu) (hyu : y.key = some yu) : ∀ (es : List MapEntry) (kvs : List (V × V)) (i : Nat) (r : List (V × V)),
  KV es kvs → updK tk x y kvs = some r →
  (Instr.findNow D xu es i = some none ∧ r = kvs ++ [(x, y)]) ∨
  ∃ e j, Instr.findNow D xu es i = some (some (i + j, e.val)) ∧ es[j]? = some e ∧ e.key = xu ∧ KV (es.modify j (fun e => { e with key := xu, val := yu })) r
 | [], [], i, r, _, h => by simp only [updK, Option.some.injEq] at h; exact .inl ⟨rfl, h.symm⟩
 | e :: es, (k, v) :: kvs, i, r, hm, h => by
  obtain ⟨hk, hv, hm⟩ := hm
  simp only at hk hv
  simp only [updK] at h
  obtain ⟨xu', hxu', hxk⟩ := keyOk_spec htk hx
  rw [hxu] at hxu'
  cases hxu'
  split at h
  ·rename_i hq
   obtain ⟨hko, hiff⟩ := eqK_key hx hq
   obtain ⟨ku, hku, hkk⟩ := keyOk_spec htk hko
   rw [hku] at hk
   cases hk
   obtain ⟨r', hr', hi'⟩ := MapKept.sameNow_of_keys hxk hkk
   have hxe : xu = e.key := by have := hiff.1 rfl; rw [hxu, hku] at this; exact Option.some.inj this
   have : r' = true := hi'.2 hxe
   subst this
   simp only [Option.some.injEq] at h
   subst h
   refine .inr ⟨e, 0, by simp [Instr.findNow, hr'], rfl, hxe.symm, ?_⟩
   rw [List.modify_zero_cons]
   exact ⟨by rw [hku, hxe], .inr hyu, hm⟩
  ·rename_i hq
   obtain ⟨hko, hiff⟩ := eqK_key hx hq
   obtain ⟨ku, hku, hkk⟩ := keyOk_spec htk hko
   have hk0 := hk
   rw [hku] at hk
   cases hk
   obtain ⟨r', hr', hi'⟩ := MapKept.sameNow_of_keys hxk hkk
   have : r' = false := by
    cases r' with
    | false => rfl
    | true => have := hiff.2 (by rw [hxu, hku, hi'.1 rfl]); cases this
   subst this
   simp only [Option.map_eq_some_iff] at h
   obtain ⟨l', hl', rfl⟩ := h
   rcases updK_spec htk hx hxu hyu es kvs (i + 1) l' hm hl' with ⟨h1, h2⟩ | ⟨e', j, h1, h2, h3, h4⟩
   ·exact .inl ⟨by simp [Instr.findNow, hr', h1], by rw [h2]; rfl⟩
   ·refine .inr ⟨e', j + 1, by simp [Instr.findNow, hr', h1]; omega, by simpa using h2, h3, ?_⟩
    rw [List.modify_succ_cons]
    exact ⟨hk0, hv, h4⟩
  ·cases h
 | [], _ :: _, _, _, hm, _ => hm.elim
 | _ :: _, [], _, _, hm, _ => hm.elim
theorem mapKE_spec (hT : TOk P X.T) {T : TypeId} {ki ei : TI} (h : mapKE X T = some (ki, ei)) : ∃ k e Dk I z, P.underlying T = some (.map k e) ∧ P.underlying k = some Dk ∧ tkOk P ki.k Dk = true ∧ P.info? e = some I ∧ I.zero = some z ∧ ∀ w ok, RelD w ok ei.zero z := by
 unfold mapKE at h
 split at h
 ·rename_i k e _ _ _ hi
  obtain ⟨I0, D0, z0, hf0⟩ := hT T _ hi
  have htk := hf0.tk
  unfold tkOk at htk
  cases D0 <;> simp at htk
  obtain ⟨rfl, rfl⟩ := htk
  split at h
  ·rename_i a b ha hb
   simp only [Option.some.injEq, Prod.mk.injEq] at h
   obtain ⟨rfl, rfl⟩ := h
   obtain ⟨I1, D1, z1, hf1⟩ := hT k _ ha
   obtain ⟨I2, D2, z2, hf2⟩ := hT e _ hb
   exact ⟨k, e, D1, I2, z2, hf0.under, hf1.under, hf1.tk, hf2.info, hf2.zero, hf2.zrel⟩
  ·cases h
 ·cases h
theorem os_makeMap (hT : TOk P X.T) (hI : Inv ok B w ρ hp) (hE : ∀ x, Rel w (okAt ok B ρ w) ρ (opd env x) (a.eval x)) {T : TypeId} {r : Option Operand} (ho : o.op = .makeMap T r) (h : evalOp X env hp d (.makeMap T r) = some (v, eff)) : OpOk P ok B w ρ hp a o v eff := by
 simp only [evalOp] at h
 unfold mkMapV at h
 split at h
 ·rename_i p hq
  obtain ⟨k, e, Dk, I, z, hu, _⟩ := mapKE_spec hT (ki := p.1) (ei := p.2) hq
  split at h
  ·rename_i hc
   obtain ⟨rfl, rfl⟩ := some_pair h
   simp only [Bool.and_eq_true] at hc
   have hrun : (Instr.makeMap T (r.map a.eval)).run P w = .ok (.map (some w.heap.size)) (w.alloc (.map #[] 0)) := by
    cases r with
    | none => rfl
    | some x =>
     have hx := hE x
     have h1 := hc.1
     simp only [Option.map_some] at h1
     cases hxv : opd env x <;> rw [hxv] at h1 <;> simp [hintOk] at h1
     rw [hxv] at hx
     simp [Instr.makeMap, hx.int_inv, run_underlying hu, asInt, asIntOf, Result.andThen]
   have hown : ∀ g, own (.map (some w.heap.size)) = some g → w.heap.size ≤ g := by intro g hg; simp [own] at hg; omega
   have hb := below_alloc w (.map #[] 0)
   obtain ⟨hokk, hr1, hr2⟩ := add1_ok (w' := w.alloc (.map #[] 0)) hI (8 * d) (.map (some w.heap.size)) (by simpa using hc.2) hb.size (fun g hg => hb.block g hg) hown
   exact .step _ (by simp [execOp, ho, hrun]) (add1 hI (8 * d) (.map (some w.heap.size)) (.map []) (by simpa using hc.2) hb hown ⟨w.heap.size, #[], 0, rfl, hI.size, (MapKept.heap_alloc w _).1, trivial, by simp, by simp⟩) (.vec _ _ hr2 rfl)
  ·cases h
 ·cases h
theorem os_lookup (hT : TOk P X.T) (hI : Inv ok B w ρ hp) (hE : ∀ x, Rel w (okAt ok B ρ w) ρ (opd env x) (a.eval x)) {T : TypeId} {x i : Operand} {c : Bool} (ho : o.op = .lookup T x i c) (h : evalOp X env hp d (.lookup T x i c) = some (v, eff)) : OpOk P ok B w ρ hp a o v eff := by
 simp only [evalOp, Option.map_eq_some_iff] at h
 obtain ⟨q, hq, he⟩ := h
 obtain ⟨rfl, rfl⟩ := some_pair (congrArg some he)
 unfold lookV at hq
 split at hq
 ·rename_i ki ei kvs hke hm
  obtain ⟨k, e, Dk, I, z, hu, huk, htk, hinf, hz, hzr⟩ := mapKE_spec hT hke
  obtain ⟨b, g, es, clock, hxb, hb, hex, hr, hes, hkv, _⟩ := maps_rel hI (hE x) hm
  split at hq
  ·rename_i hko
   obtain ⟨iu, hiu, hik⟩ := keyOk_spec htk hko
   have hei := (hE i).of_key hiu
   have hzrun : (zeroValue e).run P w = .ok z w := by simp [zeroValue, typeInfo, hinf, hz, Result.andThen]
   cases hf : findK ki.k (opd env i) kvs with
   | none => rw [hf] at hq; cases hq
   | some r =>
    rw [hf] at hq
    rcases findK_spec htk hko hiu es.toList kvs 0 r hkv hf with ⟨rfl, h1⟩ | ⟨v1, u, j, rfl, h1, h2⟩
    ·simp only [Option.some.injEq] at hq
     subst hq
     refine .value hI (if c then .tuple #[z, .bool false] else z) (by simp [execOp, ho, hex, hei, Instr.lookup, run_underlying hu, MapKept.run_getObj_map hes, MapKept.run_checkKey huk hik, MapKept.run_findKey huk h1, hzrun, Result.andThen]) ?_
     cases c
     ·exact .ro (hzr _ _)
     ·refine .ro (.tup [ei.zero, .bool false] [z, .bool false] rfl fun j c v hc hv => ?_)
      match j with
      | 0 => simp at hc hv; subst hc; subst hv; exact hzr _ _
      | 1 => simp at hc hv; subst hc; subst hv; exact .bool _
      | j + 2 => simp at hc
    ·simp only [Option.some.injEq] at hq
     subst hq
     refine .value hI (if c then .tuple #[u, .bool true] else u) (by simp [execOp, ho, hex, hei, Instr.lookup, run_underlying hu, MapKept.run_getObj_map hes, MapKept.run_checkKey huk hik, MapKept.run_findKey huk h2, Result.andThen]) ?_
     cases c
     ·exact .ro (h1.elim (fun h => by subst h; exact .undef _) key_rel)
     ·refine .ro (.tup [v1, .bool true] [u, .bool true] rfl fun j c v hc hv => ?_)
      match j with
      | 0 => simp at hc hv; subst hc; subst hv; exact h1.elim (fun h => by subst h; exact .undef _) key_rel
      | 1 => simp at hc hv; subst hc; subst hv; exact .bool _
      | j + 2 => simp at hc
  ·cases hq
 ·cases hq
theorem os_mapUpdate (hT : TOk P X.T) (hI : Inv ok B w ρ hp) (hE : ∀ x, Rel w (okAt ok B ρ w) ρ (opd env x) (a.eval x)) {T : TypeId} {x i y : Operand} (ho : o.op = .mapUpdate T x i y) (h : evalOp X env hp d (.mapUpdate T x i y) = some (v, eff)) : OpOk P ok B w ρ hp a o v eff := by
 simp only [evalOp] at h
 unfold updV at h
 split at h
 ·rename_i ki ei b kvs hke hxb hm
  obtain ⟨k, e, Dk, I, z, hu, huk, htk, hinf, hz, hzr⟩ := mapKE_spec hT hke
  have hx := hE x
  rw [hxb] at hx hm
  obtain ⟨b', g, es, clock, hxb', hb, hex, hr, hes, hkv, hbn, hnd⟩ := maps_rel hI hx hm
  cases hxb'
  split at h
  ·rename_i hko
   simp only [Bool.and_eq_true] at hko
   obtain ⟨iu, hiu, hik⟩ := keyOk_spec htk hko.1
   obtain ⟨yu, hyu⟩ := Option.isSome_iff_exists.1 hko.2
   have hei := (hE i).of_key hiu
   have hey := (hE y).of_key hyu
   cases hf : updK ki.k (opd env i) (opd env y) kvs with
   | none => rw [hf] at h; cases h
   | some r =>
    rw [hf] at h
    obtain ⟨rfl, rfl⟩ := some_pair h
    have hgB : B ≤ g := (hI.own_ge hr (g := g) rfl).1
    have key : ∀ es' clock', (Instr.mapUpdate T (.map (some g)) iu yu).run P w = .ok () { w with heap := w.heap.setIfInBounds g (.map es' clock') } → KV es'.toList r → ((∀ e ∈ es'.toList, e.born < clock') ∧ (es'.toList.map (·.born)).Nodup) → OpOk P ok B w ρ hp a o .undef (.write b (.map r)) := by
     intro es' clock' hrun hes' hbn'
     have hset := MapKept.heap_set (o' := .map es' clock') hes
     have hw := hI.write (w' := { w with heap := w.heap.setIfInBounds g (.map es' clock') }) b (.map (some g)) (.map r) hr (by simp) (fun g' _ hne => hset.2 g' fun e => hne (by rw [e]; rfl)) ⟨g, es', clock', rfl, hgB, hset.1, hes', hbn'⟩
     refine OpOk.skip (w' := { w with heap := w.heap.setIfInBounds g (.map es' clock') }) (ρ' := ρ) (by simp [execOp, ho, hex, hei, hey, hrun, Result.andThen]) ⟨⟨rfl, rfl, rfl, by simp, fun k' hk' => hset.2 k' (by omega)⟩, hw.1, hw.2, fun g' _ hn => hset.2 g' fun e => hn b _ hr (by rw [e]; rfl), fun b1 s1 g1 h1 h2 => .inr ⟨b1, s1, h1, h2⟩, fun _ _ => rfl, by simp⟩
    rcases updK_spec htk hko.1 hiu hyu es.toList kvs 0 r hkv hf with ⟨h1, rfl⟩ | ⟨e0, j, h1, h2, h3, h4⟩
    ·refine key (es.push ⟨iu, yu, clock⟩) (clock + 1) (by simp [Instr.mapUpdate, run_underlying hu, MapKept.run_getObj_map hes, MapKept.run_checkKey huk hik, MapKept.run_findKey huk h1, MapKept.run_setObj_map _ hes, Result.andThen]) ?_ ?_
     ·rw [Array.toList_push]; exact hkv.app hiu hyu
     ·constructor
      ·intro e he
       rw [Array.toList_push, List.mem_append] at he
       rcases he with he | he
       ·exact Nat.lt_succ_of_lt (hbn e he)
       ·simp at he
        subst he
        exact Nat.lt_succ_self _
      ·rw [Array.toList_push, List.map_append]
       refine List.nodup_append.2 ⟨hnd, by simp, ?_⟩
       intro x hx y hy
       obtain ⟨e, he, rfl⟩ := List.mem_map.1 hx
       simp at hy
       subst hy
       have := hbn e he
       omega
    ·have hj : es[j]? = some e0 := by simpa using h2
     rw [Nat.zero_add] at h1
     refine key (es.modify j fun e => { e with key := iu, val := yu }) clock (by simp [Instr.mapUpdate, run_underlying hu, MapKept.run_getObj_map hes, MapKept.run_checkKey huk hik, MapKept.run_findKey huk h1, hj, h3, MapKept.run_keyThatStays hik, MapKept.run_setObj_map _ hes, Result.andThen]) ?_ ?_
     ·rw [Array.toList_modify]
      exact h4
     ·rw [Array.toList_modify]
      have hb0 : ∀ (l : List MapEntry) (j : Nat), (l.modify j fun e => { e with key := iu, val := yu }).map (·.born) = l.map (·.born) := by
       intro l
       induction l with
       | nil => intro j; simp
       | cons x l ih =>
        intro j
        cases j with
        | zero => rfl
        | succ j => rw [List.modify_succ_cons, List.map_cons, List.map_cons, ih]
      refine ⟨fun e he => ?_, by rw [hb0]; exact hnd⟩
      have hm : e.born ∈ (es.toList.modify j fun e => { e with key := iu, val := yu }).map (·.born) := List.mem_map.2 ⟨e, he, rfl⟩
      rw [hb0] at hm
      obtain ⟨e', he', hq⟩ := List.mem_map.1 hm
      have := hbn e' he'
      omega
  ·cases h
 ·cases h
end
section
variable {P : Program} {X : Ctx} {ok : Nat → Prop} {B : Nat} {w w' : World} {ρ : Nat → Option Value} {hp : Hp} {env : Env} {a : Act} {o : Oper} {v : V} {eff : Eff} {d : Nat}
theorem foldl_set {α : Type} (off : Nat) : ∀ (l : List α) (k : Nat) (cs : Array α), off + k + l.length ≤ cs.size →
  ((l.zipIdx k).foldl (fun cs (c, j) => cs.setIfInBounds (off + j) c) cs).toList = putL (off + k) l cs.toList
 | [], k, cs, h => by simp [putL]
 | x :: l, k, cs, h => by
  simp at h
  rw [List.zipIdx_cons, List.foldl_cons, foldl_set off l (k + 1) _ (by simp; omega)]
  apply take_eq
  ·rw [putL_length (by simp; omega), putL_length (by simp; omega)]; simp
  ·intro j _
   rw [putL_get (by simp; omega), putL_get (by simp; omega)]
   simp only [Array.toList_setIfInBounds, List.length_cons]
   by_cases h1 : off + (k + 1) ≤ j ∧ j < off + (k + 1) + l.length
   ·rw [if_pos h1, if_pos (by omega), show j - (off + k) = (j - (off + (k + 1))) + 1 by omega]; simp
   ·rw [if_neg h1]
    by_cases h2 : j = off + k
    ·subst h2
     rw [if_pos (by omega), List.getElem?_set, if_pos rfl, if_pos (by simp; omega)]
     simp
    ·rw [if_neg (by omega), List.getElem?_set, if_neg (by omega)]
theorem fill_rel (place : Nat → Option (Nat × Nat)) : ∀ (pv : List (Nat × V)) (pu : List (Nat × Value)) (cs cs' : List V) (us : Array Value), pv.length = pu.length →
  (∀ (j : Nat) p q, pv[j]? = some p → pu[j]? = some q → p.1 = q.1 ∧ Rel w ok ρ p.2 q.2) → cs.length = us.size → (∀ u ∈ us.toList, u.oneCell' = true) →
  (∀ (j : Nat) c u, cs[j]? = some c → us.toList[j]? = some u → Rel w ok ρ c u) → fillV place cs pv = some cs' →
  ∃ us', Instr.fill place us pu = some us' ∧ cs'.length = us'.size ∧ (∀ u ∈ us'.toList, u.oneCell' = true) ∧ ∀ (j : Nat) c u, cs'[j]? = some c → us'.toList[j]? = some u → Rel w ok ρ c u
 | [], [], cs, cs', us, _, _, hl, h1, hr, h => by
  simp [fillV] at h
  subst h
  exact ⟨us, rfl, hl, h1, hr⟩
 | [], _ :: _, _, _, _, hl, _, _, _, _, _ => by simp at hl
 | _ :: _, [], _, _, _, hl, _, _, _, _, _ => by simp at hl
 | (i, x) :: pv, (i', u) :: pu, cs, cs', us, hlen, hp, hl, h1, hr, h => by
  obtain ⟨hi, hxu⟩ := hp 0 _ _ rfl rfl
  simp at hi hxu
  subst hi
  unfold fillV at h
  split at h
  ·cases h
  ·rename_i off size hpl
   split at h
   ·rename_i hc
    obtain ⟨hsz, hle, hst⟩ := hc
    obtain ⟨su, ou, ru⟩ := hxu.stor_cells hst
    have hle' : off + u.cells.toList.length ≤ us.toList.length := by simp; omega
    have hfold : (u.cells.zipIdx.foldl (fun cs (c, j) => cs.setIfInBounds (off + j) c) us).toList = putL off u.cells.toList us.toList := by
     rw [← Array.foldl_toList, Array.toList_zipIdx]
     have := foldl_set off u.cells.toList 0 us (by simpa using hle')
     simpa using this
    have hput : cs.take off ++ x.cells ++ cs.drop (off + size) = putL off x.cells cs := by unfold putL; rw [hsz]
    rw [hput] at h
    have hlex : off + x.cells.length ≤ cs.length := by omega
    generalize hus : u.cells.zipIdx.foldl (fun cs (c, j) => cs.setIfInBounds (off + j) c) us = us1 at hfold
    have hus1 : us1.size = us.size := by
     have : us1.toList.length = us.toList.length := by rw [hfold, putL_length hle']
     simpa using this
    obtain ⟨us', hf, r⟩ := fill_rel place pv pu (putL off x.cells cs) cs' us1 (by simpa using hlen) (fun j p q hp1 hq1 => hp (j + 1) p q (by simpa using hp1) (by simpa using hq1))
     (by rw [putL_length hlex, hus1, hl]) (fun y hy => by
      rw [hfold] at hy
      unfold putL at hy
      rcases List.mem_append.1 hy with hy | hy
      ·rcases List.mem_append.1 hy with hy | hy
       ·exact h1 y (List.mem_of_mem_take hy)
       ·exact ou y hy
      ·exact h1 y (List.mem_of_mem_drop hy)) (fun j c y hc hy => by
      rw [hfold] at hy
      rw [putL_get hlex] at hc
      rw [putL_get hle'] at hy
      simp only [Array.length_toList, su] at hy
      split at hc
      ·rename_i hj; rw [if_pos hj] at hy; exact ru _ c y hc hy
      ·rename_i hj; rw [if_neg hj] at hy; exact hr _ c y hc hy) h
    refine ⟨us', ?_, r⟩
    unfold Instr.fill
    rw [hpl]
    simp only
    rw [if_neg (by simp at hle' ⊢; omega), hus]
    exact hf
   ·cases h
theorem os_build (hT : TOk P X.T) (hI : Inv ok B w ρ hp) (hE : ∀ x, Rel w (okAt ok B ρ w) ρ (opd env x) (a.eval x)) {T : TypeId} {ps : Array (Nat × Operand)} (ho : o.op = .build T ps) (h : evalOp X env hp d (.build T ps) = some (v, eff)) : OpOk P ok B w ρ hp a o v eff := by
 obtain ⟨ps⟩ := ps
 simp only [evalOp] at h
 split at h
 ·rename_i fs sz by' zz hi
  obtain ⟨I, D, z, hf⟩ := hT T _ hi
  have htk := hf.tk
  unfold tkOk at htk
  cases D <;> simp at htk
  rename_i fields
  obtain ⟨htk, hsome⟩ := htk
  split at h
  ·rename_i cs hfill
   obtain ⟨rfl, rfl⟩ := some_pair h
   have hzr := hf.zrel w (okAt ok B ρ w)
   have hzst : zz.length = z.cells.size ∧ ∀ (j : Nat) c u, zz[j]? = some c → z.cells.toList[j]? = some u → RelD w (okAt ok B ρ w) c u := by
    have hrel : RelD w (okAt ok B ρ w) (.agg zz) z := hzr
    cases hrel with
    | agg cs vs hl h1 hh => exact ⟨by simpa [Value.cells] using hl, by simpa [Value.cells] using hh⟩
   obtain ⟨us', hf', hl', h1', hr'⟩ := fill_rel (w := w) (ok := okAt ok B ρ w) (ρ := ρ) (fun i => (fs[i]?).map fun f => (f.1, f.2.1)) (ps.map fun p => (p.1, opd env p.2)) (ps.map fun p => (p.1, a.eval p.2)) zz cs z.cells (by simp)
    (fun j p q hp1 hq1 => by
     rw [List.getElem?_map] at hp1 hq1
     cases hj : ps[j]? with
     | none => simp [hj] at hp1
     | some y => simp [hj] at hp1 hq1; subst hp1; subst hq1; exact ⟨rfl, hE _⟩) hzst.1 (fun u hu => Array.all_eq_true_iff_forall_mem.1 hf.z1 u (by simpa using hu)) (fun j c u hc hu => .ro (hzst.2 j c u hc hu)) hfill
   have hplaces : fields.toList.mapM (fun f => (P.info? f.type).map fun i => (f.offset, i.size)) = some (fields.toList.map fun f => (f.offset, P.cellsOf f.type)) := by
    have : ∀ l : List Field, (∀ f ∈ l, (P.info? f.type).isSome = true) → l.mapM (fun f => (P.info? f.type).map fun i => (f.offset, i.size)) = some (l.map fun f => (f.offset, P.cellsOf f.type)) := by
     intro l
     induction l with
     | nil => intro _; rfl
     | cons f l ih =>
      intro hh
      obtain ⟨fi, hfi⟩ := Option.isSome_iff_exists.1 (hh f (by simp))
      rw [List.mapM_cons, ih fun g hg => hh g (List.mem_cons_of_mem _ hg)]
      simp [hfi, Program.cellsOf]
    refine this _ fun f hfm => ?_
    obtain ⟨j, hj, rfl⟩ := List.mem_iff_getElem.1 hfm
    simpa using hsome j (by simpa using hj)
   have hb : P.built T (ps.map fun p => (p.1, a.eval p.2)) = some us' := by
    unfold Program.built
    rw [hf.info, hf.under]
    simp only [hf.zero, hplaces]
    rw [← hf']
    congr 1
    funext i
    simp [htk]
    cases fields[i]? <;> simp
   have hrun := run_build (P := P) w T (List.map (fun x => (x.fst, a.eval x.snd)) ps).toArray us' (by simpa using hb)
   have : us' = us'.toList.toArray := by simp
   exact .value hI (.agg us') (by simp [execOp, ho, hrun]) (by rw [this]; exact .agg cs us'.toList (by simpa using hl') h1' hr')
  ·cases h
 ·cases h
theorem new_row (hI : Inv ok B w ρ hp) (n : Nat) (T : TypeId) (sz : Nat) (es : List V) (vs : List Value) (cur : Array Value) (hf : hp n = none) (hpos : 0 < sz) (hl : vs.length = es.length) (hsz : ∀ v ∈ vs, v.cells.size = sz)
  (h1 : ∀ v ∈ vs, ∀ u ∈ v.cells.toList, u.oneCell' = true) (hr : ∀ (i : Nat) e v, es[i]? = some e → vs[i]? = some v → RelD w (okAt ok B ρ w) e v) (hcur : cur.toList = vs.flatMap (·.cells.toList)) (hmax : es.length ≤ maxLen) :
  ∃ ρ', Step ok B w ρ (w.alloc (.cells cur T)) ρ' ((Eff.new [(n, .vec T sz es)]).hp hp) (Eff.new [(n, .vec T sz es)]).tr (Eff.new [(n, .vec T sz es)]).tc ∧
   Rel (w.alloc (.cells cur T)) (okAt ok B ρ' (w.alloc (.cells cur T))) ρ' (.vec n) (.slice (some ⟨w.heap.size, 0, none⟩) es.length es.length) := by
 have hown : ∀ g, own (.slice (some ⟨w.heap.size, 0, none⟩) es.length es.length) = some g → w.heap.size ≤ g := by
  intro g hg
  simp only [own] at hg
  split at hg
  ·cases hg
  ·simp at hg; omega
 have hb := below_alloc w (.cells cur T)
 obtain ⟨hokk, hr1, hr2⟩ := add1_ok (w' := w.alloc (.cells cur T)) hI n (.slice (some ⟨w.heap.size, 0, none⟩) es.length es.length) hf hb.size (fun g hg => hb.block g hg) hown
 have hlen : cur.size = es.length * sz := by
  have : cur.toList.length = es.length * sz := by rw [hcur, flat_length hsz, hl]
  simpa using this
 refine ⟨_, add1 hI n _ (.vec T sz es) hf hb hown ⟨hpos, vs, hl, hsz, h1, fun i e v he hv => (hr i e v he hv).mono hokk, .inr ⟨by rw [flat_length hsz, hl], .inr ⟨w.heap.size, es.length, cur, rfl, hI.size, heap_alloc_new w _, Nat.le_refl _, hmax, hlen, ?_⟩⟩⟩, .vec n _ hr2 rfl⟩
 rw [List.take_of_length_le (by simp [hlen]), hcur]
theorem step_grow (hI : Inv ok B w ρ hp) (hb : Below w.heap.size w w') : Step ok B w ρ w' ρ hp id (fun _ => false) ∧ (∀ g, okAt ok B ρ w g → okAt ok B ρ w' g ∧ w'.heap[g]? = w.heap[g]?) := by
 have hs := hb.size
 have hkeep : ∀ g, g < w.heap.size → w'.heap[g]? = w.heap[g]? := fun g hg => hb.block g hg
 have hokk : ∀ g, okAt ok B ρ w g → okAt ok B ρ w' g ∧ w'.heap[g]? = w.heap[g]? := by
  intro g hg
  obtain ⟨ho, hlt, hno⟩ := hg
  exact ⟨⟨ho, by omega, hno⟩, hkeep g hlt⟩
 refine ⟨⟨hb.mono hI.size, ⟨Nat.le_trans hI.size hs, fun b k hk => ?_, hI.dom, hI.inj, fun g hg => hI.new g (by omega), hI.fr⟩, fun v val hv => hv.mono hokk fun _ _ h => h, fun g hg _ => hkeep g hg, fun b sv g h1 h2 => .inr ⟨b, sv, h1, h2⟩, fun _ _ => rfl, hs⟩, hokk⟩
 obtain ⟨s, hr, hb'⟩ := hI.blk b k hk
 exact ⟨s, hr, hb'.mono' hokk hs (fun g ho => hkeep g (hb'.own_ge ho).2) fun _ _ h => h⟩
theorem born_row (hI : Inv ok B w ρ hp) (T : TypeId) (sz : Nat) (es : List V) (vs : List Value) (cur : Array Value) (hl : vs.length = es.length) (hsz : ∀ v ∈ vs, v.cells.size = sz)
  (h1 : ∀ v ∈ vs, ∀ u ∈ v.cells.toList, u.oneCell' = true) (hr : ∀ (i : Nat) e v, es[i]? = some e → vs[i]? = some v → RelD w (okAt ok B ρ w) e v) (hcur : cur.toList = vs.flatMap (·.cells.toList)) (hmax : es.length ≤ maxLen) :
  Step ok B w ρ (w.alloc (.cells cur T)) ρ hp id (fun _ => false) ∧ Rel (w.alloc (.cells cur T)) (okAt ok B ρ (w.alloc (.cells cur T))) ρ (.row sz es) (.slice (some ⟨w.heap.size, 0, none⟩) es.length es.length) := by
 have hb := below_alloc w (.cells cur T)
 obtain ⟨hst, hokk⟩ := step_grow hI hb
 have hlen : cur.size = es.length * sz := by
  have : cur.toList.length = es.length * sz := by rw [hcur, flat_length hsz, hl]
  simpa using this
 have hown : (w.alloc (.cells cur T)).ownsRow B T sz (.slice (some ⟨w.heap.size, 0, none⟩) es.length es.length) es.length (vs.flatMap (·.cells.toList)) := by
  refine ⟨by rw [flat_length hsz, hl], .inr ⟨w.heap.size, es.length, cur, rfl, hI.size, heap_alloc_new w _, Nat.le_refl _, hmax, hlen, ?_⟩⟩
  rw [List.take_of_length_le (by simp [hlen]), hcur]
 refine ⟨hst, .ro (.row sz es w.heap.size 0 es.length vs ⟨hI.new _ (Nat.le_refl _), ?_, fun b sv hs ho => ?_⟩ (Nat.le_refl _) hmax hl hsz h1 (fun i v hv => ?_) fun i e v he hv => (hr i e v he hv).mono hokk)⟩
 ·have := (Array.getElem?_eq_some_iff.1 (heap_alloc_new w (.cells cur T))).1; exact this
 ·have := (hI.own_ge hs ho).2; omega
 ·intro k u hu
  have hk' : k < sz := by have := (List.getElem?_eq_some_iff.1 hu).1; have := hsz v (List.mem_of_getElem? hv); simp at *; omega
  have := hown.cells (g := w.heap.size) rfl (i * sz + k) u (by rw [flat_get hsz hv hk']; exact hu)
  rwa [Addr.add_mid, ← Nat.add_assoc, Nat.zero_add, ← Nat.zero_add (i * sz)] at this
theorem zipIdx_all {α : Type} {f : α × Nat → Bool} {l : List α} (h : l.zipIdx.all f = true) {i : Nat} {x : α} (hx : l[i]? = some x) : f (x, i) = true := by
 refine List.all_eq_true.1 h (x, i) ?_
 rw [List.mem_iff_getElem?]
 exact ⟨i, by rw [List.getElem?_zipIdx, hx]; simp⟩
theorem fill_row (size : Nat) : ∀ (ps : List (Nat × Value)) (pre : List Value) (cells : Array Value), (∀ (j : Nat) p, ps[j]? = some p → p.1 = pre.length + j) → (∀ p ∈ ps, p.2.cells.size = size) → cells.size = (pre.length + ps.length) * size →
  cells.toList.take (pre.length * size) = pre.flatMap (·.cells.toList) →
  ∃ cells', Instr.fill (fun i => some (i * size, size)) cells ps = some cells' ∧ cells'.toList = (pre ++ ps.map (·.2)).flatMap (·.cells.toList)
 | [], pre, cells, _, _, hc, ht => by
  refine ⟨cells, rfl, ?_⟩
  rw [List.map_nil, List.append_nil, ← ht, List.take_of_length_le (by simp at hc; simp [hc])]
 | (i, u) :: ps, pre, cells, hi, hs, hc, ht => by
  have hu := hs (i, u) (by simp)
  have hi0 := hi 0 _ rfl
  simp at hu hi0
  subst hi0
  have hc' : cells.size = pre.length * size + size + ps.length * size := by rw [hc, List.length_cons, Nat.add_mul, Nat.add_mul, Nat.one_mul]; omega
  have hle' : pre.length * size + u.cells.toList.length ≤ cells.toList.length := by simp [hu]; omega
  have hfold : (u.cells.zipIdx.foldl (fun cs (c, j) => cs.setIfInBounds (pre.length * size + j) c) cells).toList = putL (pre.length * size) u.cells.toList cells.toList := by
   rw [← Array.foldl_toList, Array.toList_zipIdx]
   have := foldl_set (pre.length * size) u.cells.toList 0 cells (by simpa using hle')
   simpa using this
  generalize hus : u.cells.zipIdx.foldl (fun cs (c, j) => cs.setIfInBounds (pre.length * size + j) c) cells = cells1 at hfold
  have h1 : cells1.size = cells.size := by
   have : cells1.toList.length = cells.toList.length := by rw [hfold, putL_length hle']
   simpa using this
  obtain ⟨cells', hf, he⟩ := fill_row size ps (pre ++ [u]) cells1 (fun j p hp => by have := hi (j + 1) p (by simpa using hp); simp; omega) (fun p hp => hs p (List.mem_cons_of_mem _ hp))
   (by rw [h1, hc', List.length_append]; simp [Nat.add_mul]) (by
   rw [hfold, List.flatMap_append, ← ht]
   unfold putL
   have hl1 : (cells.toList.take (pre.length * size)).length = pre.length * size := by simp; omega
   rw [List.length_append, Nat.add_mul, List.append_assoc]
   simp only [List.length_singleton, Nat.one_mul]
   have ht2 : u.cells.toList.take size = u.cells.toList := List.take_of_length_le (by simp [hu])
   rw [List.take_append, hl1, List.take_of_length_le (by rw [hl1]; omega), Nat.add_sub_cancel_left, List.take_append, ht2]
   simp [hu])
  refine ⟨cells', ?_, by simpa using he⟩
  unfold Instr.fill
  simp only
  rw [if_neg (by simp at hle' ⊢; omega), hus, ← hf]
theorem os_buildSlice (hT : TOk P X.T) (hI : Inv ok B w ρ hp) (hE : ∀ x, Rel w (okAt ok B ρ w) ρ (opd env x) (a.eval x)) {T : TypeId} {n : Nat} {ps : Array (Nat × Operand)} (ho : o.op = .buildSlice T n ps) (h : evalOp X env hp d (.buildSlice T n ps) = some (v, eff)) : OpOk P ok B w ρ hp a o v eff := by
 obtain ⟨ps⟩ := ps
 simp only [evalOp] at h
 cases hnv : X.nilv d with
 | some q =>
  rw [hnv] at h
  simp only at h
  unfold bornV at h
  split at h
  ·rename_i e _ _ _ hi
   obtain ⟨I0, D0, z0, hf0⟩ := hT T _ hi
   have htk := hf0.tk
   unfold tkOk at htk
   cases D0 <;> simp at htk
   subst htk
   split at h
   ·rename_i i hi2
    obtain ⟨I, D, z, hf⟩ := hT _ i hi2
    split at h
    ·rename_i hc
     obtain ⟨hpos, hn, hroom, hall⟩ := hc
     obtain ⟨rfl, rfl⟩ := some_pair h
     have hn : n = ps.length := by simpa using hn
     subst hn
     have hel : ∀ (j : Nat) p, ps[j]? = some p → p.1 = j ∧ V.data (opd env p.2) = true ∧ stor (opd env p.2) = true ∧ (opd env p.2).cells.length = i.size := fun j p hp => by
      have := zipIdx_all hall hp
      simp at this
      exact ⟨this.1.1.1, this.1.1.2, this.1.2, this.2⟩
     have hvs : ∀ v ∈ ps.map (fun p => a.eval p.2), v.cells.size = i.size ∧ ∀ u ∈ v.cells.toList, u.oneCell' = true := by
      intro v hv
      obtain ⟨p, hp, rfl⟩ := List.mem_map.1 hv
      obtain ⟨j, hj⟩ := List.mem_iff_getElem?.1 hp
      obtain ⟨_, _, hst, hcl⟩ := hel j p hj
      obtain ⟨s1, s2, _⟩ := (hE p.2).stor_cells hst
      exact ⟨by omega, s2⟩
     obtain ⟨cells', hfill, hcells⟩ := fill_row i.size (ps.map fun p => (p.1, a.eval p.2)) [] ((Array.range (ps.length * i.size)).map (z.cells[· % z.cells.size]!)) (fun j p hp => by
      rw [List.getElem?_map] at hp
      cases hj : ps[j]? with
      | none => simp [hj] at hp
      | some q => simp [hj] at hp; subst hp; simpa using (hel j q hj).1) (fun p hp => by
      obtain ⟨q, hq, rfl⟩ := List.mem_map.1 hp
      exact (hvs _ (List.mem_map.2 ⟨q, hq, rfl⟩)).1) (by simp) (by simp)
     obtain ⟨hst, hrel⟩ := born_row hI e i.size (ps.map fun p => opd env p.2) (ps.map fun p => a.eval p.2) cells' (by simp) (fun v hv => (hvs v hv).1) (fun v hv => (hvs v hv).2) (fun j el vv he hv => by
      rw [List.getElem?_map] at he hv
      cases hj : ps[j]? with
      | none => simp [hj] at he
      | some q => simp [hj] at he hv; subst he; subst hv; exact (hE q.2).toD (hel j q hj).2.1) (by rw [List.nil_append, List.map_map] at hcells; exact hcells) (by
      simp only [List.length_map, maxLen]
      have := Nat.mul_le_mul_left ps.length (show 1 ≤ i.size by omega)
      omega)
     rw [List.length_map] at hrel
     refine .step _ ?_ hst hrel
     by_cases hz : ps.length * i.size = 0
     ·have h0 : ps = [] := by
       cases ps with
       | nil => rfl
       | cons p ps => have := Nat.mul_pos (show 0 < (p :: ps).length by simp) hpos; omega
      subst h0
      simp at hfill
      have hr0 : Array.range 0 = #[] := rfl
      have : cells' = #[] := by simpa [Instr.fill, hr0] using hfill.symm
      subst this
      simp [execOp, ho, Instr.buildSlice, run_underlying hf0.under, sizeOf, typeInfo, hf.info, newRow, Instr.fill, hr0]
     ·have hroom' : ¬ (16777216 < ps.length * i.size) := by omega
      have hfill' : Instr.fill (fun j => some (j * i.size, i.size)) ((Array.range (ps.length * i.size)).map (z.cells[· % z.cells.size]!)) (List.map (fun x => (x.fst, a.eval x.snd)) ps) = some cells' := hfill
      simp [execOp, ho, Instr.buildSlice, run_underlying hf0.under, sizeOf, typeInfo, zeroValue, hf.info, hf.size, hf.zero, hroom', hz, newRow, hfill']
    ·cases h
   ·cases h
  ·cases h
 | none =>
  rw [hnv] at h
  simp only at h
  split at h
  ·rename_i e _ _ _ hi
   obtain ⟨I0, D0, z0, hf0⟩ := hT T _ hi
   have htk := hf0.tk
   unfold tkOk at htk
   cases D0 <;> simp at htk
   subst htk
   split at h
   ·rename_i i hi2
    obtain ⟨I, D, z, hf⟩ := hT _ i hi2
    split at h
    ·rename_i hc
     obtain ⟨hfr, hpos, hn, hroom, hall⟩ := hc
     obtain ⟨rfl, rfl⟩ := some_pair h
     have hn : n = ps.length := by simpa using hn
     subst hn
     have hel : ∀ (j : Nat) p, ps[j]? = some p → p.1 = j ∧ V.data (opd env p.2) = true ∧ stor (opd env p.2) = true ∧ (opd env p.2).cells.length = i.size := fun j p hp => by
      have := zipIdx_all hall hp
      simp at this
      exact ⟨this.1.1.1, this.1.1.2, this.1.2, this.2⟩
     have hvs : ∀ v ∈ ps.map (fun p => a.eval p.2), v.cells.size = i.size ∧ ∀ u ∈ v.cells.toList, u.oneCell' = true := by
      intro v hv
      obtain ⟨p, hp, rfl⟩ := List.mem_map.1 hv
      obtain ⟨j, hj⟩ := List.mem_iff_getElem?.1 hp
      obtain ⟨_, _, hst, hcl⟩ := hel j p hj
      obtain ⟨s1, s2, _⟩ := (hE p.2).stor_cells hst
      exact ⟨by omega, s2⟩
     obtain ⟨cells', hfill, hcells⟩ := fill_row i.size (ps.map fun p => (p.1, a.eval p.2)) [] ((Array.range (ps.length * i.size)).map (z.cells[· % z.cells.size]!)) (fun j p hp => by
      rw [List.getElem?_map] at hp
      cases hj : ps[j]? with
      | none => simp [hj] at hp
      | some q => simp [hj] at hp; subst hp; simpa using (hel j q hj).1) (fun p hp => by
      obtain ⟨q, hq, rfl⟩ := List.mem_map.1 hp
      exact (hvs _ (List.mem_map.2 ⟨q, hq, rfl⟩)).1) (by simp) (by simp)
     obtain ⟨ρ', hst, hrel⟩ := new_row hI (8 * d) e i.size (ps.map fun p => opd env p.2) (ps.map fun p => a.eval p.2) cells' (by simpa using hfr) hpos (by simp) (fun v hv => (hvs v hv).1) (fun v hv => (hvs v hv).2) (fun j el vv he hv => by
      rw [List.getElem?_map] at he hv
      cases hj : ps[j]? with
      | none => simp [hj] at he
      | some q => simp [hj] at he hv; subst he; subst hv; exact (hE q.2).toD (hel j q hj).2.1) (by rw [List.nil_append, List.map_map] at hcells; exact hcells) (by
      simp only [List.length_map, maxLen]
      have := Nat.mul_le_mul_left ps.length (show 1 ≤ i.size by omega)
      omega)
     rw [List.length_map] at hrel
     refine .step _ ?_ hst hrel
     by_cases hz : ps.length * i.size = 0
     ·have h0 : ps = [] := by
       cases ps with
       | nil => rfl
       | cons p ps => have := Nat.mul_pos (show 0 < (p :: ps).length by simp) hpos; omega
      subst h0
      simp at hfill
      have hr0 : Array.range 0 = #[] := rfl
      have : cells' = #[] := by simpa [Instr.fill, hr0] using hfill.symm
      subst this
      simp [execOp, ho, Instr.buildSlice, run_underlying hf0.under, sizeOf, typeInfo, hf.info, newRow, Instr.fill, hr0]
     ·have hroom' : ¬ (16777216 < ps.length * i.size) := by omega
      have hfill' : Instr.fill (fun j => some (j * i.size, i.size)) ((Array.range (ps.length * i.size)).map (z.cells[· % z.cells.size]!)) (List.map (fun x => (x.fst, a.eval x.snd)) ps) = some cells' := hfill
      simp [execOp, ho, Instr.buildSlice, run_underlying hf0.under, sizeOf, typeInfo, zeroValue, hf.info, hf.size, hf.zero, hroom', hz, newRow, hfill']
    ·cases h
   ·cases h
  ·cases h
theorem os_makeSlice (hT : TOk P X.T) (hI : Inv ok B w ρ hp) (hE : ∀ x, Rel w (okAt ok B ρ w) ρ (opd env x) (a.eval x)) {T : TypeId} {x y : Operand} (ho : o.op = .makeSlice T x y) (h : evalOp X env hp d (.makeSlice T x y) = some (v, eff)) : OpOk P ok B w ρ hp a o v eff := by
 simp only [evalOp] at h
 have hx := hE x
 have hy := hE y
 unfold makeV at h
 split at h
 ·rename_i l c hqx hqy
  rw [hqx] at hx
  rw [hqy] at hy
  have ex := hx.int_inv
  have ey := hy.int_inv
  split at h
  ·rename_i e _ _ _ hi
   obtain ⟨I0, D0, z0, hf0⟩ := hT T _ hi
   have htk := hf0.tk
   unfold tkOk at htk
   cases D0 <;> simp at htk
   subst htk
   split at h
   ·rename_i i hi2
    obtain ⟨I, D, z, hf⟩ := hT _ i hi2
    split at h
    ·rename_i hc
     obtain ⟨h0, rfl, hby, hmx, hpos, hfr, _⟩ := hc
     obtain ⟨rfl, rfl⟩ := some_pair h
     have h63 : l ≤ 9223372036854775807 := by simp only [maxLen] at hmx; omega
     have hrun := run_make (P := P) w T e I z hf0.under hf.info hf.zero .i64 .i64 l l h0 (Int.le_refl _) (by rw [hf.bytes, Int.mul_comm]; omega) h63
     have hcells : (madeCells z.cells (l.toNat * I.size)).toList = (List.replicate l.toNat z).flatMap (·.cells.toList) := by
      have hsv : ∀ v ∈ List.replicate l.toNat z, v.cells.size = i.size := fun v hv => by rw [(List.mem_replicate.1 hv).2]; exact hf.zsize
      apply take_eq
      ·rw [flat_length hsv]; simp [madeCells, hf.size]
      ·intro m hm
       have hm' : m < l.toNat * i.size := by simpa [madeCells, hf.size] using hm
       have hj : m / i.size < l.toNat := Nat.div_lt_of_lt_mul (by rwa [Nat.mul_comm] at hm')
       have hk : m % i.size < i.size := Nat.mod_lt _ hpos
       have hme : m / i.size * i.size + m % i.size = m := by rw [Nat.mul_comm]; exact Nat.div_add_mod m _
       have := flat_get (vs := List.replicate l.toNat z) (i := m / i.size) (v := z) hsv (by simp [hj]) hk
       rw [hme] at this
       rw [this]
       have hlt : m % i.size < z.cells.size := by rw [hf.zsize]; exact hk
       simp [madeCells, hf.size, hm', hf.zsize]
       rw [getElem!_pos z.cells _ hlt, Array.getElem?_eq_getElem hlt]
     obtain ⟨ρ', hst, hrel⟩ := new_row hI (8 * d) e i.size (List.replicate l.toNat i.zero) (List.replicate l.toNat z) (madeCells z.cells (l.toNat * I.size)) (by simpa using hfr) hpos (by simp) (fun v hv => by rw [(List.mem_replicate.1 hv).2]; exact hf.zsize)
      (fun v hv u hu => by rw [(List.mem_replicate.1 hv).2] at hu; exact Array.all_eq_true_iff_forall_mem.1 hf.z1 u (by simpa using hu)) (fun j el vv he hv => by
      rw [List.getElem?_replicate] at he hv
      split at he
      ·rename_i hj; rw [if_pos hj] at hv; simp at he hv; subst he; subst hv; exact hf.zrel _ _
      ·cases he) hcells (by simp; omega)
     rw [List.length_replicate] at hrel
     exact .step _ (by simp [execOp, ho, ex, ey, hrun]) hst hrel
    ·cases h
   ·cases h
  ·cases h
 ·cases h
end
section
variable {P : Program} {X : Ctx} {ok : Nat → Prop} {B : Nat} {w w' : World} {ρ : Nat → Option Value} {hp : Hp} {env : Env} {a : Act} {o : Oper} {v : V} {eff : Eff} {d : Nat}
theorem row_sub {ok : Nat → Prop} {sz : Nat} {es : List V} {ad : Option Addr} {n cap : Nat} (h : RelD w ok (.row sz es) (.slice ad n cap)) {l k : Nat} (hl : l ≤ k) (hk : k ≤ es.length) :
  RelD w ok (.row sz ((es.take k).drop l)) (.slice (if cap = l then ad else ad.map (·.add (l * sz))) (k - l) (cap - l)) := by
 have hlen : ((es.take k).drop l).length = k - l := by simp; omega
 cases h with
 | nil =>
  simp at hk
  have : k = 0 := by omega
  subst this
  have : l = 0 := by omega
  subst this
  simp
  exact .nil _ _
 | row _ _ g o cap vs hok hcap hmax hlv hsz h1 hc hr =>
  by_cases hcl : cap = l
  ·have e0 : (es.take k).drop l = [] := List.eq_nil_of_length_eq_zero (by omega)
   rw [if_pos hcl, e0, show k - l = 0 by omega, show cap - l = 0 by omega]
   exact .nil _ _
  ·rw [if_neg hcl, Option.map_some, Addr.add_mid, ← hlen]
   refine .row sz _ g _ (cap - l) ((vs.take k).drop l) hok (by omega) (by omega) (by simp; omega) (fun v hv => hsz v (List.mem_of_mem_take (List.mem_of_mem_drop hv))) (fun v hv => h1 v (List.mem_of_mem_take (List.mem_of_mem_drop hv))) (fun i v hv => ?_) fun i e v he hv => ?_
   ·rw [List.getElem?_drop, List.getElem?_take] at hv
    split at hv
    ·have := hc _ v hv
     rwa [show o + (l + i) * sz = o + l * sz + i * sz by rw [Nat.add_mul]; omega] at this
    ·cases hv
   ·rw [List.getElem?_drop, List.getElem?_take] at he hv
    split at he
    ·rename_i hh; rw [if_pos hh] at hv; exact hr _ e v he hv
    ·cases he
theorem row_form {ok : Nat → Prop} {sz : Nat} {es : List V} {val : Value} (h : RelD w ok (.row sz es) val) : ∃ ad cap, val = .slice ad es.length cap ∧ es.length ≤ cap := by
 cases h with
 | nil _ a => exact ⟨a, 0, rfl, Nat.le_refl _⟩
 | row _ _ g o cap vs hok hcap => exact ⟨_, cap, rfl, hcap⟩
theorem slice_exec (hT : TOk P X.T) (hE : ∀ x, Rel w (okAt ok B ρ w) ρ (opd env x) (a.eval x)) {T : TypeId} {x : Operand} {lo hi : Option Operand} (ho : o.op = .slice T x lo hi none) {e : TypeId} {q1 q2 : Nat} {q3 : V} (hiT : X.T T = some ⟨.slice e, q1, q2, q3⟩) {ie : TI} (hte : X.T e = some ie)
  {ad : Option Addr} {n cap : Nat} (ex : a.eval x = .slice ad n cap) (hcap : n ≤ cap) {l k : Nat} (hb : boundsV n (lo.map (opd env)) (hi.map (opd env)) = some (l, k)) :
  l ≤ k ∧ k ≤ n ∧ (execOp a.eval o).run P w = .ok (.value (.slice (if cap = l then ad else ad.map (·.add (l * ie.size))) (k - l) (cap - l))) w := by
 obtain ⟨I, D, z, hf⟩ := hT T _ hiT
 have htk := hf.tk
 unfold tkOk at htk
 cases D <;> simp at htk
 subst htk
 obtain ⟨I2, D2, z2, hf2⟩ := hT _ ie hte
 have hsize : I2.size = ie.size := hf2.size
 unfold boundsV at hb
 split at hb
 ·rename_i k hk
  split at hb
  ·rename_i l hl
   simp only [Option.some.injEq, Prod.mk.injEq] at hb
   obtain ⟨rfl, rfl⟩ := hb
   have hle : l ≤ k ∧ k ≤ n := by
    constructor
    ·split at hl
     ·split at hl
      ·rename_i hb; simp at hl; omega
      ·cases hl
     ·cases hl
     ·simp at hl; omega
    ·split at hk
     ·split at hk
      ·rename_i hb; simp at hk; omega
      ·cases hk
     ·cases hk
     ·simp at hk; omega
   refine ⟨hle.1, hle.2, ?_⟩
   cases hi with
   | none =>
    simp at hk
    subst hk
    cases lo with
    | none => simp at hl; subst hl; simp [execOp, ho, ex, Instr.sliceAt, Instr.slice, run_underlying hf.under, Instr.sliceBounds, sizeOf, typeInfo, hf2.info]
    | some lo =>
     have hlo := hE lo
     simp at hl
     split at hl
     ·rename_i kk n hn
      simp at hn
      rw [hn] at hlo
      have el := hlo.int_inv
      split at hl
      ·rename_i hb
       simp at hl
       subst hl
       simp [execOp, ho, ex, el, Instr.sliceAt, Instr.slice, run_underlying hf.under, Instr.sliceBounds, Instr.sliceBound, asIntOf, hb, sizeOf, typeInfo, hf2.info, hsize]
      ·cases hl
     ·cases hl
     ·rename_i hh; simp at hh
   | some hi =>
    have hhi := hE hi
    simp at hk
    split at hk
    ·rename_i kk n hn
     simp at hn
     rw [hn] at hhi
     have eh := hhi.int_inv
     split at hk
     ·rename_i hb
      simp at hk
      subst hk
      have hb' : n ≤ (cap : Int) := by omega
      cases lo with
      | none => simp at hl; subst hl; simp [execOp, ho, ex, eh, Instr.sliceAt, Instr.slice, run_underlying hf.under, Instr.sliceBounds, Instr.sliceBound, asIntOf, hb, hb', sizeOf, typeInfo, hf2.info]
      | some lo =>
       have hlo := hE lo
       simp at hl
       split at hl
       ·rename_i kk2 n2 hn2
        simp at hn2
        rw [hn2] at hlo
        have el := hlo.int_inv
        split at hl
        ·rename_i hb2
         simp at hl
         subst hl
         simp [execOp, ho, ex, eh, el, Instr.sliceAt, Instr.slice, run_underlying hf.under, Instr.sliceBounds, Instr.sliceBound, asIntOf, hb, hb', hb2, sizeOf, typeInfo, hf2.info, hsize]
        ·cases hl
       ·cases hl
       ·rename_i hh; simp at hh
     ·cases hk
    ·cases hk
    ·rename_i hh; simp at hh
  ·cases hb
 ·cases hb
theorem os_slice (hT : TOk P X.T) (hI : Inv ok B w ρ hp) (hE : ∀ x, Rel w (okAt ok B ρ w) ρ (opd env x) (a.eval x)) {T : TypeId} {x : Operand} {lo hi mx : Option Operand} (ho : o.op = .slice T x lo hi mx) (h : evalOp X env hp d (.slice T x lo hi mx) = some (v, eff)) : OpOk P ok B w ρ hp a o v eff := by
 simp only [evalOp] at h
 have hx := hE x
 cases hsv : sliceW X hp T (opd env x) (lo.map (opd env)) (hi.map (opd env)) (mx.map (opd env)) with
 | none => simp [hsv] at h
 | some r =>
  rw [hsv] at h
  obtain ⟨rfl, rfl⟩ := some_pair h
  unfold sliceW at hsv
  split at hsv
  ·rename_i b sz l0 n hop
   split at hsv
   ·rename_i e _ _ _ l k hiT hmx hb
    split at hsv
    ·rename_i hsz
     simp only [Option.some.injEq] at hsv
     subst hsv
     cases hte : X.T e with
     | none => simp [hte] at hsz
     | some ie =>
     simp [hte] at hsz
     have hm : mx = none := by cases mx <;> simp at hmx ⊢
     subst hm
     obtain ⟨g, n0, capb, cap, ad, hg, ex, h0, hle, hkc, hcm, ha⟩ := own_part hI hx hop
     obtain ⟨h1, h2, hrun⟩ := slice_exec hT hE ho hiT hte ex hkc hb
     refine .value hI _ hrun (.sub b sz (l0 + l) (k - l) g n0 capb (cap - l) _ hg ⟨h0, by omega, by omega, ⟨by omega, by omega⟩, ?_⟩)
     by_cases hc : cap = l
     ·left; omega
     ·right
      rw [if_neg hc, ha.resolve_left (by omega), Option.map_some, Addr.add_mid, hsz, Nat.add_mul]
    ·cases hsv
   ·cases hsv
  ·unfold sliceV at hsv
   split at hsv
   ·rename_i s hiT hqx hmx
    obtain ⟨I, D, z, hf⟩ := hT T _ hiT
    have htk := hf.tk
    unfold tkOk at htk
    cases D <;> simp at htk
    rw [hqx] at hx
    have ex := hx.str_inv
    have hm : mx = none := by cases mx <;> simp at hmx ⊢
    subst hm
    split at hsv
    ·rename_i k hk
     split at hsv
     ·rename_i l hl
      simp at hsv
      subst hsv
      refine .value hI (.string (s.extract l k)) ?_ (.ro (.str _))
      cases hi with
      | none =>
       simp at hk
       subst hk
       cases lo with
       | none => simp at hl; subst hl; simp [execOp, ho, ex, Instr.sliceAt, Instr.slice, run_underlying hf.under, Instr.sliceBounds]
       | some lo =>
        have hlo := hE lo
        simp at hl
        split at hl
        ·rename_i kk n hn
         simp at hn
         rw [hn] at hlo
         have el := hlo.int_inv
         split at hl
         ·rename_i hb
          simp at hl
          subst hl
          simp [execOp, ho, ex, el, Instr.sliceAt, Instr.slice, run_underlying hf.under, Instr.sliceBounds, Instr.sliceBound, asIntOf, hb]
         ·cases hl
        ·cases hl
        ·rename_i hh; simp at hh
      | some hi =>
       have hhi := hE hi
       simp at hk
       split at hk
       ·rename_i kk n hn
        simp at hn
        rw [hn] at hhi
        have eh := hhi.int_inv
        split at hk
        ·rename_i hb
         simp at hk
         subst hk
         cases lo with
         | none => simp at hl; subst hl; simp [execOp, ho, ex, eh, Instr.sliceAt, Instr.slice, run_underlying hf.under, Instr.sliceBounds, Instr.sliceBound, asIntOf, hb]
         | some lo =>
          have hlo := hE lo
          simp at hl
          split at hl
          ·rename_i kk2 n2 hn2
           simp at hn2
           rw [hn2] at hlo
           have el := hlo.int_inv
           split at hl
           ·rename_i hb2
            simp at hl
            subst hl
            simp [execOp, ho, ex, eh, el, Instr.sliceAt, Instr.slice, run_underlying hf.under, Instr.sliceBounds, Instr.sliceBound, asIntOf, hb, hb2]
           ·cases hl
          ·cases hl
          ·rename_i hh; simp at hh
        ·cases hk
       ·cases hk
       ·rename_i hh; simp at hh
     ·cases hsv
    ·cases hsv
   ·rename_i e _ _ _ sz es hiT hqx hmx
    obtain ⟨I, D, z, hf⟩ := hT T _ hiT
    have htk := hf.tk
    unfold tkOk at htk
    cases D <;> simp at htk
    subst htk
    rw [hqx] at hx
    have hrow := hx.row_inv
    obtain ⟨ad, cap, ex, hcap⟩ := row_form hrow
    have hm : mx = none := by cases mx <;> simp at hmx ⊢
    subst hm
    split at hsv
    ·rename_i hsz
     cases hte : X.T e with
     | none => simp [hte] at hsz
     | some ie =>
     simp [hte] at hsz
     obtain ⟨I2, D2, z2, hf2⟩ := hT e ie hte
     have hsize : I2.size = sz := by rw [hf2.size, hsz]
     split at hsv
     ·rename_i k hk
      split at hsv
      ·rename_i l hl
       simp at hsv
       subst hsv
       have hle : l ≤ k ∧ k ≤ es.length := by
        constructor
        ·split at hl
         ·split at hl
          ·rename_i hb; simp at hl; omega
          ·cases hl
         ·cases hl
         ·simp at hl; omega
        ·split at hk
         ·split at hk
          ·rename_i hb; simp at hk; omega
          ·cases hk
         ·cases hk
         ·simp at hk; omega
       rw [ex] at hrow
       refine .value hI _ ?_ (.ro (row_sub hrow hle.1 hle.2))
       cases hi with
       | none =>
        simp at hk
        subst hk
        cases lo with
        | none => simp at hl; subst hl; simp [execOp, ho, ex, Instr.sliceAt, Instr.slice, run_underlying hf.under, Instr.sliceBounds, sizeOf, typeInfo, hf2.info]
        | some lo =>
         have hlo := hE lo
         simp at hl
         split at hl
         ·rename_i kk n hn
          simp at hn
          rw [hn] at hlo
          have el := hlo.int_inv
          split at hl
          ·rename_i hb
           simp at hl
           subst hl
           simp [execOp, ho, ex, el, Instr.sliceAt, Instr.slice, run_underlying hf.under, Instr.sliceBounds, Instr.sliceBound, asIntOf, hb, sizeOf, typeInfo, hf2.info, hsize]
          ·cases hl
         ·cases hl
         ·rename_i hh; simp at hh
       | some hi =>
        have hhi := hE hi
        simp at hk
        split at hk
        ·rename_i kk n hn
         simp at hn
         rw [hn] at hhi
         have eh := hhi.int_inv
         split at hk
         ·rename_i hb
          simp at hk
          subst hk
          have hb' : n ≤ (cap : Int) := by omega
          cases lo with
          | none => simp at hl; subst hl; simp [execOp, ho, ex, eh, Instr.sliceAt, Instr.slice, run_underlying hf.under, Instr.sliceBounds, Instr.sliceBound, asIntOf, hb, hb', sizeOf, typeInfo, hf2.info]
          | some lo =>
           have hlo := hE lo
           simp at hl
           split at hl
           ·rename_i kk2 n2 hn2
            simp at hn2
            rw [hn2] at hlo
            have el := hlo.int_inv
            split at hl
            ·rename_i hb2
             simp at hl
             subst hl
             simp [execOp, ho, ex, eh, el, Instr.sliceAt, Instr.slice, run_underlying hf.under, Instr.sliceBounds, Instr.sliceBound, asIntOf, hb, hb', hb2, sizeOf, typeInfo, hf2.info, hsize]
            ·cases hl
           ·cases hl
           ·rename_i hh; simp at hh
         ·cases hk
        ·cases hk
        ·rename_i hh; simp at hh
      ·cases hsv
     ·cases hsv
    ·cases hsv
   ·rename_i e _ _ _ hiT hqx hmx
    obtain ⟨I, D, z, hf⟩ := hT T _ hiT
    have htk := hf.tk
    unfold tkOk at htk
    cases D <;> simp at htk
    subst htk
    rw [hqx] at hx
    have ex : a.eval x = .slice none 0 0 := by
     generalize a.eval x = q at hx
     cases hx with | ro h => cases h; rfl
    have hm : mx = none := by cases mx <;> simp at hmx ⊢
    subst hm
    split at hsv
    ·rename_i hlo hhi
     have hlo' : lo = none := by cases lo <;> simp at hlo ⊢
     subst hlo'
     cases hi with
     | none => simp at hhi
     | some hi =>
      have eh := hE hi
      simp at hhi
      rw [hhi] at eh
      have eh := eh.int_inv
      split at hsv
      ·rename_i hsz
       obtain ⟨ie, hte⟩ := Option.isSome_iff_exists.1 hsz
       obtain ⟨I2, D2, z2, hf2⟩ := hT e ie hte
       simp only [Option.some.injEq] at hsv
       subst hsv
       refine .value hI (.slice none 0 0) ?_ (.ro .zero)
       simp [execOp, ho, ex, eh, Instr.sliceAt, Instr.slice, run_underlying hf.under, Instr.sliceBounds, Instr.sliceBound, asIntOf, sizeOf, typeInfo, hf2.info]
      ·cases hsv
    ·cases hsv
   ·cases hsv
end
section
variable {P : Program} {X : Ctx} {ok : Nat → Prop} {B : Nat} {w w' : World} {ρ : Nat → Option Value} {hp : Hp} {env : Env} {a : Act} {o : Oper} {v : V} {eff : Eff} {d : Nat}
theorem flat_split {sz k : Nat} {vs : List Value} (hs : ∀ v ∈ vs, v.cells.size = sz) (hk : k ≤ vs.length) :
  (vs.take k).flatMap (·.cells.toList) = (vs.flatMap (·.cells.toList)).take (k * sz) ∧ (vs.drop k).flatMap (·.cells.toList) = (vs.flatMap (·.cells.toList)).drop (k * sz) := by
 have hl : ((vs.take k).flatMap (·.cells.toList)).length = k * sz := by rw [flat_length fun v hv => hs v (List.mem_of_mem_take hv), List.length_take, Nat.min_eq_left hk]
 have he : vs.flatMap (·.cells.toList) = (vs.take k).flatMap (·.cells.toList) ++ (vs.drop k).flatMap (·.cells.toList) := by rw [← List.flatMap_append, List.take_append_drop]
 rw [he]
 exact ⟨(List.take_left' hl).symm, (List.drop_left' hl).symm⟩
theorem write_part (hI : Inv ok B w ρ hp) {b sz lo g cap : Nat} {T : TypeId} {es : List V} {vs : List Value} (hpos : 0 < sz) (hg : ρ b = some (.slice (some ⟨g, 0, none⟩) es.length cap)) (hc0 : cap ≠ 0)
  (hl : vs.length = es.length) (hsz : ∀ v ∈ vs, v.cells.size = sz) (h1 : ∀ v ∈ vs, ∀ u ∈ v.cells.toList, u.oneCell' = true) (hrr : ∀ (i : Nat) e v, es[i]? = some e → vs[i]? = some v → RelD w (okAt ok B ρ w) e v)
  (how : w.ownsRow B T sz (.slice (some ⟨g, 0, none⟩) es.length cap) es.length (vs.flatMap (·.cells.toList)))
  {xs : List V} {vs2 : List Value} (hm : vs2.length = xs.length) (hfit : lo + xs.length ≤ es.length) (hsz2 : ∀ v ∈ vs2, v.cells.size = sz) (h12 : ∀ v ∈ vs2, ∀ u ∈ v.cells.toList, u.oneCell' = true)
  (hrr2 : ∀ (i : Nat) e v, xs[i]? = some e → vs2[i]? = some v → RelD w (okAt ok B ρ w) e v) :
  ∃ cur : Array Value, w.heap[g]? = some (.cells cur T (0, 0)) ∧ lo * sz + (vs2.flatMap (·.cells.toList)).length ≤ cur.size ∧
   ∀ k : Blk, k = .vec T sz (es.take lo ++ xs ++ es.drop (lo + xs.length)) → Step ok B w ρ (w.setRow g (cur.toList.take (lo * sz) ++ vs2.flatMap (·.cells.toList) ++ cur.toList.drop (lo * sz + (vs2.flatMap (·.cells.toList)).length)).toArray) ρ ((Eff.write b k).hp hp) (Eff.write b k).tr (Eff.write b k).tc := by
 have hfl := flat_length hsz
 have hfl2 := flat_length hsz2
 obtain ⟨hxl, h0 | ⟨g', cap', cur, he, hbb, hgg, hle, hmx, hcsz, htk⟩⟩ := how
 ·simp at h0
 simp only [Value.slice.injEq, Option.some.injEq, Addr.mk.injEq] at he
 obtain ⟨⟨rfl, _, _⟩, _, rfl⟩ := he
 have hmul : lo * sz + xs.length * sz + (es.length - (lo + xs.length)) * sz = es.length * sz := by rw [← Nat.add_mul, ← Nat.add_mul]; congr 1; omega
 have hmul2 : es.length * sz ≤ cap * sz := Nat.mul_le_mul_right sz hle
 have hfit2 : lo * sz + (vs2.flatMap (·.cells.toList)).length ≤ cur.size := by rw [hfl2, hm, hcsz]; omega
 refine ⟨cur, hgg, hfit2, ?_⟩
 rintro _ rfl
 have hownv : own (.slice (some ⟨g, 0, none⟩) es.length cap) = some g := by simp [own, hc0]
 have hkeep : ∀ k', k' < w.heap.size → own (.slice (some ⟨g, 0, none⟩) es.length cap) ≠ some k' → (w.setRow g (cur.toList.take (lo * sz) ++ vs2.flatMap (·.cells.toList) ++ cur.toList.drop (lo * sz + (vs2.flatMap (·.cells.toList)).length)).toArray).heap[k']? = w.heap[k']? := fun k' _ hk => setRow_other _ _ _ _ fun e => hk (by rw [hownv, e])
 have hok := write_ok hI b _ hg (setRow_size w g _) hkeep
 have hlt : (es.take lo).length = lo := by rw [List.length_take]; omega
 have hnl : (es.take lo ++ xs ++ es.drop (lo + xs.length)).length = es.length := by simp only [List.length_append, List.length_drop, hlt]; omega
 have hvt : (vs.take lo).length = lo := by rw [List.length_take]; omega
 have hs1 := flat_split hsz (k := lo) (by omega)
 have hs2 := flat_split hsz (k := lo + xs.length) (by omega)
 have hflat : (vs.take lo ++ vs2 ++ vs.drop (lo + xs.length)).flatMap (·.cells.toList) = (vs.flatMap (·.cells.toList)).take (lo * sz) ++ vs2.flatMap (·.cells.toList) ++ (vs.flatMap (·.cells.toList)).drop ((lo + xs.length) * sz) := by
  rw [List.flatMap_append, List.flatMap_append, hs1.1, hs2.2]
 have hmem : ∀ u ∈ vs.take lo ++ vs2 ++ vs.drop (lo + xs.length), u ∈ vs ∨ u ∈ vs2 := fun u hu => by
  rcases List.mem_append.1 hu with hu | hu
  ·rcases List.mem_append.1 hu with hu | hu
   ·exact .inl (List.mem_of_mem_take hu)
   ·exact .inr hu
  ·exact .inl (List.mem_of_mem_drop hu)
 have hw := hI.write b _ (.vec T sz (es.take lo ++ xs ++ es.drop (lo + xs.length))) hg (setRow_size w g _) hkeep ⟨hpos, vs.take lo ++ vs2 ++ vs.drop (lo + xs.length), ?_, ?_, ?_, ?_, .inr ?_⟩
 ·exact ⟨⟨rfl, rfl, rfl, by rw [setRow_size]; exact Nat.le_refl _, fun k' hk' => setRow_other _ _ _ _ fun e => by omega⟩, hw.1, hw.2, fun k' _ hk => setRow_other _ _ _ _ fun e => hk b _ hg (by rw [hownv, e]), fun b1 s1 g1 h1 h2 => .inr ⟨b1, s1, h1, h2⟩, fun _ _ => rfl, by rw [setRow_size]; exact Nat.le_refl _⟩
 ·rw [hnl]; simp only [List.length_append, List.length_drop, hvt]; omega
 ·exact fun u hu => (hmem u hu).elim (hsz u) (hsz2 u)
 ·exact fun u hu => (hmem u hu).elim (h1 u) (h12 u)
 ·intro i e u he hu
  refine RelD.mono ?_ hok
  rw [List.append_assoc, List.getElem?_append] at he hu
  rw [hlt] at he
  rw [hvt] at hu
  split at he
  ·rename_i hi
   rw [if_pos hi] at hu
   rw [List.getElem?_take, if_pos hi] at he hu
   exact hrr i e u he hu
  ·rename_i hi
   rw [if_neg hi] at hu
   rw [List.getElem?_append] at he hu
   rw [hm] at hu
   split at he
   ·rename_i hi2
    rw [if_pos hi2] at hu
    exact hrr2 _ e u he hu
   ·rename_i hi2
    rw [if_neg hi2] at hu
    rw [List.getElem?_drop] at he hu
    exact hrr _ e u he hu
 ·rw [hnl]
  refine ⟨?_, .inr ⟨g, cap, _, rfl, hbb, setRow_heap w g cur _ T (0, 0) hgg, hle, hmx, ?_, ?_⟩⟩
  ·rw [flat_length fun u hu => (hmem u hu).elim (hsz u) (hsz2 u)]
   congr 1
   simp only [List.length_append, List.length_drop, hvt]
   omega
  ·simp only [List.size_toArray, List.length_append, List.length_take, List.length_drop, Array.length_toList]
   omega
  ·have hcl : cur.toList.length = cap * sz := by rw [Array.length_toList, hcsz]
   have e1 : cur.toList.take (lo * sz) = (vs.flatMap (·.cells.toList)).take (lo * sz) := by rw [← htk, List.take_take, Nat.min_eq_left (by omega)]
   have hl1 : (cur.toList.take (lo * sz)).length = lo * sz := by rw [List.length_take]; omega
   rw [hflat, List.append_assoc, List.append_assoc, List.take_append, hl1, List.take_of_length_le (by rw [hl1]; omega), e1]
   congr 1
   rw [List.take_append, List.take_of_length_le (by rw [hfl2, hm]; omega)]
   congr 1
   rw [hfl2, hm, ← htk, List.take_drop, ← Nat.add_mul]
   congr 2
   rw [Nat.add_mul]
   omega
theorem run_copyW (w : World) (dT sT ty elem : TypeId) (I : TypeInfo) (g o dLen dCap : Nat) (a : Addr) (sLen sCap n : Nat) (cur : Array Value) (t : TypeId) (cs : List Value)
  (hu : P.underlying dT = some (.slice elem)) (hi : P.info? elem = some I) (hg : w.heap[g]? = some (.cells cur t (0, 0))) (hn : Nat.min sLen dLen = n) (hl : cs.length = n * I.size)
  (hsrc : ∀ j v, cs[j]? = some v → w.cell? (a.add j) = some v) (hfit : o + cs.length ≤ cur.size) (h1 : ∀ v ∈ cs, v.oneCell' = true) :
  (Builtin.copy_ #[dT, sT] ty #[.slice (some ⟨g, o, none⟩) dLen dCap, .slice (some a) sLen sCap]).run P w =
   .ok (goInt n) (w.setRow g (cur.toList.take o ++ cs ++ cur.toList.drop (o + cs.length)).toArray) := by
 have hld := run_loadCells_list (P := P) w a cs hsrc
 have hst := run_storeCells_at P g o t cs 0 cur w hg (by simpa using hfit) h1
 rw [hl] at hld
 simp [Builtin.copy_, run_underlying hu, Builtin.lenOf, Builtin.firstCells, sizeOf, typeInfo, hi, hn, hld, hst]
theorem run_copy_0 (w : World) (dT sT ty elem : TypeId) (I : TypeInfo) (hu : P.underlying dT = some (.slice elem)) (hi : P.info? elem = some I) (ad a : Option Addr) (dl dc sl sc : Nat) (hm : Nat.min sl dl = 0) :
  (Builtin.copy_ #[dT, sT] ty #[.slice ad dl dc, .slice a sl sc]).run P w = .ok (goInt 0) w := by
 have hld : ∀ a : Addr, (loadCells a 0).run P w = .ok #[] w := fun a => run_loadCells_list (P := P) w a [] (by simp)
 cases ad <;> cases a <;> simp [Builtin.copy_, run_underlying hu, Builtin.lenOf, Builtin.firstCells, sizeOf, typeInfo, hi, hm, hld, storeCells]
theorem run_clearW (w : World) (dT ty elem : TypeId) (I : TypeInfo) (z : Value) (g o n c : Nat) (cur : Array Value) (t : TypeId) (cs : List Value) (hu : P.underlying dT = some (.slice elem)) (hi : P.info? elem = some I) (hz : I.zero = some z) (hn : 0 < n)
  (hg : w.heap[g]? = some (.cells cur t (0, 0))) (hcs : (Builtin.zeroCells z.cells n).toList = cs) (hfit : o + cs.length ≤ cur.size) (h1 : ∀ v ∈ cs, v.oneCell' = true) :
  (Builtin.clear_ #[dT] ty #[.slice (some ⟨g, o, none⟩) n c]).run P w = .ok (.tuple #[]) (w.setRow g (cur.toList.take o ++ cs ++ cur.toList.drop (o + cs.length)).toArray) := by
 have hst := run_storeCells_at P g o t cs 0 cur w hg (by simpa using hfit) h1
 obtain ⟨m, rfl⟩ : ∃ m, n = m + 1 := ⟨n - 1, by omega⟩
 simp [Builtin.clear_, run_underlying hu, zeroValue, typeInfo, hi, hz, hcs, hst]
theorem run_clear_0 (w : World) (dT ty elem : TypeId) (hu : P.underlying dT = some (.slice elem)) (ad : Option Addr) (c : Nat) :
  (Builtin.clear_ #[dT] ty #[.slice ad 0 c]).run P w = .ok (.tuple #[]) w := by
 cases ad <;> simp [Builtin.clear_, run_underlying hu]
theorem elems_len (hI : Inv ok B w ρ hp) {x : V} {val : Value} (hx : Rel w (okAt ok B ρ w) ρ x val) {sz : Nat} {es : List V} (he : elemsV hp x = some (sz, es)) : ∃ ad cap, val = .slice ad es.length cap := by
 rcases elems_rel hI hx he with ⟨ad, cap, h, rfl⟩ | ⟨g, o, cap, vs, h, _⟩
 ·exact ⟨ad, cap, h⟩
 ·exact ⟨_, cap, h⟩
theorem own_len {s : V} {b sz lo k : Nat} (hop : ownP hp s = some (b, sz, lo, k)) {T : TypeId} {es : List V} (hse : subE hp b sz (lo + k) = some (T, es)) {sz0 : Nat} {l : List V} (hl : elemsV hp s = some (sz0, l)) : l.length = k := by
 unfold subE at hse
 split at hse
 ·rename_i T' sz' es' hb
  split at hse
  ·rename_i hc
   unfold ownP at hop
   split at hop
   ·rename_i b'
    split at hop
    ·rename_i T2 sz2 es2 hb2
     split at hop
     ·simp only [Option.some.injEq, Prod.mk.injEq] at hop
      obtain ⟨rfl, rfl, rfl, rfl⟩ := hop
      simp only [elemsV, hb2, Option.some.injEq, Prod.mk.injEq] at hl
      rw [← hl.2]
     ·cases hop
    ·cases hop
   ·rename_i b' sz2 lo2 k2
    simp only [Option.some.injEq, Prod.mk.injEq] at hop
    obtain ⟨rfl, rfl, rfl, rfl⟩ := hop
    simp only [elemsV, subE, hb, Option.map_eq_some_iff] at hl
    obtain ⟨p, hp1, hp2⟩ := hl
    rw [if_pos hc] at hp1
    simp only [Option.some.injEq, Prod.mk.injEq] at hp1 hp2
    subst hp1
    rw [← hp2.2, List.length_take, List.length_drop]
    have := hc.2
    simp only
    omega
   ·cases hop
  ·cases hse
 ·cases hse
theorem own_row (hI : Inv ok B w ρ hp) {s : V} {val : Value} (hs : Rel w (okAt ok B ρ w) ρ s val) {b sz lo k : Nat} (hop : ownP hp s = some (b, sz, lo, k)) {T : TypeId} {es : List V} (hse : subE hp b sz (lo + k) = some (T, es)) (hk : 0 < k) :
  0 < sz ∧ ∃ (g cap c : Nat) (vs : List Value), ρ b = some (.slice (some ⟨g, 0, none⟩) es.length cap) ∧ cap ≠ 0 ∧ val = .slice (some ⟨g, lo * sz, none⟩) k c ∧ lo + k ≤ es.length ∧
   vs.length = es.length ∧ (∀ v ∈ vs, v.cells.size = sz) ∧ (∀ v ∈ vs, ∀ u ∈ v.cells.toList, u.oneCell' = true) ∧ (∀ (i : Nat) e v, es[i]? = some e → vs[i]? = some v → RelD w (okAt ok B ρ w) e v) ∧ w.ownsRow B T sz (.slice (some ⟨g, 0, none⟩) es.length cap) es.length (vs.flatMap (·.cells.toList)) := by
 obtain ⟨g, n, cap, c, ad, hg, rfl, h0, hle, hkc, hcm, ha⟩ := own_part hI hs hop
 have hsub : Rel w (okAt ok B ρ w) ρ (.sub b sz lo k) (.slice ad k c) := .sub b sz lo k g n cap c ad hg ⟨h0, hle, hkc, hcm, ha⟩
 obtain ⟨_, hpos, g', cap', c', ad', vs, hg', hc0, he, hle', _, _, ha', hl, hsz, h1, hrr, how⟩ := sub_form hI hsub hse
 rw [hg] at hg'
 simp only [Option.some.injEq, Value.slice.injEq, Addr.mk.injEq] at hg' he
 obtain ⟨⟨rfl, _, _⟩, rfl, rfl⟩ := hg'
 obtain ⟨rfl, _, rfl⟩ := he
 have had := ha.resolve_left (by omega)
 subst had
 exact ⟨hpos, g, cap, c, vs, hg, hc0, rfl, hle', hl, hsz, h1, hrr, how⟩
theorem os_copy (hT : TOk P X.T) (hI : Inv ok B w ρ hp) (hE : ∀ x, Rel w (okAt ok B ρ w) ρ (opd env x) (a.eval x)) {c : Call} (hcal : c.callee = .builtin .copy) (ho : o.op = .call c) (h : evalOp X env hp d (.call c) = some (v, eff)) : OpOk P ok B w ρ hp a o v eff := by
 obtain ⟨cal, args, tys⟩ := c
 simp only at hcal
 subst hcal
 obtain ⟨args⟩ := args
 obtain ⟨tys⟩ := tys
 rcases args with _ | ⟨s, _ | ⟨x, _ | ⟨y2, rest⟩⟩⟩ <;> rcases tys with _ | ⟨t, _ | ⟨t2, _ | ⟨u2, rest2⟩⟩⟩ <;> simp only [evalOp] at h <;> try (cases h; done)
 have hs := hE s
 have hx := hE x
 unfold copyV at h
 split at h
 ·rename_i e _ _ _ hi
  obtain ⟨I0, D0, z0, hf0⟩ := hT t _ hi
  have htk := hf0.tk
  unfold tkOk at htk
  cases D0 <;> simp at htk
  subst htk
  split at h
  ·rename_i i sz' xs sz0 l hi2 hxe hse
   obtain ⟨I, D, z, hf⟩ := hT _ i hi2
   obtain ⟨ad, cap, es0⟩ := elems_len hI hs hse
   obtain ⟨ad2, cap2, ex0⟩ := elems_len hI hx hxe
   have fin : ∀ (v' : Value) (w1 : World), (Builtin.copy_ #[t, t2] o.type #[a.eval s, a.eval x]).run P w = .ok v' w1 → (execOp a.eval o).run P w = .ok (.value v') w1 := fun v' w1 hr => by
    simp [execOp, ho, resolve, invoke, builtin, hr]
   split at h
   ·rename_i hl0
    obtain ⟨rfl, rfl⟩ := some_pair h
    refine .value hI _ (fin _ _ (by rw [es0, ex0]; exact run_copy_0 w t t2 _ _ I hf0.under hf.info ad ad2 _ cap _ cap2 (by rw [hl0]; exact Nat.min_zero _))) (.ro (.int _ _))
   ·rename_i hl0
    split at h
    ·rename_i b sz lo k hop
     split at h
     ·rename_i T es hsub
      split at h
      ·rename_i hc
       obtain ⟨hisz, rfl⟩ := hc
       obtain ⟨rfl, rfl⟩ := some_pair h
       have hlk := own_len hop hsub hse
       obtain ⟨hpos, g, capb, c, vs, hg, hc0, hsv, hle, hvl, hsz, h1, hrr, how⟩ := own_row hI hs hop hsub (by omega)
       have hmin : Nat.min xs.length k = min xs.length k := rfl
       have hmk : min xs.length k ≤ k := Nat.min_le_right _ _
       have hmx : min xs.length k ≤ xs.length := Nat.min_le_left _ _
       rcases elems_rel hI hx hxe with ⟨ad3, cap3, hxv, rfl⟩ | ⟨g2, o2, cap3, vs2, hxv, hl2, hsz2, h12, hrr2, hcell⟩
       ·have hres := write_part hI (lo := lo) hpos hg hc0 hvl hsz h1 hrr how (xs := []) (vs2 := []) rfl (by simp; omega) (by simp) (by simp) (by simp)
        obtain ⟨cur, hgg, _, hst⟩ := hres
        have hst := hst _ rfl
        have e0 : (cur.toList.take (lo * sz') ++ ([] : List Value).flatMap (·.cells.toList) ++ cur.toList.drop (lo * sz' + (([] : List Value).flatMap (·.cells.toList)).length)).toArray = cur := by simp
        rw [e0, setRow_self w g cur T (0, 0) hgg] at hst
        refine .step (ρ' := ρ) (.int .i64 0) (fin _ _ (by rw [hsv, hxv]; exact run_copy_0 w t t2 _ _ I hf0.under hf.info _ ad3 k c 0 cap3 (Nat.zero_min _))) ?_ ?_
        ·simpa using hst
        ·simpa using (Rel.ro (.int _ _))
       ·have hm2 : (vs2.take (min xs.length k)).length = (xs.take (min xs.length k)).length := by rw [List.length_take, List.length_take, hl2]
        have hxt : (xs.take (min xs.length k)).length = min xs.length k := by rw [List.length_take]; omega
        obtain ⟨cur, hgg, hfit, hst⟩ := write_part hI (lo := lo) hpos hg hc0 hvl hsz h1 hrr how (xs := xs.take (min xs.length k)) (vs2 := vs2.take (min xs.length k)) hm2 (by rw [hxt]; omega)
         (fun v hv => hsz2 v (List.mem_of_mem_take hv)) (fun v hv => h12 v (List.mem_of_mem_take hv)) (fun i e v he hv => by
          rw [List.getElem?_take] at he hv
          split at he
          ·rename_i hh; rw [if_pos hh] at hv; exact hrr2 i e v he hv
          ·cases he)
        have hst := hst _ rfl
        rw [hxt] at hst
        have hfl : ((vs2.take (min xs.length k)).flatMap (·.cells.toList)).length = min xs.length k * sz' := by rw [flat_length fun v hv => hsz2 v (List.mem_of_mem_take hv), hm2, hxt]
        refine .step (.int .i64 (min xs.length k : Nat)) (fin _ _ ?_) hst (.ro (.int _ _))
        rw [hsv, hxv]
        exact run_copyW w t t2 o.type _ I g (lo * sz') k c ⟨g2, o2, none⟩ xs.length cap3 (min xs.length k) cur T _ hf0.under hf.info hgg hmin (by rw [hfl, hf.size, hisz]) (fun j u hj => by
         rw [Addr.add_mid]
         refine hcell j u ?_
         rw [(flat_split hsz2 (k := min xs.length k) (by omega)).1, List.getElem?_take] at hj
         split at hj
         ·exact hj
         ·cases hj) hfit (fun u hu => by
         obtain ⟨v, hv, huv⟩ := List.mem_flatMap.1 hu
         exact h12 v (List.mem_of_mem_take hv) u huv)
      ·cases h
     ·cases h
    ·cases h
  ·cases h
 ·cases h
theorem zero_flat {i : TI} {e : TypeId} {I : TypeInfo} {D : TypeDesc} {z : Value} (hf : TFact P e i I D z) (hpos : 0 < i.size) (n : Nat) : (Builtin.zeroCells z.cells n).toList = (List.replicate n z).flatMap (·.cells.toList) := by
 have hsv : ∀ v ∈ List.replicate n z, v.cells.size = i.size := fun v hv => by rw [(List.mem_replicate.1 hv).2]; exact hf.zsize
 apply take_eq
 ·rw [flat_length hsv]; simp [Builtin.zeroCells, hf.zsize]
 ·intro m hm
  have hm' : m < n * i.size := by simpa [Builtin.zeroCells, hf.zsize] using hm
  have hj : m / i.size < n := Nat.div_lt_of_lt_mul (by rwa [Nat.mul_comm] at hm')
  have hk : m % i.size < i.size := Nat.mod_lt _ hpos
  have hme : m / i.size * i.size + m % i.size = m := by rw [Nat.mul_comm]; exact Nat.div_add_mod m _
  have := flat_get (vs := List.replicate n z) (i := m / i.size) (v := z) hsv (by simp [hj]) hk
  rw [hme] at this
  rw [this]
  have hlt : m % i.size < z.cells.size := by rw [hf.zsize]; exact hk
  simp [Builtin.zeroCells, hm', hf.zsize]
  rw [getElem!_pos z.cells _ hlt, Array.getElem?_eq_getElem hlt]
theorem os_clear (hT : TOk P X.T) (hI : Inv ok B w ρ hp) (hE : ∀ x, Rel w (okAt ok B ρ w) ρ (opd env x) (a.eval x)) {c : Call} (hcal : c.callee = .builtin .clear) (ho : o.op = .call c) (h : evalOp X env hp d (.call c) = some (v, eff)) : OpOk P ok B w ρ hp a o v eff := by
 obtain ⟨cal, args, tys⟩ := c
 simp only at hcal
 subst hcal
 obtain ⟨args⟩ := args
 obtain ⟨tys⟩ := tys
 rcases args with _ | ⟨s, _ | ⟨y2, rest⟩⟩ <;> rcases tys with _ | ⟨t, _ | ⟨u2, rest2⟩⟩ <;> simp only [evalOp] at h <;> try (cases h; done)
 have hs := hE s
 unfold clearV at h
 split at h
 ·rename_i e _ _ _ hi
  obtain ⟨I0, D0, z0, hf0⟩ := hT t _ hi
  have htk := hf0.tk
  unfold tkOk at htk
  cases D0 <;> simp at htk
  subst htk
  split at h
  ·rename_i i sz0 l hi2 hse
   obtain ⟨I, D, z, hf⟩ := hT _ i hi2
   obtain ⟨ad, cap, es0⟩ := elems_len hI hs hse
   have fin : ∀ (v' : Value) (w1 : World), (Builtin.clear_ #[t] o.type #[a.eval s]).run P w = .ok v' w1 → (execOp a.eval o).run P w = .ok (.value v') w1 := fun v' w1 hr => by
    simp [execOp, ho, resolve, invoke, builtin, hr]
   have htup : ∀ ρ' w', Rel w' (okAt ok B ρ' w') ρ' (.tup []) (.tuple #[]) := fun ρ' w' => .tup [] [] rfl (by simp)
   split at h
   ·rename_i hl0
    obtain ⟨rfl, rfl⟩ := some_pair h
    exact .value hI _ (fin _ _ (by rw [es0, hl0]; exact run_clear_0 w t _ _ hf0.under ad cap)) (htup _ _)
   ·rename_i hl0
    split at h
    ·rename_i b sz lo k hop
     split at h
     ·rename_i T es hsub
      split at h
      ·rename_i hisz
       subst hisz
       obtain ⟨rfl, rfl⟩ := some_pair h
       have hlk := own_len hop hsub hse
       obtain ⟨hpos, g, capb, c, vs, hg, hc0, hsv, hle, hvl, hsz, h1, hrr, how⟩ := own_row hI hs hop hsub (by omega)
       have hz1 : ∀ v ∈ List.replicate k z, ∀ u ∈ v.cells.toList, u.oneCell' = true := fun v hv u hu => by rw [(List.mem_replicate.1 hv).2] at hu; exact Array.all_eq_true_iff_forall_mem.1 hf.z1 u (by simpa using hu)
       obtain ⟨cur, hgg, hfit, hst⟩ := write_part hI (lo := lo) hpos hg hc0 hvl hsz h1 hrr how (xs := List.replicate k i.zero) (vs2 := List.replicate k z) (by simp) (by simpa using hle)
        (fun v hv => by rw [(List.mem_replicate.1 hv).2]; exact hf.zsize) hz1 (fun j el vv he hv => by
         rw [List.getElem?_replicate] at he hv
         split at he
         ·rename_i hj; rw [if_pos hj] at hv; simp at he hv; subst he; subst hv; exact hf.zrel _ _
         ·cases he)
       have hst := hst _ rfl
       rw [List.length_replicate] at hst
       refine .step _ (fin _ _ ?_) hst (htup _ _)
       rw [hsv]
       exact run_clearW w t o.type _ I z g (lo * i.size) k c cur T _ hf0.under hf.info hf.zero (by omega) hgg (zero_flat hf hpos k) hfit (fun u hu => by
        obtain ⟨v, hv, huv⟩ := List.mem_flatMap.1 hu
        exact hz1 v hv u huv)
      ·cases h
     ·cases h
    ·cases h
  ·cases h
 ·cases h
theorem unB_spec : ∀ {es : List V} {l : List UInt8}, unB es = some l → es.length = l.length ∧ ∀ (j : Nat) (h : j < l.length), es[j]? = some (.int .u8 (l[j].toNat : Int))
 | [], l, h => by simp [unB] at h; subst h; exact ⟨rfl, fun j h => by simp at h⟩
 | e :: es, l, h => by
  unfold unB at h
  split at h
  ·rename_i he; cases he
  ·rename_i n es' he
   simp only [List.cons.injEq] at he
   obtain ⟨rfl, rfl⟩ := he
   split at h
   ·rename_i hn
    simp only [Option.map_eq_some_iff] at h
    obtain ⟨r, hr, rfl⟩ := h
    obtain ⟨h1, h2⟩ := unB_spec hr
    refine ⟨by simp [h1], fun j hj => ?_⟩
    cases j with
    | zero =>
     have : (UInt8.ofNat n.toNat).toNat = n.toNat := by
      rw [UInt8.toNat_ofNat']; omega
     simp only [List.getElem?_cons_zero, List.getElem_cons_zero, this]
     congr 2
     omega
    | succ j => simpa using h2 j (by simpa using hj)
   ·cases h
  ·cases h
theorem os_bytes (hT : TOk P X.T) (hI : Inv ok B w ρ hp) (hE : ∀ x, Rel w (okAt ok B ρ w) ρ (opd env x) (a.eval x)) {s t e : TypeId} {x : Operand} (ho : o.op = .convert s t x) {n1 m1 n2 m2 : Nat} {z1 z2 : V} (h1 : X.T s = some ⟨.slice e, n1, m1, z1⟩) (h2 : X.T t = some ⟨.str, n2, m2, z2⟩)
  (h : (bytesW X e (opd env x)).map (fun v => (v, Eff.none)) = some (v, eff)) : OpOk P ok B w ρ hp a o v eff := by
 have hx := hE x
 simp only [Option.map_eq_some_iff] at h
 obtain ⟨r, h, h'⟩ := h
 obtain ⟨rfl, rfl⟩ := some_pair (congrArg some h')
 unfold bytesW at h
 split at h
 ·rename_i hte
  split at h
  ·rename_i e0 es hop
   have hel : elemsV hp (opd env x) = some (1, e0 :: es) := by rw [hop]; rfl
   simp only [Option.map_eq_some_iff] at h
   obtain ⟨l, hl, rfl⟩ := h
   obtain ⟨I0, d0, z0, f0⟩ := hT _ _ h1
   obtain ⟨I1, d1, z1, f1⟩ := hT _ _ h2
   obtain ⟨I2, d2, z2, f2⟩ := hT _ _ hte
   have k0 := f0.tk
   have k1 := f1.tk
   have k2 := f2.tk
   unfold tkOk at k0 k1 k2
   cases d0 <;> simp at k0
   subst k0
   cases d1 <;> simp at k1
   cases d2 <;> simp at k2
   subst k2
   obtain ⟨s1, s2⟩ := unB_spec hl
   rcases elems_rel hI hx hel with ⟨ad, cap, _, hz⟩ | ⟨g, o0, cap, vs, hxe, hvl, hsz, hone, hrr, hcell⟩
   ·cases hz
   ·have hv : ∀ (j : Nat) (hj : j < l.length), vs[j]? = some (.int .u8 (l[j].toNat : Int)) := fun j hj => by
     obtain ⟨u, hu⟩ : ∃ u, vs[j]? = some u := ⟨_, List.getElem?_eq_getElem (by omega)⟩
     have hr := hrr j _ u (s2 j hj) hu
     cases hr
     exact hu
    have hflat : ∀ vs' : List Value, (∀ (j : Nat) (hj : j < vs'.length), ∃ n, vs'[j]? = some (.int .u8 n)) → vs'.flatMap (·.cells.toList) = vs' := by
     intro vs'
     induction vs' with
     | nil => intro _; rfl
     | cons y ys ih =>
      intro hh
      obtain ⟨n, hn⟩ := hh 0 (by simp)
      simp at hn
      subst hn
      rw [List.flatMap_cons, ih fun j hj => by simpa using hh (j + 1) (by simpa using hj)]
      rfl
    have hfl := hflat vs fun j hj => ⟨_, hv j (by omega)⟩
    rw [hfl] at hcell
    have hrun := run_convert_bytes_back (P := P) w s t e ⟨g, o0, none⟩ cap l f0.under (by rw [f2.under]) f1.under (fun j hj => by
     rw [Addr.add_mid]
     exact hcell j _ (hv j hj))
    rw [← s1, ← hxe] at hrun
    exact .value hI (.string ⟨l.toArray⟩) (by simp [execOp, ho, hrun]) (.ro (.str _))
  ·cases h
 ·cases h
theorem os_convert (hT : TOk P X.T) (hI : Inv ok B w ρ hp) (hE : ∀ x, Rel w (okAt ok B ρ w) ρ (opd env x) (a.eval x)) {s t : TypeId} {x : Operand} (ho : o.op = .convert s t x) (h : evalOp X env hp d (.convert s t x) = some (v, eff)) : OpOk P ok B w ρ hp a o v eff := by
 simp only [evalOp] at h
 have hx := hE x
 split at h
 ·rename_i i0 k _ _ _ k' n h1 h2 hq
  obtain ⟨rfl, rfl⟩ := some_pair h
  rw [hq] at hx
  have ex := hx.int_inv
  obtain ⟨I0, d0, z0, f0⟩ := hT _ _ h1
  obtain ⟨I1, d1, z1, f1⟩ := hT _ _ h2
  have hd := f1.tk
  unfold tkOk at hd
  cases d1 <;> simp at hd
  subst hd
  exact .value hI (.int k (k.wrap n)) (by simp [execOp, ho, ex, convert, run_underlying f0.under, run_underlying f1.under, Conv.intToInt]) (.ro (.int _ _))
 ·rename_i i0 _ _ _ s0 h1 h2 hq
  obtain ⟨rfl, rfl⟩ := some_pair h
  rw [hq] at hx
  have ex := hx.str_inv
  obtain ⟨I0, d0, z0, f0⟩ := hT _ _ h1
  obtain ⟨I1, d1, z1, f1⟩ := hT _ _ h2
  have hd := f1.tk
  unfold tkOk at hd
  cases d1 <;> simp at hd
  exact .value hI (.string s0) (by simp [execOp, ho, ex, convert, run_underlying f0.under, run_underlying f1.under]) (.ro (.str _))
 ·rename_i e _ _ _ _ _ _ _ h1 h2 hq
  exact os_bytes hT hI hE ho h1 h2 h
 ·cases h
end
def tailV (X : Ctx) (hp : Hp) (d : Nat) (t t2 : TypeId) (s x : V) : Option ((V × Eff) × (V × Eff)) :=
 match X.T t with
 | some ⟨.slice e, _, _, _⟩ => match X.T e with
  | some i =>
   if isSlice X t2 = true then
    match s with
    | .sub b sz lo k => match hp b, elemsZ i.size hp x with
     | some (.vec T sz0 es), some (sz', es') => if T = e ∧ sz0 = i.size ∧ sz = i.size ∧ sz' = i.size ∧ lo + k = es.length ∧ 0 < es'.length ∧ (es.length + es'.length) * i.bytes ≤ 140737488355328 ∧ es.length + es'.length ≤ maxLen ∧ b < 1000000 then
       some ((.sub b sz lo (k + es'.length), .change b (.vec T sz (es ++ es'))), (.sub b sz 0 (k + es'.length), .change b (.vec T sz (es.drop lo ++ es')))) else none
     | _, _ => none
    | _ => none
   else none
  | none => none
 | _ => none
def twoOp (X : Ctx) (e : Env) (h : Hp) (d : Nat) : Op → Option ((V × Eff) × (V × Eff))
 | .call c => match c.callee with
  | .builtin .append => match c.args.toList, c.argTypes.toList with
   | [s, x], [t, t2] => tailV X h d t t2 (opd e s) (opd e x)
   | _, _ => none
  | _ => none
 | _ => none
section
variable {P : Program} {X : Ctx} {ok : Nat → Prop} {B : Nat} {w w' : World} {ρ : Nat → Option Value} {hp : Hp} {env : Env} {a : Act} {o : Oper} {d : Nat} {p q : V × Eff}
theorem append_room_at (t ty e : TypeId) (i : TypeInfo) (ht : P.underlying t = some (.slice e)) (hi : P.info? e = some i)
  (g off sLen sCap : Nat) (cur : Array Value) (hg : w.heap[g]? = some (.cells cur e (0, 0)))
  (a : Addr) (m c : Nat) (news : List Value) (hl : news.length = m * i.size) (hnews : ∀ j u, news[j]? = some u → w.cell? (a.add j) = some u) (h1 : ∀ u ∈ news, u.oneCell' = true)
  (hroom : sLen + m ≤ sCap) (hfit : off + sLen * i.size + news.length ≤ cur.size) :
  (Builtin.append_ #[t, t] ty #[.slice (some ⟨g, off, none⟩) sLen sCap, .slice (some a) m c]).run P w =
   .ok (.slice (some ⟨g, off, none⟩) (sLen + m) sCap) (w.setRow g (cur.toList.take (off + sLen * i.size) ++ news ++ cur.toList.drop (off + sLen * i.size + news.length)).toArray) := by
 have hf := run_firstCells_some (P := P) w i.size m a m c news hl hnews
 have hst := run_storeCells_at P g (off + sLen * i.size) e news 0 cur w hg (by simpa using hfit) h1
 simp only [Nat.add_zero] at hst
 simp [Builtin.append_, run_underlying ht, sizeOf, typeInfo, hi, Builtin.lenOf, hroom, hf, Addr.add_lit, hst]
theorem flat_drop {sz : Nat} : ∀ {vs : List Value} {lo : Nat}, (∀ v ∈ vs, v.cells.size = sz) → (vs.drop lo).flatMap (·.cells.toList) = (vs.flatMap (·.cells.toList)).drop (lo * sz)
 | vs, 0, _ => by simp
 | [], lo + 1, _ => by simp
 | v :: vs, lo + 1, h => by
  have h1 := h v (by simp)
  have e1 : v.cells.toList.drop ((lo + 1) * sz) = [] := List.drop_eq_nil_of_le (by rw [Array.length_toList, h1, Nat.add_mul]; omega)
  have e2 : (lo + 1) * sz - v.cells.toList.length = lo * sz := by rw [Array.length_toList, h1, Nat.add_mul]; omega
  rw [List.drop_succ_cons, flat_drop (lo := lo) (fun x hx => h x (List.mem_cons_of_mem _ hx)), List.flatMap_cons, List.drop_append, e1, e2, List.nil_append]
theorem tail_end {b : Nat} {T : TypeId} {sz : Nat} {es0 : List V} {sv v' val' : Value} {w1 : World} {vr : V} {vs : List Value} (hI : Inv ok B w ρ hp) (hrb : ρ b = some sv) (hpos : 0 < sz)
  (hr : (execOp a.eval o).run P w = .ok (.value val') w1) (hbb : Below B w w1) (hss : w.heap.size ≤ w1.heap.size) (hkeep : ∀ k, k < w.heap.size → own sv ≠ some k → w1.heap[k]? = w.heap[k]?)
  (hownn : ∀ k, own v' = some k → w.heap.size ≤ k ∨ own sv = some k) (hl : vs.length = es0.length) (hsz : ∀ v ∈ vs, v.cells.size = sz) (h1 : ∀ v ∈ vs, ∀ u ∈ v.cells.toList, u.oneCell' = true)
  (hrr : ∀ (j : Nat) e v, es0[j]? = some e → vs[j]? = some v → RelD w (okAt ok B ρ w) e v) (how : w1.ownsRow B T sz v' es0.length (vs.flatMap (·.cells.toList)))
  (hres : Rel w1 (okAt ok B (upd ρ b (some v')) w1) (upd ρ b (some v')) vr val') : OpOk P ok B w ρ hp a o vr (.change b (.vec T sz es0)) := by
 have hkeep' : ∀ k, k < w.heap.size → (∀ sv, ρ b = some sv → own sv ≠ some k) → w1.heap[k]? = w.heap[k]? := fun k hk hne => hkeep k hk (hne _ hrb)
 have hokk : ∀ k, okAt ok B ρ w k → okAt ok B (upd ρ b (some v')) w1 k ∧ w1.heap[k]? = w.heap[k]? := by
  intro k hk
  obtain ⟨hok, hlt, hno⟩ := hk
  refine ⟨⟨hok, by omega, fun b' sv hr' ho' => ?_⟩, hkeep k hlt (hno b _ hrb)⟩
  unfold upd at hr'
  split at hr'
  ·simp at hr'
   subst hr'
   rcases hownn k ho' with hq | hq
   ·omega
   ·exact hno b _ hrb hq
  ·exact hno b' sv hr' ho'
 have hch := hI.change (w' := w1) b .undef (some (v', .vec T sz es0)) hss hkeep' (fun sv k hn => by
  simp at hn
  obtain ⟨rfl, rfl⟩ := hn
  exact ⟨fun g hg => (hownn g hg).imp id fun hq => ⟨_, hrb, hq⟩, hpos, vs, hl, hsz, h1, fun j el vv he hv => (hrr j el vv he hv).mono hokk, .inr how⟩) (fun _ _ _ => .ro (.undef _))
 exact .step (ρ' := upd ρ b (some v')) val' hr ⟨hbb, hch.1, hch.2, fun g hg hno => hkeep' g hg fun sv hr => hno b sv hr, (fun b' s g hs ho => by
  unfold upd at hs
  split at hs
  ·simp at hs
   subst hs
   rcases hownn g ho with hq | hq
   ·exact .inl hq
   ·exact .inr ⟨b, _, hrb, hq⟩
  ·exact .inr ⟨b', s, hs, ho⟩), (fun b' hb' => by
  have hne : ¬ b' = b := by intro e; subst e; simp [Eff.tc] at hb'
  unfold upd; rw [if_neg hne]), hss⟩ hres
theorem os_tail (hT : TOk P X.T) (hI : Inv ok B w ρ hp) (hE : ∀ x, Rel w (okAt ok B ρ w) ρ (opd env x) (a.eval x)) {c : Call} (ho : o.op = .call c) (h : twoOp X env hp d (.call c) = some (p, q)) : OpOk P ok B w ρ hp a o p.1 p.2 ∨ OpOk P ok B w ρ hp a o q.1 q.2 := by
 obtain ⟨cal, args, tys⟩ := c
 obtain ⟨args⟩ := args
 obtain ⟨tys⟩ := tys
 unfold twoOp at h
 simp only at h
 split at h
 ·rcases args with _ | ⟨s, _ | ⟨x, _ | ⟨y2, rest⟩⟩⟩ <;> rcases tys with _ | ⟨t, _ | ⟨t2, _ | ⟨u2, rest2⟩⟩⟩ <;> simp only at h <;> try (cases h; done)
  have hs := hE s
  have hx := hE x
  unfold tailV at h
  split at h
  ·rename_i e _ _ _ hi
   obtain ⟨I0, D0, z0, hf0⟩ := hT t _ hi
   have htk := hf0.tk
   unfold tkOk at htk
   cases D0 <;> simp at htk
   subst htk
   split at h
   ·rename_i i hi2
    obtain ⟨I, D, z, hf⟩ := hT _ i hi2
    split at h
    ·rename_i hsl
     obtain ⟨e2, hu2⟩ := slice_under hT hsl
     have fin : ∀ (ad ad2 : Option Addr) (n cap m c : Nat) (v' : Value) (w1 : World), a.eval s = .slice ad n cap → a.eval x = .slice ad2 m c → (Builtin.append_ #[t, t] o.type #[.slice ad n cap, .slice ad2 m c]).run P w = .ok v' w1 →
       (execOp a.eval o).run P w = .ok (.value v') w1 := fun ad ad2 n cap m c v' w1 e1 e2 hr => by
      rw [← run_append_types ad ad2 n cap m c hf0.under hu2] at hr
      simp [execOp, ho, resolve, invoke, builtin, e1, e2, hr]
     split at h
     ·rename_i b sz lo k hq
      rw [hq] at hs
      obtain ⟨g, n, cap, c, ad, hrb, hse, hn0, hlk, hkc, ⟨hcm, hcap⟩, had⟩ := hs.sub_inv
      split at h
      ·rename_i T sz0 es sz' es' hb hel
       split at h
       ·rename_i hc
        obtain ⟨rfl, hz0, hz1, rfl, hlen, hm, hby, h63, _⟩ := hc
        subst hz0
        subst hz1
        simp only [Option.some.injEq, Prod.mk.injEq] at h
        obtain ⟨⟨rfl, rfl⟩, rfl, rfl⟩ := h
        obtain ⟨sv, hsv, hpos, hown⟩ := hI.blk b _ hb
        rw [hrb] at hsv
        simp at hsv
        subst hsv
        rcases hown.form with ⟨ad0, he, rfl⟩ | ⟨g0, cap0, vs0, he, hc0, hle0, hl0, hsz0, h10, hr0, how⟩
        ·simp at he; omega
        simp only [Value.slice.injEq, Option.some.injEq, Addr.mk.injEq, and_true] at he
        obtain ⟨rfl, rfl, rfl⟩ := he
        rcases elemsZ_rel hI hx hel with ⟨ad2, c2, hxe, rfl⟩ | ⟨g2, o2, cap2, vs, hxe, hl, hsz, h1, hrr, hcell⟩
        ·simp at hm
        have hl' : (vs.flatMap (·.cells.toList)).length = es'.length * i.size := by rw [flat_length hsz, hl]
        have hcc : ∀ j u, (vs.flatMap (·.cells.toList))[j]? = some u → w.cell? ((⟨g2, o2, none⟩ : Addr).add j) = some u := fun j u hu => by rw [Addr.add_mid]; exact hcell j u hu
        have hcc1 : ∀ u ∈ vs.flatMap (·.cells.toList), u.oneCell' = true := fun u hu => by
         obtain ⟨v, hv, huv⟩ := List.mem_flatMap.1 hu
         exact h1 v hv u huv
        have hownS : own (.slice (some ⟨g, 0, none⟩) es.length cap) = some g := by simp [own]; omega
        have hgB : B ≤ g := (hI.own_ge hrb hownS).1
        by_cases hroom : k + es'.length ≤ c
        ·-- in place
         left
         have hc1 : ¬ c = 0 := by omega
         have had' := had.resolve_left hc1
         subst had'
         obtain ⟨hxl, hx2⟩ := how
         rcases hx2 with ⟨hbad, _⟩ | ⟨g3, cap3, cur, hv3, hbg, hg3, hnc, hcm3, hcs, htake⟩
         ·cases hbad
         simp only [Value.slice.injEq, Option.some.injEq, Addr.mk.injEq, and_true, true_and] at hv3
         obtain ⟨rfl, rfl⟩ := hv3
         have hoff : lo * i.size + k * i.size = es.length * i.size := by rw [← Nat.add_mul, hlen]
         have hfit : lo * i.size + k * i.size + (vs.flatMap (·.cells.toList)).length ≤ cur.size := by rw [hoff, hl', hcs, ← Nat.add_mul]; exact Nat.mul_le_mul_right _ (by omega)
         have hr := append_room_at (P := P) t o.type T I hf0.under hf.info g (lo * i.size) k c cur hg3 ⟨g2, o2, none⟩ es'.length cap2 (vs.flatMap (·.cells.toList)) (by rw [hl', hf.size]) hcc hcc1 hroom (by rw [hf.size]; exact hfit)
         rw [hf.size, hoff] at hr
         rw [hoff] at hfit
         have hgr : ∀ arr, w.grownBy (w.setRow g arr) (some g) := fun arr => ⟨rfl, rfl, rfl, by simp, fun k _ hk => setRow_other w g k _ (fun e => hk (by simp [e]))⟩
         refine tail_end (v' := .slice (some ⟨g, 0, none⟩) (es ++ es').length cap) (vs := vs0 ++ vs) hI hrb hpos (fin _ _ _ _ _ _ _ _ hse hxe hr) ?_ ?_ ?_ ?_ (by simp [hl0, hl]) ?_ ?_ ?_ ?_ ?_
         ·exact below_grown (hgr _) hI.size (fun k hk => by simp at hk; omega)
         ·exact (hgr _).size
         ·exact fun k hk hne => (hgr _).block k hk (by intro e; apply hne; rw [hownS, e])
         ·intro k hk
          right
          rw [hownS]
          simp only [own] at hk
          split at hk
          ·cases hk
          ·exact hk
         ·intro v hv
          rcases List.mem_append.1 hv with hv | hv
          ·exact hsz0 v hv
          ·exact hsz v hv
         ·intro v hv
          rcases List.mem_append.1 hv with hv | hv
          ·exact h10 v hv
          ·exact h1 v hv
         ·intro j el vv he hv
          by_cases hj : j < es.length
          ·rw [List.getElem?_append_left hj] at he
           rw [List.getElem?_append_left (by omega)] at hv
           exact hr0 j el vv he hv
          ·rw [List.getElem?_append_right (by omega)] at he
           rw [List.getElem?_append_right (by omega), hl0] at hv
           exact hrr _ el vv he hv
         ·have hlen2 : ((vs0 ++ vs).flatMap (·.cells.toList)).length = (es ++ es').length * i.size := by
           rw [List.flatMap_append, List.length_append, hxl, hl', List.length_append, Nat.add_mul]
          refine ⟨hlen2, .inr ⟨g, cap, _, rfl, hbg, setRow_heap w g cur _ T _ hg3, by rw [List.length_append]; omega, hcm3, ?_, ?_⟩⟩
          ·simp only [List.size_toArray, List.length_append, List.length_take, List.length_drop, Array.length_toList]
           omega
          ·rw [htake, ← hlen2, List.flatMap_append]
           exact List.take_left
         ·exact .sub b i.size lo (k + es'.length) g (es ++ es').length cap c _ (by simp [upd]) ⟨by rw [List.length_append]; omega, by rw [List.length_append]; omega, hroom, ⟨hcm, hcap⟩, .inr rfl⟩
        ·right
         have hdl : (es.drop lo).length = k := by rw [List.length_drop]; omega
         have hvl : (vs0.drop lo).length = k := by rw [List.length_drop]; omega
         have hnew : ∃ v' w1, (Builtin.append_ #[t, t] o.type #[.slice ad k c, .slice (some ⟨g2, o2, none⟩) es'.length cap2]).run P w = .ok v' w1 ∧ w1.ownsRow w.heap.size T i.size v' (k + es'.length) ((vs0.drop lo ++ vs).flatMap (·.cells.toList)) ∧ w.grownBy w1 none := by
          by_cases hc1 : c = 0
          ·subst hc1
           have hk0 : k = 0 := by omega
           subst hk0
           have hd0 : vs0.drop lo = [] := List.eq_nil_of_length_eq_zero hvl
           obtain ⟨v', w1, hr, how', hgr'⟩ := append_zero (w := w) (ty := o.type) hf0.under hf hpos ad g2 o2 cap2 es' vs hl hsz hcell h1 (by omega) (Nat.le_trans (Nat.mul_le_mul_right _ (by omega)) hby) (by omega)
           refine ⟨v', w1, hr, ?_, hgr'⟩
           rw [hd0, List.nil_append, Nat.zero_add]
           exact how'
          ·have had' := had.resolve_left hc1
           subst had'
           have hcells := how.cells (g := g) rfl
           obtain ⟨v', w1, hr, how', hgr'⟩ := run_append_arg_grows (P := P) w t o.type T I z i.size i.bytes hf0.under hf.info hf.zero hf.size hf.bytes hf.zsize hpos ⟨g, lo * i.size, none⟩ k c ((vs0.drop lo).flatMap (·.cells.toList))
            (by rw [flat_length (fun v hv => hsz0 v (List.mem_of_mem_drop hv)), hvl]) (fun j u hu => by
             rw [flat_drop hsz0, List.getElem?_drop] at hu
             have := hcells _ _ hu
             rw [Addr.add_mid] at this ⊢
             rw [Nat.zero_add] at this
             exact this) ⟨g2, o2, none⟩ es'.length cap2 _ hl' hcc (by omega) (by omega) (Nat.le_trans (Nat.mul_le_mul_right _ (by omega)) hby)
           exact ⟨v', w1, hr, by rw [List.flatMap_append]; exact how', hgr'⟩
         obtain ⟨v', w1, hr, how', hgr'⟩ := hnew
         have hv' : ∃ g' cap', v' = .slice (some ⟨g', 0, none⟩) (k + es'.length) cap' ∧ w.heap.size ≤ g' ∧ k + es'.length ≤ cap' ∧ cap' ≤ maxLen := by
          rcases how'.2 with ⟨_, hbad⟩ | ⟨g', cap', cur, hv3, hbg, _, hnc, hcm3, _⟩
          ·omega
          ·exact ⟨g', cap', hv3, hbg, hnc, hcm3⟩
         obtain ⟨g', cap', rfl, hg', hn', hc'⟩ := hv'
         have hle : (es.drop lo ++ es').length = k + es'.length := by rw [List.length_append, hdl]
         refine tail_end (vs := vs0.drop lo ++ vs) hI hrb hpos (fin _ _ _ _ _ _ _ _ hse hxe hr) (below_grown hgr' hI.size (fun k hk => by cases hk)) hgr'.size (fun k hk _ => hgr'.block k hk (by simp)) ?_ (by simp [hl0, hl]) ?_ ?_ ?_ (by rw [hle]; exact ownsRow_base how' hI.size) ?_
         ·intro k hk
          left
          simp only [own] at hk
          split at hk
          ·cases hk
          ·simp at hk; omega
         ·intro v hv
          rcases List.mem_append.1 hv with hv | hv
          ·exact hsz0 v (List.mem_of_mem_drop hv)
          ·exact hsz v hv
         ·intro v hv
          rcases List.mem_append.1 hv with hv | hv
          ·exact h10 v (List.mem_of_mem_drop hv)
          ·exact h1 v hv
         ·intro j el vv he hv
          by_cases hj : j < (es.drop lo).length
          ·rw [List.getElem?_append_left hj, List.getElem?_drop] at he
           rw [List.getElem?_append_left (by omega), List.getElem?_drop] at hv
           exact hr0 _ el vv he hv
          ·rw [List.getElem?_append_right (by omega)] at he
           rw [List.getElem?_append_right (by omega), hvl, ← hdl] at hv
           exact hrr _ el vv he hv
         ·exact .sub b i.size 0 (k + es'.length) g' (k + es'.length) cap' cap' _ (by simp [upd]) ⟨by omega, by omega, hn', ⟨hc', by omega⟩, .inr (by rw [Nat.zero_mul])⟩
       ·cases h
      ·cases h
     ·cases h
    ·cases h
   ·cases h
  ·cases h
 ·cases h
end
end Go.Ev
