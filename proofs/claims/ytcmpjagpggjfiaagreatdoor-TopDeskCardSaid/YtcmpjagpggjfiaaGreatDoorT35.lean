/-
  Steps of the proof of TopDesk: Ins InsE.
-/
import Derived.Test.YtcmpjagpggjfiaaGreatDoorT12
import Derived.Laws.CopyRow
import Derived.Lib.AppendZeros
import Derived.Lib.AppendZerosOnto
import Derived.Deep.AppendSrc
import Derived.Laws.Externs
import Derived.Laws.IdiomCopy
import Derived.Lib.Walk
import Derived.Shelf.RegionOpenPlain
import Derived.WalkKit
set_option linter.unusedSimpArgs false
section
namespace Go.Ev
open Go Go.RowKit
theorem run_copy_k {P : Program} (w : World) (dT sT ty elem : TypeId) (I : TypeInfo) (g o dLen dCap : Nat) (a : Addr) (sLen sCap n : Nat) (cur : Array Value) (t : TypeId) (cs : List Value)
  (hu : P.underlying dT = some (.slice elem)) (hi : P.info? elem = some I) (hg : w.heap[g]? = some (.cells cur t (0, 0))) (hn : Nat.min sLen dLen = n) (hl : cs.length = n * I.size)
  (hsrc : ∀ j v, cs[j]? = some v → w.cell? (a.add j) = some v) (hfit : o + cs.length ≤ cur.size) (h1 : ∀ v ∈ cs, v.oneCell' = true) :
  (Builtin.copy_ #[dT, sT] ty #[.slice (some ⟨g, o, none⟩) dLen dCap, .slice (some a) sLen sCap]).run P w =
   .ok (goInt n) (w.setRow g (cur.toList.take o ++ cs ++ cur.toList.drop (o + cs.length)).toArray) := by
 have hld := run_loadCells_list (P := P) w a cs hsrc
 have hst := run_storeCells_at P g o t cs 0 cur w hg (by simpa using hfit) h1
 rw [hl] at hld
 simp [Builtin.copy_, run_underlying hu, Builtin.lenOf, Builtin.firstCells, sizeOf, typeInfo, hi, hn, hld, hst]
theorem run_overlaps_own {P : Program} (w : World) (tS tR e : TypeId) (ht : P.underlying tS = some (.slice e)) (size : Nat) (hz : ∀ w, (Go.sizeOf e).run P w = .ok size w)
  (a b : Addr) (la ca lb cb : Nat) (hne : a.block ≠ b.block) (cur : Array Value) (t : TypeId) (hb : w.heap[b.block]? = some (.cells cur t (0, 0))) (h0 : cur.size ≠ 0) (tA : TypeId) (kA : Nat)
  (hsa : w.shape? a.block = some (tA, kA + 1)) :
  (Extern.SlicesOverlaps.overlaps #[tS, tS] #[tR] #[.slice (some a) la ca, .slice (some b) lb cb]).run P w = .ok (.bool false) w := by
 have hnb : (a.block != b.block) = true := by simpa using hne
 have hnb' : (a.block == b.block) = false := by simpa using hne
 have hsb : w.shape? b.block = some (t, cur.size) := by simp [World.shape?, hb]
 have hfb : w.frozen? b = false := by simp [World.frozen?, hb]
 have hfb' : ∀ k, w.frozen? { block := b.block, off := k } = false := fun k => by simp [World.frozen?, hb]
 change Sem.run P (α := Value) (do
  let some t := (#[tS, tS] : Array TypeId)[0]? | stuck "slices.overlaps: no parameter types"
  let .slice elem ← underlying t | stuck "slices.overlaps: slice type expected"
  let size ← sizeOf elem
  match (some a : Option Addr), (some b : Option Addr) with
  | some a, some b =>
   if la = 0 ∨ lb = 0 ∨ size = 0 then pure (Value.bool false)
   else if a.block != b.block && (← frozen a) && (← frozen b) then unsupported .addressObserved
   else do
    if a.block != b.block then do
     noView a; noView b
     if ← mayBeOne a b then return Value.bool ((← choose (.extern "sameAddr.stringBytes" 2)) == 1)
    pure (Value.bool (a.block == b.block && a.off < b.off + lb * size && b.off < a.off + la * size))
  | _, _ => pure (Value.bool false)) w = _
 by_cases hq : la = 0 ∨ lb = 0 ∨ size = 0
 ·simp [run_underlying ht, hz, hq]
 ·obtain ⟨k, hk⟩ : ∃ k, cur.size = k + 1 := ⟨cur.size - 1, by omega⟩
  rw [hk] at hsb
  cases hfa : w.frozen? a with
  | true => simp [run_underlying ht, hz, hq, hnb, hnb', frozen, noView, viewAt, mayBeOne, stringish, shape, Sem.run, hsa, hsb, hfa, hfb, hfb']
  | false =>
   cases hfe : w.frozen? { block := a.block, off := kA + 1 } with
   | true => simp [run_underlying ht, hz, hq, hnb, hnb', frozen, noView, viewAt, mayBeOne, stringish, shape, Sem.run, hsa, hsb, hfa, hfb, hfb', hfe]
   | false => simp [run_underlying ht, hz, hq, hnb, hnb', frozen, noView, viewAt, mayBeOne, stringish, shape, Sem.run, hsa, hsb, hfa, hfb, hfb', hfe]
theorem ins_room (cur xs news : List Value) (a m k : Nat) (hx : cur.take k = xs) (hk : xs.length = k) (ha : a ≤ k) (hn : news.length = m) (hfit : k + m ≤ cur.length) :
  (((cur.take (a + m) ++ xs.drop a ++ cur.drop (a + m + (xs.drop a).length)).take a ++ news ++ (cur.take (a + m) ++ xs.drop a ++ cur.drop (a + m + (xs.drop a).length)).drop (a + news.length)).take (k + m)) = xs.take a ++ news ++ xs.drop a := by
 have e1 : (cur.take (a + m) ++ xs.drop a ++ cur.drop (a + m + (xs.drop a).length)).take a = xs.take a := by
  rw [List.append_assoc, List.take_append_of_le_length (by rw [List.length_take]; omega), List.take_take, ← hx, List.take_take]
  congr 1
  omega
 have e2 : (cur.take (a + m) ++ xs.drop a ++ cur.drop (a + m + (xs.drop a).length)).drop (a + news.length) = xs.drop a ++ cur.drop (a + m + (xs.drop a).length) := by
  rw [List.append_assoc]
  exact List.drop_left' (by rw [List.length_take]; omega)
 rw [e1, e2, ← List.append_assoc, List.take_append_of_le_length (by simp only [List.length_append, List.length_take, List.length_drop]; omega)]
 exact List.take_of_length_le (by simp only [List.length_append, List.length_take, List.length_drop]; omega)
theorem ins_grow (olds zs news rest : List Value) (a m k : Nat) (ho : olds.length = a) (hn : news.length = m) (hr : rest.length = k) :
  (((((olds ++ zs).take a ++ news ++ (olds ++ zs).drop (a + news.length)).take (a + m)) ++ rest ++ ((olds ++ zs).take a ++ news ++ (olds ++ zs).drop (a + news.length)).drop (a + m + rest.length)).take (a + m + k)) = olds ++ news ++ rest := by
 have e1 : (olds ++ zs).take a = olds := List.take_left' ho
 have e2 : ((olds ++ zs).take a ++ news ++ (olds ++ zs).drop (a + news.length)).take (a + m) = olds ++ news := by
  rw [e1]
  exact List.take_left' (by rw [List.length_append]; omega)
 rw [e2]
 exact List.take_left' (by simp only [List.length_append]; omega)
theorem run_append_ty {P : Program} (w : World) (a : Array TypeId) (ty ty' : TypeId) (args : Array Value) : (Builtin.append_ a ty args).run P w = (Builtin.append_ a ty' args).run P w := rfl
theorem listCopy {P : Program} (w : World) {ops : Array Oper} {rest : List Oper} {o : Oper} {a : Act} {Q : Exit → Act → World → Prop} (hgd : o.guard = none) (d s : Operand) (t t' : TypeId)
  (ho : o.op = .call { callee := .builtin .copy, args := #[d, s], argTypes := #[t, t'] }) (v u : Value) (hd : a.eval d = v) (hs : a.eval s = u) {v' : Value} {w' : World}
  (hr : (Builtin.copy_ #[t, t'] o.type #[v, u]).run P w = .ok v' w') (h : wpList P ops Q rest (a.put o.dst v') w') : wpList P ops Q (o :: rest) a w := by
 refine wpList_plain hgd fun K hK => ?_
 unfold Oper.wp execOp
 simp only [ho, resolve, invoke, builtin, Sem.run_bind, Sem.run_pure, Result.andThen_ok, List.map_toArray, List.map_cons, List.map_nil, hd, hs, hr]
 exact hK _ _ h
theorem stepCopy {P : Program} {ops : Array Oper} {o : Oper} {a : Act} {w : World} {K : Act → World → Prop} {Q : Exit → Act → World → Prop} {E : Prop}
  (hg : o.guard = none) (d x : Operand) (dT sT : TypeId) (hop : o.op = Op.call { callee := Callee.builtin Builtin.copy, args := #[d, x], argTypes := #[dT, sT] })
  (v u : Value) (hd : a.eval d = v) (hx : a.eval x = u) {v' : Value} {w' : World} (hr : (Builtin.copy_ #[dT, sT] o.type #[v, u]).run P w = .ok v' w') (hK : K (a.put o.dst v') w') :
  if Region.wanted o (yielded ops a.tmps) = true then Oper.wp P o a w K Q else E := by
 have hw : Region.wanted o (yielded ops a.tmps) = true := by simp [Region.wanted, hg]
 rw [if_pos hw]
 unfold Oper.wp
 simp [execOp, hop, resolve, invoke, builtin, hd, hx, hr, Result.andThen]
 exact hK
theorem flat_take {sz : Nat} : ∀ {vs : List Value}, (∀ v ∈ vs, v.cells.size = sz) → ∀ i, (vs.take i).flatMap (·.cells.toList) = (vs.flatMap (·.cells.toList)).take (i * sz)
 | [], _, i => by simp
 | v :: vs, h, 0 => by simp
 | v :: vs, h, i + 1 => by
  have hv : v.cells.toList.length = sz := by rw [Array.length_toList]; exact h v List.mem_cons_self
  have hadd : (i + 1) * sz = v.cells.toList.length + i * sz := by rw [hv, Nat.add_mul, Nat.one_mul, Nat.add_comm]
  rw [List.take_succ_cons, List.flatMap_cons, List.flatMap_cons, flat_take (fun y hy => h y (List.mem_cons_of_mem _ hy)) i, hadd, List.take_length_add_append]
theorem flat_dropI {sz : Nat} : ∀ {vs : List Value}, (∀ v ∈ vs, v.cells.size = sz) → ∀ i, (vs.drop i).flatMap (·.cells.toList) = (vs.flatMap (·.cells.toList)).drop (i * sz)
 | [], _, i => by simp
 | v :: vs, h, 0 => by simp
 | v :: vs, h, i + 1 => by
  have hv : v.cells.toList.length = sz := by rw [Array.length_toList]; exact h v List.mem_cons_self
  have hadd : (i + 1) * sz = v.cells.toList.length + i * sz := by rw [hv, Nat.add_mul, Nat.one_mul, Nat.add_comm]
  rw [List.drop_succ_cons, List.flatMap_cons, flat_dropI (fun y hy => h y (List.mem_cons_of_mem _ hy)) i, hadd, List.drop_length_add_append]
theorem allrel_app {R : V → Value → Prop} {es es' : List V} {vs vs' : List Value} (h : ∀ (j : Nat) e v, es[j]? = some e → vs[j]? = some v → R e v) (h' : ∀ (j : Nat) e v, es'[j]? = some e → vs'[j]? = some v → R e v) (hl : vs.length = es.length) :
  ∀ (j : Nat) e v, (es ++ es')[j]? = some e → (vs ++ vs')[j]? = some v → R e v := fun j e v he hv => by
 by_cases hj : j < es.length
 ·rw [List.getElem?_append_left hj] at he
  rw [List.getElem?_append_left (by omega)] at hv
  exact h j e v he hv
 ·rw [List.getElem?_append_right (by omega)] at he
  rw [List.getElem?_append_right (by omega), hl] at hv
  exact h' _ e v he hv
theorem allrel_take {R : V → Value → Prop} {es : List V} {vs : List Value} (i : Nat) (h : ∀ (j : Nat) e v, es[j]? = some e → vs[j]? = some v → R e v) : ∀ (j : Nat) e v, (es.take i)[j]? = some e → (vs.take i)[j]? = some v → R e v := fun j e v he hv => by
 rw [List.getElem?_take] at he hv
 split at he
 ·rw [if_pos (by assumption)] at hv
  exact h j e v he hv
 ·cases he
theorem allrel_drop {R : V → Value → Prop} {es : List V} {vs : List Value} (i : Nat) (h : ∀ (j : Nat) e v, es[j]? = some e → vs[j]? = some v → R e v) : ∀ (j : Nat) e v, (es.drop i)[j]? = some e → (vs.drop i)[j]? = some v → R e v := fun j e v he hv => by
 rw [List.getElem?_drop] at he hv
 exact h _ e v he hv
end Go.Ev
end
section
namespace Go.Proofs.YtcmpjagpggjfiaaGreatDoor
open Go Go.Ev Go.RowKit Go.Lib
theorem infE : ∃ (i : TI) (I : TypeInfo) (D : TypeDesc) (z : Value), TFact Tryz.prog 55 i I D z ∧ I.size = 3 ∧ I.bytes = 48 ∧ z.cells.size = 3 := by
 obtain ⟨I, D, z, h⟩ := tiOk_spec (P := Tryz.prog) (t := 55) (i := ((tyF 55).getD ⟨.bool, 0, 0, .undef⟩)) (by kernel_rfl)
 exact ⟨_, I, D, z, h, h.size, h.bytes, h.zsize⟩
set_option maxHeartbeats 4000000 in
set_option maxRecDepth 100000 in
theorem insE_end (sv u v' : Value) (n m : Nat) (w w' : World) (hm : 0 < m) (hs : ∃ ad cap, sv = .slice ad n cap) (hu : ∃ a c, u = .slice (some a) m c)
  (hr : ∀ ty, (Builtin.append_ #[32, 32] ty #[sv, u]).run Tryz.prog w = .ok v' w') :
  Calls Tryz.prog 35 #[sv, .int .i64 n, u] w fun e w1 => e = .returned v' ∧ w1 = w' := by
 obtain ⟨ad, cap, rfl⟩ := hs
 obtain ⟨a, c, rfl⟩ := hu
 have hz1 : ¬ ((m : Int) = 0) := by omega
 have mixed := mixOk
 go_enter Tryz.func35, Tryz.ntmps35
 go_wp2_with (at_builtin; refine Lib.wpList_append_run _ rfl _ _ _ _ rfl _ _ rfl rfl _ _ (hr _) ?_)
 all_goals (go_ret; exact ⟨rfl, rfl⟩)
set_option maxHeartbeats 4000000 in
set_option maxRecDepth 100000 in
theorem insE_room (g n c i vb voff m vc : Nat) (cur : Array Value) (xs vs : List Value) (w : World) (hi : i < n) (hm : 0 < m) (hroom : n + m ≤ c) (hc63 : c ≤ maxLen) (hvb : vb ≠ g)
  (hg : w.heap[g]? = some (.cells cur 55 (0, 0))) (hcs : cur.size = c * 3) (hx : cur.toList.take (n * 3) = xs) (hvl : vs.length = m * 3)
  (hvs : ∀ j v, vs[j]? = some v → w.cell? ⟨vb, voff + j, none⟩ = some v) (h1x : ∀ v ∈ xs, v.oneCell' = true) (h1v : ∀ v ∈ vs, v.oneCell' = true) :
  Calls Tryz.prog 35 #[.slice (some ⟨g, 0, none⟩) n c, .int .i64 i, .slice (some ⟨vb, voff, none⟩) m vc] w fun e w' =>
   e = .returned (.slice (some ⟨g, 0, none⟩) (n + m) c) ∧ w.grownBy w' (some g) ∧ ∃ c2 : Array Value, w'.heap[g]? = some (.cells c2 55 (0, 0)) ∧ c2.size = c * 3 ∧ c2.toList.take ((n + m) * 3) = xs.take (i * 3) ++ vs ++ xs.drop (i * 3) := by
 obtain ⟨i0, I, D, z, hF, hI, hB, hz⟩ := infE
 unfold maxLen at hc63
 have hu : Tryz.prog.underlying 32 = some (.slice 55) := by kernel_rfl
 have hxl : xs.length = n * 3 := by rw [← hx, List.length_take, Array.length_toList, hcs]; omega
 have hz1 : ¬ ((m : Int) = 0) := by omega
 have hz2 : ¬ ((i : Int) = (n : Int)) := by omega
 obtain ⟨tA, kA, hsa⟩ : ∃ tA kA, w.shape? vb = some (tA, kA + 1) := by
  have h0 := hvs 0 (vs[0]'(by omega)) (List.getElem?_eq_getElem (by omega))
  unfold World.cell? at h0
  split at h0
  ·rename_i cc t f hh
   simp at h0
   have hlt : voff < cc.size := by
    rcases Nat.lt_or_ge voff cc.size with h | h
    ·exact h
    ·rw [Array.getElem?_eq_none h] at h0; cases h0
   refine ⟨t, cc.size - 1, ?_⟩
   unfold World.shape?
   rw [show w.heap[vb]? = some (.cells cc t f) from hh]
   simp only [Option.some.injEq, Prod.mk.injEq, true_and]
   omega
  ·cases h0
 have hov : ∀ o lb cb, (callFunc 104 #[.slice (some ⟨vb, voff, none⟩) m vc, .slice (some ⟨g, o, none⟩) lb cb]).run Tryz.prog w = .ok (.value (.bool false)) w := fun o lb cb => by
  rw [run_callFunc_extern Tryz.func104 (by kernel_rfl) (by kernel_rfl) (by kernel_rfl) (e := Extern.SlicesOverlaps.overlaps #[32, 32] #[4]) (by kernel_rfl),
   run_overlaps_own w 32 _ 55 hu I.size (fun w => by simp [Go.sizeOf, typeInfo, hF.info]) ⟨vb, voff, none⟩ ⟨g, o, none⟩ m vc lb cb hvb cur 55 hg (by omega) tA kA hsa]
  rfl
 have hdl : (xs.drop (i * 3)).length = (n - i) * 3 := by rw [List.length_drop, hxl]; omega
 have hw1 : IntKind.i64.wrap ((i : Int) + (m : Int)) = (i : Int) + (m : Int) := by rw [IntKind.wrap_i64]; omega
 have hb1 : (0 : Int) ≤ (i : Int) + (m : Int) := by omega
 have hin : i ≤ n := by omega
 have htn : ((i : Int) + (m : Int)).toNat = i + m := by omega
 have hb2 : ¬ (c = i + m) := by omega
 have hb3 : (i : Int) ≤ (n : Int) + (m : Int) := by omega
 have hb4 : ¬ (c = i) := by omega
 have hgx : ∀ (j : Nat) v, xs[j]? = some v → w.cell? ⟨g, j, none⟩ = some v := fun j v hj => by
  rw [← hx, List.getElem?_take] at hj
  split at hj
  ·simp [World.cell?, hg]
   simpa using hj
  ·cases hj
 obtain ⟨C1, hC1⟩ : ∃ C1 : Array Value, C1 = (cur.toList.take ((i + m) * 3) ++ xs.drop (i * 3) ++ cur.toList.drop ((i + m) * 3 + (xs.drop (i * 3)).length)).toArray := ⟨_, rfl⟩
 have hC1s : C1.size = c * 3 := by
  rw [hC1]
  simp only [List.size_toArray, List.length_append, List.length_take, List.length_drop, Array.length_toList, hdl, hcs, hxl]
  omega
 have hcp1 : ∀ ty dc sc, (Builtin.copy_ #[32, 32] ty #[.slice (some ⟨g, (i + m) * 3, none⟩) (n + m - (i + m)) dc, .slice (some ⟨g, i * 3, none⟩) (n + m - i) sc]).run Tryz.prog w.drew = .ok (goInt (n - i : Nat)) (w.drew.setRow g C1) := fun ty dc sc => by
  rw [hC1]
  exact run_copy_k w.drew 32 32 ty 55 I g ((i + m) * 3) (n + m - (i + m)) dc ⟨g, i * 3, none⟩ (n + m - i) sc (n - i) cur 55 (xs.drop (i * 3)) hu hF.info hg (by simp only [Nat.min_def]; split <;> omega) (by rw [hdl, hI])
   (fun j v hj => by rw [Addr.add_lit]; exact hgx (i * 3 + j) v (by rwa [List.getElem?_drop] at hj)) (by rw [hdl, hcs]; omega) (fun v hv => h1x v (List.mem_of_mem_drop hv))
 have hW1 : (w.drew.setRow g C1).heap[g]? = some (.cells C1 55 (0, 0)) := setRow_heap _ g cur C1 55 (0, 0) hg
 obtain ⟨C2, hC2⟩ : ∃ C2 : Array Value, C2 = (C1.toList.take (i * 3) ++ vs ++ C1.toList.drop (i * 3 + vs.length)).toArray := ⟨_, rfl⟩
 have hC2s : C2.size = c * 3 := by
  rw [hC2]
  simp only [List.size_toArray, List.length_append, List.length_take, List.length_drop, Array.length_toList, hC1s, hvl]
  omega
 have hcp2 : ∀ (W : World), W.heap = (w.drew.setRow g C1).heap → ∀ ty dc, (Builtin.copy_ #[32, 32] ty #[.slice (some ⟨g, i * 3, none⟩) (n + m - i) dc, .slice (some ⟨vb, voff, none⟩) m vc]).run Tryz.prog W = .ok (goInt m) (W.setRow g C2) := fun W hW ty dc => by
  rw [hC2]
  exact run_copy_k W 32 32 ty 55 I g (i * 3) (n + m - i) dc ⟨vb, voff, none⟩ m vc m C1 55 vs hu hF.info (by rw [hW]; exact hW1) (by simp only [Nat.min_def]; split <;> omega) (by rw [hvl, hI])
   (fun j v hj => by
    rw [Addr.add_lit]
    have h1 := hvs j v hj
    have h2 := cell_setRow_other w.drew g C1 ⟨vb, voff + j, none⟩ hvb
    unfold World.cell? at h1 h2 ⊢
    rw [hW, h2]
    exact h1) (by rw [hvl, hC1s]; omega) h1v
 have hfin : ∀ W : World, W = (w.drew.setRow g C1).setRow g C2 → w.grownBy W (some g) ∧ ∃ c2 : Array Value, W.heap[g]? = some (.cells c2 55 (0, 0)) ∧ c2.size = c * 3 ∧ c2.toList.take ((n + m) * 3) = xs.take (i * 3) ++ vs ++ xs.drop (i * 3) := by
  rintro W rfl
  refine ⟨⟨rfl, rfl, rfl, by simp, fun k hk hne => ?_⟩, C2, setRow_heap _ g C1 C2 55 (0, 0) hW1, hC2s, ?_⟩
  ·have hkg : k ≠ g := fun e => hne (by rw [e])
   rw [setRow_other _ g k _ hkg, setRow_other _ g k _ hkg]
   rfl
  ·have key := ins_room cur.toList xs vs (i * 3) (m * 3) (n * 3) hx hxl (by omega) hvl (by rw [Array.length_toList, hcs]; omega)
   rw [hC2, hC1]
   rw [show i * 3 + m * 3 = (i + m) * 3 by omega, show n * 3 + m * 3 = (n + m) * 3 by omega] at key
   exact key
 clear hC1 hC2 hC1s hC2s
 have mixed := mixOk
 go_enter Tryz.func35, Tryz.ntmps35
 go_wp2_with (simp only [hov])
 go_region_law_o (refine stepCopy rfl _ _ 32 32 rfl _ _ (by simp [Act.eval, Act.put]) (by simp [Act.eval, Act.put]) (hcp1 _ _ _) ?_)
 go_wp2_with (at_builtin; refine listCopy _ rfl _ _ 32 32 rfl _ _ rfl rfl (hcp2 _ rfl _ _) ?_)
 go_ret
 exact ⟨rfl, hfin _ rfl⟩
set_option maxHeartbeats 4000000 in
set_option maxRecDepth 100000 in
theorem insE_grow (g n c i vb voff m vc : Nat) (xs vs : List Value) (w : World) (hi : i < n) (hm : 0 < m) (hnc : n ≤ c) (hroom : c < n + m) (hbig : (n + m) * 48 ≤ 140737488355328)
  (hxl : xs.length = n * 3) (hvl : vs.length = m * 3) (hgx : ∀ (j : Nat) v, xs[j]? = some v → w.cell? ⟨g, j, none⟩ = some v)
  (hvs : ∀ j v, vs[j]? = some v → w.cell? ⟨vb, voff + j, none⟩ = some v) (h1x : ∀ v ∈ xs, v.oneCell' = true) (h1v : ∀ v ∈ vs, v.oneCell' = true) :
  Calls Tryz.prog 35 #[.slice (some ⟨g, 0, none⟩) n c, .int .i64 i, .slice (some ⟨vb, voff, none⟩) m vc] w fun e w' =>
   ∃ G, e = .returned (.slice (some ⟨w.heap.size, 0, none⟩) (n + m) G) ∧ n + m ≤ G ∧ G ≤ maxLen ∧ w.grownBy w' none ∧ ∃ c2 : Array Value, w'.heap[w.heap.size]? = some (.cells c2 55 (0, 0)) ∧ c2.size = G * 3 ∧ c2.toList.take ((n + m) * 3) = xs.take (i * 3) ++ vs ++ xs.drop (i * 3) := by
 obtain ⟨i0, I, D, z, hF, hI, hB, hz⟩ := infE
 have hu : Tryz.prog.underlying 32 = some (.slice 55) := by kernel_rfl
 have hui : Tryz.prog.underlying 3 = some (.int .i64) := by kernel_rfl
 have hz1 : ¬ ((m : Int) = 0) := by omega
 have hz2 : ¬ ((i : Int) = (n : Int)) := by omega
 have hz3 : (c : Int) < (n : Int) + (m : Int) := by omega
 have hbw : g < w.heap.size := World.block_lt_of_cell? w _ (hgx 0 _ (List.getElem?_eq_getElem (by omega)))
 have hvw : vb < w.heap.size := World.block_lt_of_cell? w _ (hvs 0 _ (List.getElem?_eq_getElem (by omega)))
 have hkk : (n : Int) + (m : Int) - (i : Int) = ((n + m - i : Nat) : Int) := by omega
 have hik : i + (n + m - i) = n + m := by omega
 have htl : (xs.take (i * 3)).length = i * 3 := by rw [List.length_take, hxl]; omega
 have hold : (Builtin.firstCells I.size i (.slice (some ⟨g, 0, none⟩) i c)).run Tryz.prog w.drew = .ok (xs.take (i * 3)).toArray w.drew := by
  rw [hI]
  exact run_firstCells_some w.drew 3 i ⟨g, 0, none⟩ i c (xs.take (i * 3)) htl (fun j v hj => by
   rw [Addr.add_lit, Nat.zero_add]
   rw [List.getElem?_take] at hj
   split at hj
   ·exact hgx j v hj
   ·cases hj)
 have hrz : ∀ ty, (Builtin.append_ #[32, 3] ty #[.slice (some ⟨g, 0, none⟩) i c, .int .i64 ((n : Int) + (m : Int) - (i : Int))]).run Tryz.prog w =
   .ok (.slice (some ⟨w.heap.size, 0, none⟩) (n + m) (grownCap w (n + m) c 55)) (w.drew.alloc (.cells ((xs.take (i * 3)).toArray ++ Builtin.zeroCells z.cells (n + m - i) ++ Builtin.zeroCells z.cells (grownCap w (n + m) c 55 - (n + m))) 55)) := fun ty => by
  have h := Lib.run_append_grow_zeros w 32 3 ty 55 I z .i64 .i64 hu hui hF.info hF.zero (some ⟨g, 0, none⟩) i c (xs.take (i * 3)) hold (n + m - i) (by omega) (by omega) (by omega) (by omega) (by rw [hB]; omega) (by rw [hB, hik]; exact growslice_fits hroom hbig)
  rw [hik] at h
  rw [hkk]
  exact h
 obtain ⟨G, hG⟩ : ∃ G, G = grownCap w (n + m) c 55 := ⟨_, rfl⟩
 have hGn : n + m ≤ G := by rw [hG]; exact grownCap_ge w _ _ _
 have hG63 : G ≤ maxLen := by rw [hG]; exact grownCap_le_maxLen w (n + m) c 55 (by unfold maxLen; omega)
 obtain ⟨ZS, hZS⟩ : ∃ ZS : List Value, ZS = (Builtin.zeroCells z.cells (n + m - i) ++ Builtin.zeroCells z.cells (G - (n + m))).toList := ⟨_, rfl⟩
 have hZl : ZS.length = (n + m - i) * 3 + (G - (n + m)) * 3 := by
  rw [hZS]
  simp [size_zeroCells, hz]
 obtain ⟨ROW, hROW⟩ : ∃ ROW : Array Value, ROW = (xs.take (i * 3)).toArray ++ Builtin.zeroCells z.cells (n + m - i) ++ Builtin.zeroCells z.cells (G - (n + m)) := ⟨_, rfl⟩
 have hRl : ROW.toList = xs.take (i * 3) ++ ZS := by rw [hROW, hZS]; simp [List.append_assoc]
 have hRs : ROW.size = G * 3 := by rw [← Array.length_toList, hRl, List.length_append, htl, hZl]; omega
 rw [← hG] at hrz
 rw [← hROW] at hrz
 obtain ⟨W1, hW1⟩ : ∃ W1, W1 = w.drew.alloc (.cells ROW 55) := ⟨_, rfl⟩
 rw [← hW1] at hrz
 have hN1 : W1.heap[w.heap.size]? = some (.cells ROW 55 (0, 0)) := by rw [hW1]; exact heap_alloc_new w.drew _
 have hO1 : ∀ k, k < w.heap.size → W1.heap[k]? = w.heap[k]? := fun k hk => by rw [hW1]; exact heap_alloc_old w.drew _ hk
 obtain ⟨R1, hR1⟩ : ∃ R1 : Array Value, R1 = (ROW.toList.take (i * 3) ++ vs ++ ROW.toList.drop (i * 3 + vs.length)).toArray := ⟨_, rfl⟩
 have hR1s : R1.size = G * 3 := by
  rw [hR1]
  simp only [List.size_toArray, List.length_append, List.length_take, List.length_drop, Array.length_toList, hRs, hvl]
  omega
 have hcpA : ∀ (W : World), W.heap = W1.heap → ∀ ty dc, (Builtin.copy_ #[32, 32] ty #[.slice (some ⟨w.heap.size, i * 3, none⟩) (n + m - i) dc, .slice (some ⟨vb, voff, none⟩) m vc]).run Tryz.prog W = .ok (goInt m) (W.setRow w.heap.size R1) := fun W hW ty dc => by
  rw [hR1]
  exact run_copy_k W 32 32 ty 55 I w.heap.size (i * 3) (n + m - i) dc ⟨vb, voff, none⟩ m vc m ROW 55 vs hu hF.info (by rw [hW]; exact hN1) (by simp only [Nat.min_def]; split <;> omega) (by rw [hvl, hI])
   (fun j v hj => by
    rw [Addr.add_lit]
    have h1 := hvs j v hj
    unfold World.cell? at h1 ⊢
    rw [hW, hO1 vb hvw]
    exact h1) (by rw [hvl, hRs]; omega) h1v
 have hW2 : (W1.setRow w.heap.size R1).heap[w.heap.size]? = some (.cells R1 55 (0, 0)) := setRow_heap _ _ ROW R1 55 (0, 0) hN1
 have hdl : (xs.drop (i * 3)).length = (n - i) * 3 := by rw [List.length_drop, hxl]; omega
 have hbN : g ≠ w.heap.size := by omega
 obtain ⟨R2, hR2⟩ : ∃ R2 : Array Value, R2 = (R1.toList.take ((i + m) * 3) ++ xs.drop (i * 3) ++ R1.toList.drop ((i + m) * 3 + (xs.drop (i * 3)).length)).toArray := ⟨_, rfl⟩
 have hR2s : R2.size = G * 3 := by
  rw [hR2]
  simp only [List.size_toArray, List.length_append, List.length_take, List.length_drop, Array.length_toList, hR1s, hdl, hxl]
  omega
 have hcpB : ∀ (W : World), W.heap = (W1.setRow w.heap.size R1).heap → ∀ ty dc sc, (Builtin.copy_ #[32, 32] ty #[.slice (some ⟨w.heap.size, (i + m) * 3, none⟩) (n + m - (i + m)) dc, .slice (some ⟨g, i * 3, none⟩) (n - i) sc]).run Tryz.prog W = .ok (goInt (n - i : Nat)) (W.setRow w.heap.size R2) := fun W hW ty dc sc => by
  rw [hR2]
  exact run_copy_k W 32 32 ty 55 I w.heap.size ((i + m) * 3) (n + m - (i + m)) dc ⟨g, i * 3, none⟩ (n - i) sc (n - i) R1 55 (xs.drop (i * 3)) hu hF.info (by rw [hW]; exact hW2) (by simp only [Nat.min_def]; split <;> omega) (by rw [hdl, hI])
   (fun j v hj => by
    rw [Addr.add_lit]
    have h1 := hgx (i * 3 + j) v (by rwa [List.getElem?_drop] at hj)
    have h2 := setRow_other W1 w.heap.size g R1 hbN
    unfold World.cell? at h1 ⊢
    rw [hW, h2, hO1 g hbw]
    exact h1) (by rw [hdl, hR1s]; omega) (fun v hv => h1x v (List.mem_of_mem_drop hv))
 have hfin : ∀ W : World, W.heap = ((W1.setRow w.heap.size R1).setRow w.heap.size R2).heap → W.os = w.os → W.tape = w.tape → W.output = w.output → ∃ G', (Ending.returned (.slice (some ⟨w.heap.size, 0, none⟩) (n + m) G) = .returned (.slice (some ⟨w.heap.size, 0, none⟩) (n + m) G')) ∧ n + m ≤ G' ∧ G' ≤ maxLen ∧
   w.grownBy W none ∧ ∃ c2 : Array Value, W.heap[w.heap.size]? = some (.cells c2 55 (0, 0)) ∧ c2.size = G' * 3 ∧ c2.toList.take ((n + m) * 3) = xs.take (i * 3) ++ vs ++ xs.drop (i * 3) := by
  intro W hW h1 h2 h3
  refine ⟨G, rfl, hGn, hG63, ⟨h1, h2, h3, ?_, fun k hk _ => ?_⟩, R2, by rw [hW]; exact setRow_heap _ _ R1 R2 55 (0, 0) hW2, hR2s, ?_⟩
  ·rw [hW, setRow_size, setRow_size, hW1]; show _ ≤ (w.drew.heap.push _).size; rw [Array.size_push]; exact Nat.le_succ _
  ·have hkg : k ≠ w.heap.size := by omega
   rw [hW, setRow_other _ _ k _ hkg, setRow_other _ _ k _ hkg]
   exact hO1 k hk
  ·have key := ins_grow (xs.take (i * 3)) ZS vs (xs.drop (i * 3)) (i * 3) (m * 3) ((n - i) * 3) htl hvl hdl
   rw [show i * 3 + m * 3 = (i + m) * 3 by omega, show (i + m) * 3 + (n - i) * 3 = (n + m) * 3 by omega] at key
   rw [hR2, hR1, hRl]
   exact key
 have hE1 : ((w.alloc (.cells ROW 55)).drew).heap = W1.heap := by rw [hW1]; rfl
 have hF1 : (((w.alloc (.cells ROW 55)).drew.setRow w.heap.size R1).drew).heap = (W1.setRow w.heap.size R1).heap := by rw [hW1]; rfl
 have hF2 : (((w.alloc (.cells ROW 55)).drew.setRow w.heap.size R1)).heap = (W1.setRow w.heap.size R1).heap := by rw [hW1]; rfl
 have hw1 : IntKind.i64.wrap ((i : Int) + (m : Int)) = (i : Int) + (m : Int) := by rw [IntKind.wrap_i64]; omega
 have hb1 : (0 : Int) ≤ (i : Int) + (m : Int) := by omega
 have hin : i ≤ n := by omega
 have htn : ((i : Int) + (m : Int)).toNat = i + m := by omega
 have hb3 : (i : Int) ≤ (n : Int) := by omega
 have hGi : ¬ (G = i) := by omega
 have hGim : ¬ (G = i + m) := by omega
 have hci : ¬ (c = i) := by omega
 subst hW1
 clear hkk hik hold hROW hG hRl hR1 hR2 hZS hN1 hO1 hW2 hRs hR1s hR2s hZl
 have mixed := mixOk
 go_enter Tryz.func35, Tryz.ntmps35
 go_wp2_with (first
  | (at_builtin; refine Lib.wpList_append_run _ rfl _ _ _ _ rfl _ _ rfl rfl _ _ (hrz _) ?_)
  | (at_builtin; refine listCopy _ rfl _ _ 32 32 rfl _ _ rfl rfl (hcpA _ hE1 _ _) ?_)
  | (at_builtin; refine listCopy _ rfl _ _ 32 32 rfl _ _ rfl rfl (hcpB _ hF2 _ _ _) ?_))
 go_region_law_o (refine stepCopy rfl _ _ 32 32 rfl (.slice (some ⟨w.heap.size, (i + m) * 3, none⟩) (n + m - (i + m)) (G - (i + m))) (.slice (some ⟨g, i * 3, none⟩) (n - i) (c - i)) (by simp [Act.eval, Act.put]) (by simp [Act.eval, Act.put]) (hcpB _ hF1 3 (G - (i + m)) (c - i)) ?_)
 go_wp2
 go_ret
 exact hfin _ rfl rfl rfl rfl
theorem insE_take {J : World → Prop} (i : Nat) (es news : List V) (hi : i ≤ es.length) (hm : 0 < news.length) (hby : (es.length + news.length) * 48 ≤ 140737488355328) :
  TakeAt Tryz.prog J 35 55 3 es [.int .i64 i, .row 3 news] (es.take i ++ news ++ es.drop i) := by
 obtain ⟨i0, I, D, z, hF, hI, hB, hz⟩ := infE
 have hu : Tryz.prog.underlying 32 = some (.slice 55) := by kernel_rfl
 refine ⟨⟨_, Tryz.func35, by kernel_rfl, by kernel_rfl⟩, ?_⟩
 intro w B ok ok2 sv vals hJ hBw hok hsub h1 hpos hown hlen hrel
 match vals, hlen with
 | [x, u], _ =>
 have hx := hrel 0 _ x rfl rfl
 have hx' : x = .int .i64 i := by
  have : RelD w ok2 (.int .i64 i) x := hx
  cases this; rfl
 subst hx'
 have hu2 := hrel 1 _ u rfl rfl
 simp only [Rel2] at hu2
 rcases hu2 with ⟨_, _, _, h0⟩ | ⟨vb, voff, vc, vs, rfl, hokv, hvl, hvsz, hv1, hvr, hvc⟩
 ·rw [h0] at hm; cases hm
 have hvlt := (hok vb hokv).1
 have hvne := (hok vb hokv).2
 have h1v : ∀ v ∈ vs.flatMap (·.cells.toList), v.oneCell' = true := fun v hv => by
  obtain ⟨y, hy, hvy⟩ := List.mem_flatMap.1 hv
  exact hv1 y hy v hvy
 have hfl := flat_length hvsz
 -- what the row becomes
 have fin : ∀ (vs0 : List Value) (sv' : Value) (w' : World), vs0.length = es.length → (∀ v ∈ vs0, v.cells.size = 3) → (∀ v ∈ vs0, ∀ u ∈ v.cells.toList, u.oneCell' = true) → (∀ (j : Nat) e v, es[j]? = some e → vs0[j]? = some v → RelD w ok2 e v) →
   (∀ g, g < w.heap.size → own sv ≠ some g → w'.heap[g]? = w.heap[g]?) → w'.ownsRow B 55 3 sv' (es.length + news.length) ((vs0.flatMap (·.cells.toList)).take (i * 3) ++ vs.flatMap (·.cells.toList) ++ (vs0.flatMap (·.cells.toList)).drop (i * 3)) →
   OwnV w' ok2 B 55 3 sv' (es.take i ++ news ++ es.drop i) := by
  intro vs0 sv' w' hl0 hs0 h10 hr0 hk how
  have hmono : ∀ e v, RelD w ok2 e v → RelD w' ok2 e v := fun e v h => h.mono fun g hg => ⟨hg, hk g (hok g (hsub g hg)).1 (hok g (hsub g hg)).2⟩
  have hcat : (vs0.take i ++ vs ++ vs0.drop i).flatMap (·.cells.toList) = (vs0.flatMap (·.cells.toList)).take (i * 3) ++ vs.flatMap (·.cells.toList) ++ (vs0.flatMap (·.cells.toList)).drop (i * 3) := by
   rw [List.flatMap_append, List.flatMap_append, flat_take hs0 i, flat_dropI hs0 i]
  have hll : (es.take i ++ news ++ es.drop i).length = es.length + news.length := by
   simp only [List.length_append, List.length_take, List.length_drop]; omega
  refine ⟨vs0.take i ++ vs ++ vs0.drop i, ?_, ?_, ?_, ?_, .inr ?_⟩
  ·rw [hll]; simp only [List.length_append, List.length_take, List.length_drop]; omega
  ·intro v hv
   rcases List.mem_append.1 hv with hv | hv
   ·rcases List.mem_append.1 hv with hv | hv
    ·exact hs0 v (List.mem_of_mem_take hv)
    ·exact hvsz v hv
   ·exact hs0 v (List.mem_of_mem_drop hv)
  ·intro v hv
   rcases List.mem_append.1 hv with hv | hv
   ·rcases List.mem_append.1 hv with hv | hv
    ·exact h10 v (List.mem_of_mem_take hv)
    ·exact hv1 v hv
   ·exact h10 v (List.mem_of_mem_drop hv)
  ·exact allrel_app (allrel_app (allrel_take i fun j e v he hv => hmono e v (hr0 j e v he hv)) (fun j e v he hv => hmono e v (hvr j e v he hv)) (by simp [hl0])) (allrel_drop i fun j e v he hv => hmono e v (hr0 j e v he hv)) (by simp [hl0, hvl])
  ·rw [hll, hcat]; exact how
 rcases hown.form with ⟨ad, rfl, rfl⟩ | ⟨g0, cap0, vs0, rfl, hc0, hle0, hl0, hsz0, h10, hr0, how⟩
 ·have hi0 : i = 0 := by simpa using hi
  subst hi0
  obtain ⟨v', w1, hr, how, hgr⟩ : ∃ v' w1, (∀ ty, (Builtin.append_ #[32, 32] ty #[.slice ad 0 0, .slice (some ⟨vb, voff, none⟩) news.length vc]).run Tryz.prog w = .ok v' w1) ∧ w1.ownsRow w.heap.size 55 I.size v' news.length (vs.flatMap (·.cells.toList)) ∧ w.grownBy w1 none := by
   obtain ⟨v', w1, hr, how, hgr⟩ := append_zero (w := w) (ty := 32) hu ⟨hF.info, hF.under, rfl, rfl, hF.zero, fun _ _ => .undef _, hF.zsize.trans hF.size.symm, hF.z1, hF.tk⟩ (i := ⟨i0.k, I.size, I.bytes, .undef⟩) (by show 0 < I.size; omega) ad vb voff vc news vs hvl (fun v hv => (hvsz v hv).trans hI.symm) hvc hv1 hm (by rw [hB]; simpa using hby) (by unfold maxLen; simp only [List.length_nil] at hby; omega)
   exact ⟨v', w1, fun ty => (run_append_ty _ _ _ _ _).trans hr, how, hgr⟩
  refine (insE_end _ _ v' 0 news.length w w1 hm ⟨ad, 0, rfl⟩ ⟨_, _, rfl⟩ hr).mono ?_
  rintro e w' ⟨rfl, rfl⟩
  rw [hI] at how
  exact ⟨v', rfl, (Ev.below_grown hgr (Nat.le_refl _) fun k hk => by cases hk).mono hBw, fun k hk _ => hgr.block k hk (by simp), hgr.size, fun k hk => .inl (own_lt_of_owns how hk).1, owns_one how, fin [] v' w' rfl (by simp) (by simp) (by simp) (fun k hk _ => hgr.block k hk (by simp)) (by simpa using ownsRow_base how hBw)⟩
 ·have hownS : own (.slice (some ⟨g0, 0, none⟩) es.length cap0) = some g0 := by simp [own, hc0]
  have hne : vb ≠ g0 := fun e => hvne (by rw [hownS, e])
  have hxl := flat_length hsz0
  have h1x : ∀ v ∈ vs0.flatMap (·.cells.toList), v.oneCell' = true := fun v hv => by
   obtain ⟨y, hy, hvy⟩ := List.mem_flatMap.1 hv
   exact h10 y hy v hvy
  obtain ⟨g1, cap1, cur, heq, hgB, hgc, hle1, hmx, hcs, hx⟩ : ∃ g cap cur, (Value.slice (some ⟨g0, 0, none⟩) es.length cap0) = .slice (some ⟨g, 0, none⟩) es.length cap ∧ B ≤ g ∧ w.heap[g]? = some (.cells cur 55 (0, 0)) ∧ es.length ≤ cap ∧ cap ≤ maxLen ∧ cur.size = cap * 3 ∧ cur.toList.take (es.length * 3) = vs0.flatMap (·.cells.toList) := by
   rcases how.2 with ⟨h, _⟩ | h
   ·cases h
   ·exact h
  cases heq
  by_cases hie : i = es.length
  ·subst hie
   obtain ⟨v', w1, hr, how', hgr, _, hob⟩ := run_append_own_at (P := Tryz.prog) w B 32 32 55 I z 3 48 hu hF.info hF.zero hI hB hz (by decide) _ es.length _ how
    ⟨vb, voff, none⟩ news.length vc (vs.flatMap (·.cells.toList)) (by rw [hfl, hvl]) (fun j u hu => by rw [Addr.add_mid]; exact hvc j u hu) h1v (by unfold maxLen; omega) hby hBw
   refine (insE_end _ _ v' es.length news.length w w1 hm ⟨_, _, rfl⟩ ⟨_, _, rfl⟩ (fun ty => (run_append_ty _ _ _ _ _).trans hr)).mono ?_
   rintro e w' ⟨rfl, rfl⟩
   have hkeep : ∀ g, g < w.heap.size → own (.slice (some ⟨g0, 0, none⟩) es.length cap0) ≠ some g → w'.heap[g]? = w.heap[g]? := fun k hk hne => hgr.block k hk (by
    intro e; apply hne; rw [hownS, e]; rfl)
   refine ⟨v', rfl, below_grown hgr hBw (fun k hk => by simp [Value.ownBlock] at hk; omega), hkeep, hgr.size, fun k hk => ?_, owns_one how', fin vs0 v' w' hl0 hsz0 h10 hr0 hkeep ?_⟩
   ·have hkb := (own_lt_of_owns how' hk).2
    rcases hob with hob | hob
    ·right; rw [hownS]; rw [hob] at hkb; simpa [Value.ownBlock] using hkb
    ·left; rw [hob] at hkb; simp at hkb; omega
   ·rw [List.take_of_length_le (by rw [hxl, hl0]; exact Nat.le_refl _), List.drop_of_length_le (by rw [hxl, hl0]; exact Nat.le_refl _), List.append_nil]
    exact how'
  ·have hilt : i < es.length := by omega
   by_cases hroom : es.length + news.length ≤ cap0
   ·refine (insE_room g0 es.length cap0 i vb voff news.length vc cur _ _ w hilt hm hroom hmx hne hgc hcs hx (by rw [hfl, hvl]) hvc h1x h1v).mono ?_
    rintro e w' ⟨rfl, hgr, c2, hg2, hs2, ht2⟩
    have hkeep : ∀ g, g < w.heap.size → own (.slice (some ⟨g0, 0, none⟩) es.length cap0) ≠ some g → w'.heap[g]? = w.heap[g]? := fun k hk hne => hgr.block k hk (by
     intro e; apply hne; rw [hownS, e])
    refine ⟨_, rfl, below_grown hgr hBw (fun k hk => by simp at hk; omega), hkeep, hgr.size, fun k hk => .inr (by simpa [own, hc0] using hk), rfl, fin vs0 _ w' hl0 hsz0 h10 hr0 hkeep ⟨?_, .inr ⟨g0, cap0, c2, rfl, hgB, hg2, hroom, hmx, hs2, ht2⟩⟩⟩
    rw [← ht2, List.length_take, show c2.toList.length = c2.size from Array.length_toList, hs2]
    omega
   ·have hgx : ∀ (j : Nat) v, (vs0.flatMap (·.cells.toList))[j]? = some v → w.cell? ⟨g0, j, none⟩ = some v := fun j v hj => by
     rw [← hx, List.getElem?_take] at hj
     split at hj
     ·simp [World.cell?, hgc]
      simpa using hj
     ·cases hj
    refine (insE_grow g0 es.length cap0 i vb voff news.length vc _ _ w hilt hm hle0 (by omega) hby (by rw [hxl, hl0]) (by rw [hfl, hvl]) hgx hvc h1x h1v).mono ?_
    rintro e w' ⟨G, rfl, hGn, hGm, hgr, c2, hg2, hs2, ht2⟩
    have hkeep : ∀ g, g < w.heap.size → own (.slice (some ⟨g0, 0, none⟩) es.length cap0) ≠ some g → w'.heap[g]? = w.heap[g]? := fun k hk _ => hgr.block k hk (by simp)
    have hG0 : ¬ G = 0 := by omega
    refine ⟨_, rfl, (Ev.below_grown hgr (Nat.le_refl _) fun k hk => by cases hk).mono hBw, hkeep, hgr.size, fun k hk => .inl (by simp [own, hG0] at hk; omega), rfl, fin vs0 _ w' hl0 hsz0 h10 hr0 hkeep ⟨?_, .inr ⟨w.heap.size, G, c2, rfl, hBw, hg2, hGn, hGm, hs2, ht2⟩⟩⟩
    rw [← ht2, List.length_take, show c2.toList.length = c2.size from Array.length_toList, hs2]
    omega
end Go.Proofs.YtcmpjagpggjfiaaGreatDoor
end
