/-
  Steps of the proof of TopDesk: LgB DkV.
-/
import Derived.Test.YtcmpjagpggjfiaaGreatDoorT02
import Derived.Test.YtcmpjagpggjfiaaGreatDoorT03
set_option linter.unusedVariables false
section
namespace Go.Proofs.YtcmpjagpggjfiaaGreatDoor
open Go Go.RowKit Go.Shelf
theorem infoBu : ∃ j, Tryz.prog.info? 41 = some j ∧ j.size = 2 := by
 obtain ⟨j, hj, hs⟩ := Option.map_eq_some_iff.1 (show (Tryz.prog.info? 41).map (·.size) = some 2 by kernel_rfl)
 exact ⟨j, hj, hs⟩
set_option maxHeartbeats 1000000 in
set_option maxRecDepth 100000 in
theorem bcheck_used (b : Nat) (w : World) (h0 : w.cell? ⟨b, 0, none⟩ = some (.pointer (some ⟨b, 0, none⟩))) :
  Calls Tryz.prog 18 #[.pointer (some ⟨b, 0, none⟩)] w fun e w' => e = .returned (.tuple #[]) ∧ w' = w := by
 obtain ⟨j, hj, hjs⟩ := infoBu
 go_enter Tryz.func18, Tryz.ntmps18
 go_wp2
 rw [Lib.run_neq_ptr_same w _ Tryz.underlying38 hj]
 go_wp2
 go_end0
 exact ⟨rfl, rfl⟩
set_option maxHeartbeats 1000000 in
set_option maxRecDepth 100000 in
theorem bcheck_fresh (b : Nat) (w : World) (h0 : w.cell? ⟨b, 0, none⟩ = some (.pointer none)) (hsh : w.shape? b = some (41, 2)) (hfz : w.frozen? ⟨b, 0, none⟩ = false) :
  Calls Tryz.prog 18 #[.pointer (some ⟨b, 0, none⟩)] w fun e w' => e = .returned (.tuple #[]) ∧ w' = w.setCell ⟨b, 0, none⟩ (.pointer (some ⟨b, 0, none⟩)) := by
 obtain ⟨j, hj, hjs⟩ := infoBu
 go_enter Tryz.func18, Tryz.ntmps18
 go_wp2
 rw [Lib.run_to_unsafe w ⟨b, 0, none⟩ Tryz.underlying38 Tryz.underlying97 hj (by rw [hjs]; decide) hsh (Nat.zero_lt_succ 1)]
 simp only [Result.andThen]
 rw [Oper.upon_value]
 go_wp2
 rw [run_callFunc_extern Tryz.func43 (by kernel_rfl) (by kernel_rfl) (by kernel_rfl) (e := Extern.AbiNoEscape.same) (by kernel_rfl)]
 rw [Lib.run_noEscape]
 simp only [Result.andThen]
 rw [Oper.upon_value]
 go_wp2
 rw [Lib.run_from_unsafe w ⟨b, 0, none⟩ Tryz.underlying97 Tryz.underlying38 hj hsh (by kernel_rfl)]
 simp only [Result.andThen]
 rw [Oper.upon_value]
 go_wp2
 go_end0
 exact ⟨rfl, rfl⟩
theorem set_other {w : World} {b x i : Nat} {v : Value} (h : x ≠ b) : (w.setCell ⟨b, i, none⟩ v).heap[x]? = w.heap[x]? := by
 have h' : ¬ b = x := fun e => h e.symm
 simp [World.setCell, Array.getElem?_modify, h']
theorem bstring_any (B b : Nat) (l : List UInt8) (w : World) (h : Lib.IsBuilder 41 5 B b (Lib.byteCells l) w) (hBw : B ≤ w.heap.size) :
  Calls Tryz.prog 12 #[.pointer (some ⟨b, 0, none⟩)] w fun e w' => e = .returned (.string ⟨l.toArray⟩) ∧ Below B w w' := Any.Builder_String_any Tryz.lays169 Tryz.Builder_Extra_169 B b l w h hBw
end Go.Proofs.YtcmpjagpggjfiaaGreatDoor
end
section
namespace Go.Lib
open Go
section
variable {P : Program} (w : World)
theorem own_string (base : Nat) (t u ty e : TypeId) (i : TypeInfo) (ht : P.underlying t = some (.slice e)) (hu : P.underlying u = some .string) (hi : P.info? e = some i) (hz : i.zero = some (.int .u8 0)) (hsize : i.size = 1) (hby : i.bytes = 1)
  (v : Value) (n : Nat) (xs : List Value) (hown : w.ownsRow base e 1 v n xs) (s : ByteArray) (h63 : n + s.size ≤ maxLen) (hbytes : n + s.size ≤ 140737488355328) (hbase : base ≤ w.heap.size) :
  ∃ v' w', (Builtin.append_ #[t, u] ty #[v, .string s]).run P w = .ok v' w' ∧ w'.ownsRow base e 1 v' (n + s.size) (xs ++ strCells s) ∧ w.grownBy w' v.ownBlock ∧ ∀ g, v'.ownBlock = some g → v.ownBlock = some g ∨ w.heap.size ≤ g := by
 obtain ⟨v', w', hr, h2, h3, h4⟩ := run_append_own_string (P := P) w base t u ty e i ht hu hi hz hsize hby v n xs hown s h63 hbytes hbase
 refine ⟨v', w', hr, h2, h3, fun g hg => ?_⟩
 have hsmall : n + s.size ≤ 9223372036854775807 := by simp only [maxLen] at h63; omega
 have hxl : xs.length = n := by simpa using hown.1
 rcases hown.2 with ⟨rfl, rfl⟩ | ⟨g0, cap, cur, rfl, hbg, hg0, hnc, hcm, hcs, htake⟩
 ·by_cases hm : s.size = 0
  ·rw [h4.2 ⟨rfl, hm⟩] at hg
   exact absurd hg (by simp [Value.ownBlock])
  ·have hr2 := run_append_nil_string (P := P) w t u ty e i (.int .u8 0) ht hu hi hz s (by omega) (by omega) (by rw [hby]; omega)
   rw [hr2] at hr
   injection hr with e1 e2
   subst e1
   simp only [Value.ownBlock, Option.some.injEq] at hg
   omega
 ·by_cases hroom : n + s.size ≤ cap
  ·have hcs' : cur.size = cap := by simpa using hcs
   have hr2 := run_append_room_string (P := P) w t u ty e i ht hu hi hsize g0 n cap cur hg0 s hroom (by omega)
   rw [hr2] at hr
   injection hr with e1 e2
   subst e1
   exact .inl hg
  ·have holds : ∀ j u, xs[j]? = some u → w.cell? ((⟨g0, 0, none⟩ : Addr).add j) = some u := hown.cells (g := g0) rfl
   have hr2 := run_append_grow_string (P := P) w t u ty e i (.int .u8 0) ht hu hi hz ⟨g0, 0, none⟩ n cap xs (by rw [hsize]; simpa using hxl) holds s (by omega) (by omega) (by rw [hby]; exact growslice_fits (by omega) (by omega))
   rw [hr2] at hr
   injection hr with e1 e2
   subst e1
   simp only [Value.ownBlock, Option.some.injEq] at hg
   omega
theorem own_byte (base : Nat) (t ty e : TypeId) (i : TypeInfo) (ht : P.underlying t = some (.slice e)) (hi : P.info? e = some i) (hz : i.zero = some (.int .u8 0)) (hsize : i.size = 1) (hby : i.bytes = 1)
  (v : Value) (n : Nat) (xs : List Value) (hown : w.ownsRow base e 1 v n xs) (a : Addr) (c : Nat) (x : Value) (hx : w.cell? a = some x) (h1 : x.oneCell' = true) (h63 : n + 1 ≤ maxLen) (hbytes : n + 1 ≤ 140737488355328) (hbase : base ≤ w.heap.size) :
  ∃ v' w', (Builtin.append_ #[t, t] ty #[v, .slice (some a) 1 c]).run P w = .ok v' w' ∧ w'.ownsRow base e 1 v' (n + 1) (xs ++ [x]) ∧ w.grownBy w' v.ownBlock ∧ ∀ g, v'.ownBlock = some g → v.ownBlock = some g ∨ w.heap.size ≤ g := by
 have hnews : ∀ j u, [x][j]? = some u → w.cell? (a.add j) = some u := fun j u hj => by
  match j, hj with
  | 0, hj => simp at hj; subst hj; exact hx
 obtain ⟨v', w', hr, h2, h3, h4⟩ := run_append_own (P := P) w base t ty e i (.int .u8 0) 1 1 ht hi hz hsize hby rfl (by omega) v n xs hown a 1 c [x] rfl hnews (by simpa using h1) h63 (by omega) hbase
 refine ⟨v', w', hr, h2, h3, fun g hg => ?_⟩
 have hsmall : n + 1 ≤ 9223372036854775807 := by simp only [maxLen] at h63; omega
 rcases hown.2 with ⟨rfl, rfl⟩ | ⟨g0, cap, cur, rfl, hbg, hg0, hnc, hcm, hcs, htake⟩
 ·have hr2 := run_append_nil (P := P) w t ty e i (.int .u8 0) ht hi hz a 1 c [x] (by rw [hsize]; rfl) hnews (by omega) (by omega) (by rw [hby]; omega)
  rw [hr2] at hr
  injection hr with e1 e2
  subst e1
  simp only [Value.ownBlock, Option.some.injEq] at hg
  omega
 ·by_cases hroom : n + 1 ≤ cap
  ·have hr2 := run_append_room (P := P) w t ty e i ht hi g0 n cap cur hg0 a 1 c [x] (by rw [hsize]; rfl) hnews (by simpa using h1) hroom (by rw [hsize]; simp; omega)
   rw [hr2] at hr
   injection hr with e1 e2
   subst e1
   exact .inl hg
  ·have holds : ∀ j u, xs[j]? = some u → w.cell? ((⟨g0, 0, none⟩ : Addr).add j) = some u := hown.cells (g := g0) rfl
   have hr2 := run_append_grow (P := P) w t ty e i (.int .u8 0) ht hi hz ⟨g0, 0, none⟩ n cap xs (by rw [hsize]; exact hown.1) holds a 1 c [x] (by rw [hsize]; rfl) hnews (by omega) (by omega) (by rw [hby]; exact growslice_fits (by omega) (by omega))
   rw [hr2] at hr
   injection hr with e1 e2
   subst e1
   simp only [Value.ownBlock, Option.some.injEq] at hg
   omega
theorem wpList_own_string {ops : Array Oper} {rest : List Oper} {o : Oper} {a : Act} {Q : Exit → Act → World → Prop} (hgd : o.guard = none) (sl x : Operand) (t u : TypeId)
  (ho : o.op = .call { callee := .builtin .append, args := #[sl, x], argTypes := #[t, u] })
  (base : Nat) (e : TypeId) (i : TypeInfo) (ht : P.underlying t = some (.slice e)) (hu : P.underlying u = some .string) (hi : P.info? e = some i) (hz : i.zero = some (.int .u8 0)) (hsize : i.size = 1) (hby : i.bytes = 1)
  (v : Value) (n : Nat) (xs : List Value) (hs : a.eval sl = v) (hown : w.ownsRow base e 1 v n xs) (s : ByteArray) (hx : a.eval x = .string s)
  (h63 : n + s.size ≤ maxLen) (hbytes : n + s.size ≤ 140737488355328) (hbase : base ≤ w.heap.size)
  (h : ∀ v' w', w'.ownsRow base e 1 v' (n + s.size) (xs ++ strCells s) → w.grownBy w' v.ownBlock → (∀ g, v'.ownBlock = some g → v.ownBlock = some g ∨ w.heap.size ≤ g) → wpList P ops Q rest (a.put o.dst v') w') : wpList P ops Q (o :: rest) a w := by
 refine wpList_plain hgd fun K hK => ?_
 obtain ⟨v', w', hr, h2, h3, h4⟩ := own_string (P := P) w base t u o.type e i ht hu hi hz hsize hby v n xs hown s h63 hbytes hbase
 unfold Oper.wp execOp
 simp only [ho, resolve, invoke, builtin, Sem.run_bind, Sem.run_pure, Result.andThen_ok, List.map_toArray, List.map_cons, List.map_nil, hs, hx, hr]
 exact hK _ _ (h v' w' h2 h3 h4)
theorem wpList_own_byte {ops : Array Oper} {rest : List Oper} {o : Oper} {a : Act} {Q : Exit → Act → World → Prop} (hgd : o.guard = none) (sl x : Operand) (t : TypeId)
  (ho : o.op = .call { callee := .builtin .append, args := #[sl, x], argTypes := #[t, t] })
  (base : Nat) (e : TypeId) (i : TypeInfo) (ht : P.underlying t = some (.slice e)) (hi : P.info? e = some i) (hz : i.zero = some (.int .u8 0)) (hsize : i.size = 1) (hby : i.bytes = 1)
  (v : Value) (n : Nat) (xs : List Value) (hs : a.eval sl = v) (hown : w.ownsRow base e 1 v n xs) (ad : Addr) (c : Nat) (y : Value) (hx : a.eval x = .slice (some ad) 1 c) (hy : w.cell? ad = some y) (h1 : y.oneCell' = true)
  (h63 : n + 1 ≤ maxLen) (hbytes : n + 1 ≤ 140737488355328) (hbase : base ≤ w.heap.size)
  (h : ∀ v' w', w'.ownsRow base e 1 v' (n + 1) (xs ++ [y]) → w.grownBy w' v.ownBlock → (∀ g, v'.ownBlock = some g → v.ownBlock = some g ∨ w.heap.size ≤ g) → wpList P ops Q rest (a.put o.dst v') w') : wpList P ops Q (o :: rest) a w := by
 refine wpList_plain hgd fun K hK => ?_
 obtain ⟨v', w', hr, h2, h3, h4⟩ := own_byte (P := P) w base t o.type e i ht hi hz hsize hby v n xs hown ad c y hy h1 h63 hbytes hbase
 unfold Oper.wp execOp
 simp only [ho, resolve, invoke, builtin, Sem.run_bind, Sem.run_pure, Result.andThen_ok, List.map_toArray, List.map_cons, List.map_nil, hs, hx, hr]
 exact hK _ _ (h v' w' h2 h3 h4)
end
end Go.Lib
namespace Go.Proofs.YtcmpjagpggjfiaaGreatDoor
open Go Go.RowKit Go.Shelf
structure Bld (B b : Nat) (v : Value) (bs : List Value) (w : World) : Prop where
 le : B ≤ b
 heap : w.heap[b]? = some (.cells #[.pointer none, v] 41 (0, 0)) ∨ w.heap[b]? = some (.cells #[.pointer (some ⟨b, 0, none⟩), v] 41 (0, 0))
 own : w.ownsRow B 5 1 v bs.length bs
 ne : v.ownBlock ≠ some b
theorem Bld.lt {B b : Nat} {v : Value} {bs : List Value} {w : World} (h : Bld B b v bs w) : b < w.heap.size := by
 rcases Nat.lt_or_ge b w.heap.size with h' | h'
 ·exact h'
 ·rcases h.heap with h | h <;> simp [Array.getElem?_eq_none h'] at h
theorem Bld.ownlt {B b : Nat} {v : Value} {bs : List Value} {w : World} (h : Bld B b v bs w) {g : Nat} (hg : v.ownBlock = some g) : B ≤ g ∧ g < w.heap.size := by
 have := h.own.lt g hg
 exact this
def Lv (B b : Nat) (v v' : Value) (w w' : World) : Prop := Below B w w' ∧ w.heap.size ≤ w'.heap.size ∧ (∀ x, x < w.heap.size → x ≠ b → v.ownBlock ≠ some x → w'.heap[x]? = w.heap[x]?) ∧ ∀ g, v'.ownBlock = some g → v.ownBlock = some g ∨ w.heap.size ≤ g
theorem Bld.is {B b : Nat} {v : Value} {bs : List Value} {w : World} (h : Bld B b v bs w) : Lib.IsBuilder 41 5 B b bs w := by
 rcases h.heap with h1 | h1
 ·exact .inl ⟨h.le, v, h1, h.own, h.ne⟩
 ·exact .inr ⟨h.le, v, h1, h.own, h.ne⟩
theorem bcheck2 {B b : Nat} {v : Value} {bs : List Value} {w : World} (h : Bld B b v bs w) :
  Calls Tryz.prog 18 #[.pointer (some ⟨b, 0, none⟩)] w fun e w' => e = .returned (.tuple #[]) ∧ w'.heap[b]? = some (.cells #[.pointer (some ⟨b, 0, none⟩), v] 41 (0, 0)) ∧ w'.ownsRow B 5 1 v bs.length bs ∧ Below B w w' ∧ (∀ x, x ≠ b → w'.heap[x]? = w.heap[x]?) ∧ w'.heap.size = w.heap.size := by
 rcases h.heap with h1 | h1
 ·have h2 : Lib.BuilderAt 41 5 B b (.pointer none) bs w := ⟨h.le, v, h1, h.own, h.ne⟩
  refine (bcheck_fresh b w h2.cell0 h2.shape h2.frozen0).mono ?_
  rintro e w' ⟨rfl, rfl⟩
  have hh : (w.setCell ⟨b, 0, none⟩ (.pointer (some ⟨b, 0, none⟩))).heap[b]? = some (.cells #[.pointer (some ⟨b, 0, none⟩), v] 41 (0, 0)) := by
   simp [World.setCell, Array.getElem?_modify, h1]
  refine ⟨rfl, hh, ?_, (Below.refl B w).setCell (p := ⟨b, 0, none⟩) h.le _, fun x hx => set_other hx, by simp [World.setCell]⟩
  obtain ⟨q1, q2⟩ := h.own
  refine ⟨q1, q2.imp id ?_⟩
  rintro ⟨g, cap, cur, rfl, hb, hg, r⟩
  refine ⟨g, cap, cur, rfl, hb, ?_, r⟩
  rw [set_other (fun e => h.ne (by rw [← e]; rfl))]
  exact hg
 ·refine (bcheck_used b w (by simp [World.cell?, h1])).mono ?_
  rintro e w' ⟨rfl, rfl⟩
  exact ⟨rfl, h1, h.own, .refl _ _, fun _ _ => rfl, rfl⟩
theorem bld_put {B b : Nat} {v v' : Value} {bs bs' : List Value} {w w1 w2 : World} (h : Bld B b v bs w) (hbk : w1.heap[b]? = some (.cells #[.pointer (some ⟨b, 0, none⟩), v] 41 (0, 0))) (hb1 : Below B w w1) (hk1 : ∀ x, x < w.heap.size → x ≠ b → w1.heap[x]? = w.heap[x]?) (hs1 : w.heap.size ≤ w1.heap.size)
  (hown1 : w1.ownsRow B 5 1 v bs.length bs) (hown : w2.ownsRow B 5 1 v' bs'.length bs') (hgrow : w1.grownBy w2 v.ownBlock) (hnew : ∀ g, v'.ownBlock = some g → v.ownBlock = some g ∨ w1.heap.size ≤ g) :
  Bld B b v' bs' (w2.setCell ⟨b, 1, none⟩ v') ∧ Lv B b v v' w (w2.setCell ⟨b, 1, none⟩ v') := by
 have hlt := h.lt
 have hB := h.le
 have hb2 : w2.heap[b]? = some (.cells #[.pointer (some ⟨b, 0, none⟩), v] 41 (0, 0)) := by
  rw [hgrow.block b (by omega) (fun e => h.ne e.symm)]
  exact hbk
 have hnb : v'.ownBlock ≠ some b := fun e => by
  rcases hnew b e with h1 | h1
  ·exact h.ne h1
  ·omega
 have hsz := hgrow.size
 refine ⟨⟨h.le, .inr (by simp [World.setCell, Array.getElem?_modify, hb2]), ?_, hnb⟩, (hb1.grown hgrow (by have := hb1.size; omega) (fun k hk => (hown1.lt k hk).1)).setCell (p := ⟨b, 1, none⟩) h.le _, by simp [World.setCell]; omega, fun x hx hne hvo => ?_, fun g hg => (hnew g hg).imp id fun h => by omega⟩
 ·obtain ⟨q1, q2⟩ := hown
  refine ⟨q1, q2.imp id ?_⟩
  rintro ⟨g, cap, cur, rfl, hb, hg, r⟩
  refine ⟨g, cap, cur, rfl, hb, ?_, r⟩
  rw [set_other (fun e => hnb (by rw [← e]; rfl))]
  exact hg
 ·rw [set_other hne, hgrow.block x (by omega) (fun e => hvo e.symm), hk1 x hx hne]
set_option maxHeartbeats 2000000 in
set_option maxRecDepth 100000 in
theorem bwrite2 {B b : Nat} {v : Value} {bs : List Value} (s : ByteArray) {w : World} (h : Bld B b v bs w) (hlen : bs.length + s.size ≤ 140737488355328) :
  Calls Tryz.prog 9 #[.pointer (some ⟨b, 0, none⟩), .string s] w fun e w' => e = .returned (.tuple #[.int .i64 s.size, .nilIface]) ∧ ∃ v', Bld B b v' (bs ++ Lib.strCells s) w' ∧ Lv B b v v' w w' := by
 obtain ⟨i0, hi, hz0, hz1, hz2⟩ := info_parts (show (Tryz.prog.info? 5).map (fun i => (i.zero, i.size, i.bytes)) = some (some (.int .u8 0), 1, 1) by kernel_rfl)
 have hlt := h.lt
 have hB := h.le
 go_enter Tryz.func9, Tryz.ntmps9
 go_wp2_with (go_at_call 18; refine (bcheck2 h).mono ?_)
 rintro e w1 ⟨rfl, hbk, hown, hb1, hk1, hs1⟩
 have c0 : w1.cell? ⟨b, 0, none⟩ = some (.pointer (some ⟨b, 0, none⟩)) := by rw [Lib.cell_of_heap hbk]; rfl
 have c1 : w1.cell? ⟨b, 1, none⟩ = some v := by rw [Lib.cell_of_heap hbk]; rfl
 go_wp2_with (at_builtin; refine Lib.wpList_own_string _ rfl _ _ 39 9 rfl B 5 i0 Tryz.underlying39 Tryz.underlying9 hi hz0 hz1 hz2 _ _ _ rfl hown s rfl ?c3 ?c4 ?c5 ?_)
 case c3 => unfold maxLen; omega
 case c4 => omega
 case c5 => omega
 intro v' w2 hown' hgrow hnew
 have hb2 : w2.heap[b]? = some (.cells #[.pointer (some ⟨b, 0, none⟩), v] 41 (0, 0)) := by
  rw [hgrow.block b (by omega) (fun e => h.ne e.symm)]
  exact hbk
 have d0 : w2.cell? ⟨b, 0, none⟩ = some (.pointer (some ⟨b, 0, none⟩)) := by rw [Lib.cell_of_heap hb2]; rfl
 have d1 : w2.cell? ⟨b, 1, none⟩ = some v := by rw [Lib.cell_of_heap hb2]; rfl
 have f1 : w2.frozen? ⟨b, 1, none⟩ = false := Lib.frozen_of_heap hb2 1
 have hput := bld_put (bs' := bs ++ Lib.strCells s) h hbk hb1 (fun x _ => hk1 x) (by omega) hown (by simpa [Lib.strCells_length] using hown') hgrow (fun g hg => by rw [hs1]; exact hnew g hg)
 obtain ⟨ao, n', cap, rfl⟩ : ∃ ao n' cap, v' = .slice ao n' cap := by
  rcases hown'.2 with ⟨hv, _⟩ | ⟨g, cap, cur, hv, _⟩
  ·exact ⟨_, _, _, hv⟩
  ·exact ⟨_, _, _, hv⟩
 go_wp2
 go_ret2
 exact ⟨rfl, _, hput⟩
set_option maxHeartbeats 2000000 in
set_option maxRecDepth 100000 in
theorem bbyte2 {B b : Nat} {v : Value} {bs : List Value} {w : World} (h : Bld B b v bs w) (hlen : bs.length + 1 ≤ 140737488355328) :
  Calls Tryz.prog 11 #[.pointer (some ⟨b, 0, none⟩), .int .u8 10] w fun e w' => e = .returned .nilIface ∧ ∃ v', Bld B b v' (bs ++ [.int .u8 10]) w' ∧ Lv B b v v' w w' := by
 obtain ⟨i0, hi, hz0, hz1, hz2⟩ := info_parts (show (Tryz.prog.info? 5).map (fun i => (i.zero, i.size, i.bytes)) = some (some (.int .u8 0), 1, 1) by kernel_rfl)
 have hlt := h.lt
 have hB := h.le
 go_enter Tryz.func11, Tryz.ntmps11
 go_wp2_with (go_at_call 18; refine (bcheck2 h).mono ?_)
 rintro e w1 ⟨rfl, hbk, hown, hb1, hk1, hs1⟩
 have c0 : w1.cell? ⟨b, 0, none⟩ = some (.pointer (some ⟨b, 0, none⟩)) := by rw [Lib.cell_of_heap hbk]; rfl
 have c1 : w1.cell? ⟨b, 1, none⟩ = some v := by rw [Lib.cell_of_heap hbk]; rfl
 have hown0 := hown.kept (World.grownBy_alloc w1 (.cells #[.int .u8 10] 5) none) (by cases v.ownBlock <;> simp)
 have hb1' : Below B w (w1.alloc (.cells #[.int .u8 10] 5)) := hb1.alloc (by omega) _
 have hk1' : ∀ x, x < w.heap.size → x ≠ b → (w1.alloc (.cells #[.int .u8 10] 5)).heap[x]? = w.heap[x]? := fun x hx hne => by rw [Lib.alloc_old _ _ _ (by omega), hk1 x hne]
 have hbk' : (w1.alloc (.cells #[.int .u8 10] 5)).heap[b]? = some (.cells #[.pointer (some ⟨b, 0, none⟩), v] 41 (0, 0)) := by rw [Lib.alloc_old _ _ _ (by omega)]; exact hbk
 have hs1' : (w1.alloc (.cells #[.int .u8 10] 5)).heap.size = w.heap.size + 1 := by simp [hs1]
 have hy : (w1.alloc (.cells #[.int .u8 10] 5)).cell? ⟨w.heap.size, 0, none⟩ = some (.int .u8 10) := by rw [← hs1]; simp [go_sem]
 go_wp2_with (at_builtin; refine Lib.wpList_own_byte _ rfl _ _ 39 rfl B 5 i0 Tryz.underlying39 hi hz0 hz1 hz2 _ _ _ rfl hown0 _ _ _ rfl hy rfl ?c3 ?c4 ?c5 ?_)
 case c3 => unfold maxLen; omega
 case c4 => omega
 case c5 => omega
 intro v' w2 hown' hgrow hnew
 have hb2 : w2.heap[b]? = some (.cells #[.pointer (some ⟨b, 0, none⟩), v] 41 (0, 0)) := by
  rw [hgrow.block b (by omega) (fun e => h.ne e.symm)]
  exact hbk'
 have d0 : w2.cell? ⟨b, 0, none⟩ = some (.pointer (some ⟨b, 0, none⟩)) := by rw [Lib.cell_of_heap hb2]; rfl
 have d1 : w2.cell? ⟨b, 1, none⟩ = some v := by rw [Lib.cell_of_heap hb2]; rfl
 have f1 : w2.frozen? ⟨b, 1, none⟩ = false := Lib.frozen_of_heap hb2 1
 have hput := bld_put (bs' := bs ++ [.int .u8 10]) h hbk' hb1' hk1' (by omega) hown0 (by simpa using hown') hgrow (fun g hg => (hnew g hg).imp id fun h => by omega)
 obtain ⟨ao, n', cap, rfl⟩ : ∃ ao n' cap, v' = .slice ao n' cap := by
  rcases hown'.2 with ⟨hv, _⟩ | ⟨g, cap, cur, hv, _⟩
  ·exact ⟨_, _, _, hv⟩
  ·exact ⟨_, _, _, hv⟩
 go_wp2
 go_ret
 exact ⟨rfl, _, hput⟩
theorem bstring2 {B b : Nat} {v : Value} {l : List UInt8} {w : World} (h : Bld B b v (Lib.byteCells l) w) :
  Calls Tryz.prog 12 #[.pointer (some ⟨b, 0, none⟩)] w fun e w' => e = .returned (.string ⟨l.toArray⟩) ∧ Below B w w' := bstring_any B b l w h.is (by have := h.lt; have := h.le; omega)
theorem bld_new (w : World) : Bld w.heap.size w.heap.size (.slice none 0 0) [] (w.alloc (.cells #[.pointer none, .slice none 0 0] 41)) := ⟨Nat.le_refl _, .inl (heap_alloc_new w _), World.ownsRow_nil _ _ _ _, by simp [Value.ownBlock]⟩
theorem Bld.kept {B b : Nat} {v : Value} {bs : List Value} {w w' : World} (h : Bld B b v bs w) (hk : ∀ x, x < w.heap.size → x = b ∨ v.ownBlock = some x → w'.heap[x]? = w.heap[x]?) : Bld B b v bs w' := by
 refine ⟨h.le, ?_, ?_, h.ne⟩
 ·rw [hk b h.lt (.inl rfl)]
  exact h.heap
 ·obtain ⟨q1, q2⟩ := h.own
  refine ⟨q1, q2.imp id ?_⟩
  rintro ⟨g, cap, cur, rfl, hb, hg, r⟩
  refine ⟨g, cap, cur, rfl, hb, ?_, r⟩
  rw [hk g (h.ownlt rfl).2 (.inr rfl)]
  exact hg
end Go.Proofs.YtcmpjagpggjfiaaGreatDoor
end
