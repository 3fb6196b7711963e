/-
  The desk's table of what is reckoned: twelve words in a map of functions; no other word is found in it.
-/
import Derived.Test.YtcmpjagpggjfiaaGreatDoorT25
import Derived.MapKept
import Derived.Carry
import Derived.Tactics2
namespace Go.Dk
open Go Go.RowKit
def MapS (w : World) (g : Nat) (ks : List (List UInt8)) : Prop := ∃ (es : Array MapEntry) (clock : Nat), w.heap[g]? = some (.map es clock) ∧ (es.toList.map (·.key) = ks.map fun l => Value.string ⟨l.toArray⟩) ∧ (∀ e ∈ es.toList, e.born < clock) ∧ (es.toList.map (·.born)).Nodup
theorem find_none {k : ByteArray} : ∀ {es : List MapEntry} {ks : List (List UInt8)} (i : Nat), (es.map (·.key) = ks.map fun l => Value.string ⟨l.toArray⟩) → k.data.toList ∉ ks → Instr.findNow .string (.string k) es i = some none
 | [], _, i, _, _ => by simp [Instr.findNow]
 | e :: es, [], i, h, _ => by simp at h
 | e :: es, k' :: ks, i, h, hn => by
  simp only [List.map_cons, List.cons.injEq] at h
  simp only [List.mem_cons, not_or] at hn
  have := find_none (i + 1) h.2 hn.2
  have hs : Instr.sameNow .string (.string k) e.key = some false := by
   rw [h.1]
   obtain ⟨r, hr, hi⟩ := MapKept.sameNow_of_keys (a := .string k) (b := .string ⟨k'.toArray⟩) (show MapKept.IsKey .string (.string k) from trivial) (show MapKept.IsKey .string (.string ⟨k'.toArray⟩) from trivial)
   cases r with
   | false => exact hr
   | true =>
    have e : k = ⟨k'.toArray⟩ := by simpa using hi.1 rfl
    exact absurd (by rw [e]) hn.1
  simp [Instr.findNow, hs, this]
theorem run_insertS {P : Program} {T kt et : TypeId} (hT : P.underlying T = some (.map kt et)) (hk : P.underlying kt = some .string) {w : World} {g : Nat} {ks : List (List UInt8)} (hm : MapS w g ks) {k : ByteArray} (hn : k.data.toList ∉ ks) (v : Value) :
  ∃ w', (Instr.mapUpdate T (.map (some g)) (.string k) v).run P w = .ok () w' ∧ MapS w' g (ks ++ [k.data.toList]) ∧ w'.heap.size = w.heap.size ∧ (∀ x, x ≠ g → w'.heap[x]? = w.heap[x]?) ∧ Below g w w' := by
 obtain ⟨es, clock, hes, hkeys, hbn, hnd⟩ := hm
 have hf := find_none 0 hkeys hn
 have hset := MapKept.heap_set (o' := .map (es.push ⟨.string k, v, clock⟩) (clock + 1)) hes
 refine ⟨{ w with heap := w.heap.setIfInBounds g (.map (es.push ⟨.string k, v, clock⟩) (clock + 1)) }, ?_, ⟨_, _, hset.1, ?_, ?_, ?_⟩, by simp, hset.2, ⟨rfl, rfl, rfl, by simp, fun x hx => hset.2 x (by omega)⟩⟩
 ·simp [Instr.mapUpdate, run_underlying hT, MapKept.run_getObj_map hes, MapKept.run_checkKey (k := .string k) hk trivial, MapKept.run_findKey hk hf, MapKept.run_setObj_map _ hes, Result.andThen]
 ·simp [hkeys]
 ·intro e he
  rw [Array.toList_push, List.mem_append] at he
  rcases he with he | he
  ·exact Nat.lt_succ_of_lt (hbn e he)
  ·simp at he
   subst he
   exact Nat.lt_succ_self _
 ·rw [Array.toList_push, List.map_append]
  refine List.nodup_append.2 ⟨hnd, by simp, ?_⟩
  intro x hx y hy
  obtain ⟨e, he, rfl⟩ := List.mem_map.1 hx
  simp at hy
  subst hy
  have := hbn e he
  omega
theorem upon_insertS {P : Program} {T kt et : TypeId} (hT : P.underlying T = some (.map kt et)) (hk : P.underlying kt = some .string) {w : World} {g : Nat} {ks : List (List UInt8)} (hm : MapS w g ks) {k : ByteArray} (hn : k.data.toList ∉ ks) {v : Value} {o : Oper} {a : Act} {K : Act → World → Prop} {Q : Exit → Act → World → Prop}
  (h : ∀ w', MapS w' g (ks ++ [k.data.toList]) → Below g w w' → K (a.put o.dst undef) w') : o.upon P a K Q (((Instr.mapUpdate T (.map (some g)) (.string k) v).run P w).andThen fun _ w' => .ok .skip w') := by
 obtain ⟨w', e, m, _, _, b⟩ := run_insertS hT hk hm hn v
 rw [e]
 exact h w' m b
theorem kv_of : ∀ {es : List MapEntry} {ks : List (List UInt8)}, (es.map (·.key) = ks.map fun l => Value.string ⟨l.toArray⟩) → Ev.KV es (ks.map fun l => (.str ⟨l.toArray⟩, .undef))
 | [], [], _ => trivial
 | e :: es, k :: ks, h => by
  simp only [List.map_cons, List.cons.injEq] at h
  exact ⟨by rw [h.1]; rfl, .inl rfl, kv_of h.2⟩
 | [], _ :: _, h => by simp at h
 | _ :: _, [], h => by simp at h
end Go.Dk
namespace Go.Proofs.YtcmpjagpggjfiaaGreatDoor
open Go Go.RowKit Go.Dk
def tabW : List (List UInt8) := [[100, 97, 121], [97, 100, 100], [100, 101, 97, 108], [115, 112, 108, 105, 116], [115, 104, 97, 114, 101], [115, 116, 114, 97, 105, 103, 104, 116], [100, 105, 103, 105, 116, 115], [102, 97, 108, 108, 105, 110, 103], [108, 101, 97, 115, 116], [98, 101, 116, 119, 101, 101, 110], [100, 97, 116, 101], [108, 111, 97, 110]]
set_option maxRecDepth 100000 in
set_option maxHeartbeats 8000000 in
theorem table_calls (w : World) : Calls Tryz.prog 21 #[] w fun e w' => e = .returned (.map (some w.heap.size)) ∧ MapS w' w.heap.size tabW ∧ Below w.heap.size w w' := by
 have hmm := @run_makeMap Tryz.prog
 go_enter Tryz.func21, Tryz.ntmps21
 go_wp2
 have m0 : MapS (w.alloc (.map #[] 0)) w.heap.size [] := ⟨#[], 0, heap_alloc_new w _, rfl, by simp, by simp⟩
 have b0 : Below w.heap.size w (w.alloc (.map #[] 0)) := (Below.refl _ _).alloc (Nat.le_refl _) _
 refine upon_insertS Tryz.underlying70 Tryz.underlying9 m0 (by decide) fun w1 m1 b1 => ?_
 go_wp2
 refine upon_insertS Tryz.underlying70 Tryz.underlying9 m1 (by decide) fun w2 m2 b2 => ?_
 go_wp2
 refine upon_insertS Tryz.underlying70 Tryz.underlying9 m2 (by decide) fun w3 m3 b3 => ?_
 go_wp2
 refine upon_insertS Tryz.underlying70 Tryz.underlying9 m3 (by decide) fun w4 m4 b4 => ?_
 go_wp2
 refine upon_insertS Tryz.underlying70 Tryz.underlying9 m4 (by decide) fun w5 m5 b5 => ?_
 go_wp2
 refine upon_insertS Tryz.underlying70 Tryz.underlying9 m5 (by decide) fun w6 m6 b6 => ?_
 go_wp2
 refine upon_insertS Tryz.underlying70 Tryz.underlying9 m6 (by decide) fun w7 m7 b7 => ?_
 go_wp2
 refine upon_insertS Tryz.underlying70 Tryz.underlying9 m7 (by decide) fun w8 m8 b8 => ?_
 go_wp2
 refine upon_insertS Tryz.underlying70 Tryz.underlying9 m8 (by decide) fun w9 m9 b9 => ?_
 go_wp2
 refine upon_insertS Tryz.underlying70 Tryz.underlying9 m9 (by decide) fun w10 m10 b10 => ?_
 go_wp2
 refine upon_insertS Tryz.underlying70 Tryz.underlying9 m10 (by decide) fun w11 m11 b11 => ?_
 go_wp2
 refine upon_insertS Tryz.underlying70 Tryz.underlying9 m11 (by decide) fun w12 m12 b12 => ?_
 go_wp2
 go_ret
 exact ⟨rfl, m12, b0.trans (b1.trans (b2.trans (b3.trans (b4.trans (b5.trans (b6.trans (b7.trans (b8.trans (b9.trans (b10.trans (b11.trans b12)))))))))))⟩
def tabKV : List (Ev.V × Ev.V) := tabW.map fun l => (.str ⟨l.toArray⟩, .undef)
theorem table_sound {J : World → Prop} : Ev.SoundAt Tryz.prog J 21 [] (.vec 0) [.map tabKV] := by
 refine ⟨callOk Tryz.func21 rfl rfl, fun w ok vals _ hok hlen _ => ?_⟩
 match vals, hlen with
 | [], _ =>
  refine (table_calls w).mono ?_
  rintro e w' ⟨rfl, ⟨es, clock, hes, hkeys, hbn, hnd⟩, hb⟩
  have key : ∀ b sv, Ev.one 0 (Value.map (some w.heap.size)) b = some sv → b = 0 ∧ sv = .map (some w.heap.size) := by
   intro b sv hs
   unfold Ev.one at hs
   split at hs
   ·rename_i e; simp at hs; exact ⟨e, hs.symm⟩
   ·cases hs
  refine ⟨_, Ev.one 0 (.map (some w.heap.size)), rfl, hb, ⟨hb.size, ?_, ?_, ?_, (fun g hg hlt => by have := hb.size; omega), (fun b sv g hr ho => .inr fun hlt => ?_)⟩, .vec 0 _ (by simp [Ev.one]) rfl⟩
  ·intro b k hk
   match b with
   | 0 =>
    simp at hk
    subst hk
    exact ⟨_, by simp [Ev.one], _, es, clock, rfl, Nat.le_refl _, hes, kv_of hkeys, hbn, hnd⟩
   | b + 1 => simp at hk
  ·intro b sv hs
   obtain ⟨rfl, rfl⟩ := key b sv hs
   exact ⟨_, rfl⟩
  ·intro b b' sv s2 g h1 h2 _ _
   rw [(key b sv h1).1, (key b' s2 h2).1]
  ·obtain ⟨_, rfl⟩ := key b sv hr
   simp [Ev.own] at ho
   omega
end Go.Proofs.YtcmpjagpggjfiaaGreatDoor
