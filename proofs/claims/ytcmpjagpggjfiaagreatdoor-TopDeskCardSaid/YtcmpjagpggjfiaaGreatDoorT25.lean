/-
  The library under the desk, for the machine: Itoa, Atoi, Split, Cut.
-/
import Derived.Test.YtcmpjagpggjfiaaGreatDoorT01
import Derived.Test.YtcmpjagpggjfiaaGreatDoorT04
import Derived.Test.YtcmpjagpggjfiaaGreatDoorT22
import Derived.Lib.Split
import Derived.Lib.LaidTab
import Derived.Lib.AppendIntMem
namespace Go.Ev
open Go Go.RowKit
theorem sound_rel {P : Program} {J : World → Prop} {f : FuncId} {args : List V} {vals : List Value} {r : V} (hcal : Callable P f) (ha : args.mapM V.toV = some vals)
  (h : ∀ w, J w → Calls P f vals.toArray w fun e w' => ∃ rv, e = .returned rv ∧ Below w.heap.size w w' ∧ RelD w' (fun g => w.heap.size ≤ g ∧ g < w'.heap.size) r rv) : SoundAt P J f args r [] := by
 refine ⟨hcal, fun w ok us hJ hok hlen hrel => ?_⟩
 obtain ⟨hl, hg⟩ := mapM_spec ha
 have hus : us = vals := list_eq (by omega) fun j x y hx hy => by
  have hlt := (List.getElem?_eq_some_iff.1 hx).1
  exact (toV_rel (hg j _ y (List.getElem?_eq_getElem (by omega)) hy)).2 x (hrel j _ x (List.getElem?_eq_getElem (by omega)) hx)
 subst hus
 refine (h w hJ).mono ?_
 rintro e w' ⟨rv, rfl, hb, hr⟩
 refine ⟨rv, fun _ => none, rfl, hb, ⟨hb.size, fun b k hk => (by simp at hk), fun b sv hr => (by cases hr), fun b b' sv sv' g h1 => (by cases h1), fun g hg hlt => by have := hb.size; omega, fun b sv g h1 => by cases h1⟩, .ro (hr.mono fun g hg => ⟨⟨fun hlt => by have := hg.1; omega, hg.2, fun b sv hs => by cases hs⟩, rfl⟩)⟩
theorem SoundAt.J {P : Program} {J J' : World → Prop} {f : FuncId} {args : List V} {r : V} {bs : List Ev.Blk} (h : SoundAt P J f args r bs) (hJ : ∀ w, J' w → J w) : SoundAt P J' f args r bs :=
 ⟨h.1, fun w ok vals hj => h.2 w ok vals (hJ w hj)⟩
end Go.Ev
namespace Go.Lg
open Go
def cutsB (c : UInt8) (s : ByteArray) : List ByteArray := Lib.splitB ⟨#[c]⟩ 0 (Lib.countB s ⟨#[c]⟩) s
theorem cutsB_data (c : UInt8) (s : ByteArray) : (cutsB c s).map (·.data.toList) = Lib.split s.data.toList [c] := Lib.splitB_data _ _ _ _
end Go.Lg
namespace Go.Proofs.YtcmpjagpggjfiaaGreatDoor
open Go Go.Ev Go.RowKit Go.Lg
structure DkJ (w : World) : Prop where
 tab : Lib.TabIs Tryz.prog w "internal/strconv.uint64pow10" .u64 Lib.pow10Tab
 max : ∃ m, w.cell? ⟨0, 0, none⟩ = some (.int .i64 m)
 cal : Tab w
theorem lt_cell {w : World} {b o : Nat} {v : Value} (h : w.cell? ⟨b, o, none⟩ = some v) : b < w.heap.size := by
 rcases Nat.lt_or_ge b w.heap.size with h1 | h1
 ·exact h1
 ·exfalso; simp [World.cell?, Array.getElem?_eq_none h1] at h
theorem cell_kept {w w' : World} (hb : Below w.heap.size w w') {b o : Nat} {v : Value} (h : w.cell? ⟨b, o, none⟩ = some v) : w'.cell? ⟨b, o, none⟩ = some v := (hb.cell (p := ⟨b, o, none⟩) (lt_cell h)).trans h
theorem tab_below {P : Program} {w w' : World} {name : String} {k : IntKind} {zs : List Int} (h : Lib.TabIs P w name k zs) (hb : Below w.heap.size w w') : Lib.TabIs P w' name k zs := by
 unfold Lib.TabIs World.var? at h ⊢
 cases hg : P.globalNamed name with
 | none => rw [hg] at h; simp at h
 | some g =>
  rw [hg] at h
  simp only [Option.bind_some] at h ⊢
  rcases Nat.lt_or_ge g w.heap.size with hlt | hlt
  ·rw [hb.block g hlt]; exact h
  ·rw [Array.getElem?_eq_none hlt] at h; simp at h
theorem stableDk : Stable DkJ := by
 intro w w' h hb
 refine ⟨tab_below h.tab hb, ?_, stableTab w w' h.cal hb⟩
 obtain ⟨m, hm⟩ := h.max
 exact ⟨m, cell_kept hb hm⟩
def itF : List V → Option (V × List Ev.Blk)
 | [.int .i64 n] => if -9223372036854775808 ≤ n ∧ n ≤ 9223372036854775807 then some (.str (itoaB n), []) else none
 | _ => none
theorem itF_eq {n : Int} (h0 : -9223372036854775808 ≤ n) (h1 : n ≤ 9223372036854775807) : itF [.int .i64 n] = some (.str (itoaB n), []) := if_pos ⟨h0, h1⟩
theorem it_snd : Snd Tryz.prog DkJ 20 itF := by
 intro args r bs h
 unfold itF at h
 split at h
 ·split at h
  ·rename_i n hn
   obtain ⟨rfl, rfl⟩ := some_pair h
   exact sound_plain (callOk Tryz.func20 rfl rfl) rfl rfl fun w hJ => (show Calls Tryz.prog 20 _ w _ from Any.strconv_Itoa Tryz.laysM171 n hn.1 hn.2 w hJ.tab).mono (by rintro e w' ⟨rfl, k, os, rfl⟩; exact ⟨rfl, Lib.below_grow _ _ (Nat.le_refl _) _ _⟩)
  ·cases h
 ·cases h
def cutV (s sep : ByteArray) : V := .tup [.str ⟨(Lib.cut s.data.toList sep.data.toList).1.toArray⟩, .str ⟨(Lib.cut s.data.toList sep.data.toList).2.1.toArray⟩, .bool (Lib.cut s.data.toList sep.data.toList).2.2]
def cutF : List V → Option (V × List Ev.Blk)
 | [.str s, .str sep] => if s.size < 4294967281 then some (cutV s sep, []) else none
 | _ => none
theorem cutF_eq {s sep : ByteArray} (h : s.size < 4294967281) : cutF [.str s, .str sep] = some (cutV s sep, []) := if_pos h
theorem cut_snd : Snd Tryz.prog DkJ 135 cutF := by
 intro args r bs h
 unfold cutF at h
 split at h
 ·split at h
  ·rename_i s sep hs
   obtain ⟨rfl, rfl⟩ := some_pair h
   exact sound_plain (callOk Tryz.func135 rfl rfl) rfl rfl fun w hJ => by
    obtain ⟨m, hm⟩ := hJ.max
    exact (show Calls Tryz.prog 135 _ w _ from Any.strings_Cut Tryz.lays145 s sep m w hs hm).mono (by rintro e w' ⟨rfl, n, rfl⟩; exact ⟨rfl, ⟨rfl, rfl, rfl, Nat.le_refl _, fun _ _ => rfl⟩⟩)
  ·cases h
 ·cases h
/-! ### Atoi, of a number -/
def atF : List V → Option (V × List Ev.Blk)
 | [.str s] => if s.size ≤ 281474976710656 then match Lib.atoiAll s.data.toList with
  | .ok v => some (.tup [.int .i64 v, .raw .nilIface], [])
  | _ => none
  else none
 | _ => none
theorem atF_itoa {n : Int} (h0 : -9223372036854775808 ≤ n) (h1 : n ≤ 9223372036854775807) : atF [.str (itoaB n)] = some (.tup [.int .i64 n, .raw .nilIface], []) := by
 have hs : (itoaB n).size ≤ 281474976710656 := by
  have := itoaB_size (n := n) (k := 18) (by omega)
  omega
 unfold atF
 simp only [if_pos hs]
 rw [itoaB_data, atoi_itoa h0 h1]
theorem rel_two {w : World} {ok : Nat → Prop} {n : Int} {v : V} {u : Value} (h : RelD w ok v u) : RelD w ok (.tup [.int .i64 n, v]) (.tuple #[.int .i64 n, u]) := by
 refine .tup [.int .i64 n, v] [.int .i64 n, u] rfl fun j c x hc hx => ?_
 match j, hc, hx with
 | 0, hc, hx => simp at hc hx; subst hc; subst hx; exact .int _ _
 | 1, hc, hx => simp at hc hx; subst hc; subst hx; exact h
 | j + 2, hc, _ => simp at hc
theorem at_snd : Snd Tryz.prog DkJ 132 atF := by
 intro args r bs h
 unfold atF at h
 split at h
 ·split at h
  ·rename_i s hs
   split at h
   ·rename_i v ha
    obtain ⟨rfl, rfl⟩ := some_pair h
    refine sound_rel (callOk Tryz.func132 rfl rfl) rfl fun w hJ => ?_
    exact (show Calls Tryz.prog 132 _ w _ from Any.strconv_Atoi_ok Tryz.laysC172 s (by omega) v ha w).mono (by
     rintro e w' ⟨rfl, h⟩
     refine ⟨_, rfl, ?_, rel_two (.raw _)⟩
     rcases h with rfl | ⟨t, rfl⟩
     ·exact .refl _ _
     ·exact Lib.bytesWorld_below _ _ _)
   ·cases h
  ·cases h
 ·cases h
/-! ### Split, at one byte -/
theorem sp_sound (c : UInt8) (s : ByteArray) (hs : s.size < 4294967281) : SoundAt Tryz.prog DkJ 8 [.str s, .str ⟨#[c]⟩] (.row 1 ((cutsB c s).map .str)) [] := by
 refine sound_rel (callOk Tryz.func8 rfl rfl) rfl fun w hJ => ?_
 obtain ⟨m, hm⟩ := hJ.max
 refine (show Calls Tryz.prog 8 _ w _ from Any.strings_Split Tryz.lays146 (by kernel_rfl) s ⟨#[c]⟩ m w hs hm (Nat.zero_lt_succ 0)).mono ?_
 rintro e w' ⟨rfl, rfl⟩
 have hlen : (cutsB c s).length = Lib.countB s ⟨#[c]⟩ + 1 := Lib.splitB_all ⟨#[c]⟩ (Nat.zero_lt_succ 0) 0 _ s rfl
 refine ⟨_, rfl, (Below.refl _ _).alloc (Nat.le_refl _) _, ?_⟩
 rw [← hlen]
 have hcl := Lib.countB_le ⟨#[c]⟩ (Nat.zero_lt_succ 0) s.size s (Nat.le_refl _)
 have e1 : (cutsB c s).length = ((cutsB c s).map V.str).length := by rw [List.length_map]
 rw [e1]
 refine .row 1 _ w.heap.size 0 _ ((cutsB c s).map Value.string) ⟨Nat.le_refl _, by simp⟩ (Nat.le_refl _) (by rw [List.length_map, hlen]; unfold maxLen; omega) (by simp) ?_ ?_ ?_ ?_
 ·intro v hv
  obtain ⟨x, _, rfl⟩ := List.mem_map.1 hv
  rfl
 ·intro v hv u hu
  obtain ⟨x, _, rfl⟩ := List.mem_map.1 hv
  simp [Value.cells] at hu
  subst hu
  rfl
 ·intro i v hv j u hu
  rw [List.getElem?_map, Option.map_eq_some_iff] at hv
  obtain ⟨x, hx, rfl⟩ := hv
  match j, hu with
  | 0, hu =>
   simp [Value.cells] at hu
   subst hu
   have hi := (List.getElem?_eq_some_iff.1 hx).1
   rw [World.cell?_alloc_at _ _ _ _ rfl]
   have : ((Lib.splitB ⟨#[c]⟩ 0 (Lib.countB s ⟨#[c]⟩) s).map Value.string).toArray[0 + i * 1 + 0]? = some (.string x) := by
    rw [List.getElem?_toArray, List.getElem?_map, show 0 + i * 1 + 0 = i by omega]
    exact congrArg (Option.map Value.string) hx
   exact this
  | j + 1, hu => simp [Value.cells] at hu
 ·intro i e v he hv
  rw [List.getElem?_map, Option.map_eq_some_iff] at he hv
  obtain ⟨x, hx, rfl⟩ := he
  obtain ⟨y, hy, rfl⟩ := hv
  rw [hx] at hy
  cases hy
  exact .str _
end Go.Proofs.YtcmpjagpggjfiaaGreatDoor
