/-
  The library under the log, for the machine: Itoa, Atoi, Split, Cut, LastIndex, HasPrefix, TrimPrefix, IndexByte.
-/
import Derived.Test.YtdmkmbaaemhhhaaGreatDoorP23
import Derived.Test.YtdmkmbaaemhhhaaGreatDoorP07
import Derived.Test.YtdmkmbaaemhhhaaGreatDoorP17
import Derived.Lib.LaidTab
import Derived.Lib.AppendIntMem
import Derived.Lib.AtoiErrMem
namespace Go.Ev
open Go Go.RowKit
theorem sound_rel {P : Program} {J : World → Prop} {f : FuncId} {args : List V} {vals : List Value} {r : V} (hcal : Callable P f) (ha : args.mapM V.toV = some vals)
  (h : ∀ w, J w → Calls P f vals.toArray w fun e w' => ∃ rv, e = .returned rv ∧ Below w.heap.size w w' ∧ RelD w' (fun g => w.heap.size ≤ g ∧ g < w'.heap.size) r rv) : SoundAt P J f args r [] := by
 refine ⟨hcal, fun w ok us hJ hok hlen hrel => ?_⟩
 obtain ⟨hl, hg⟩ := mapM_spec ha
 have hus : us = vals := list_eq (by omega) fun j x y hx hy => by
  have hlt := (List.getElem?_eq_some_iff.1 hx).1
  exact (toV_rel (hg j _ y (List.getElem?_eq_getElem (by omega)) hy)).2 x (hrel j _ x (List.getElem?_eq_getElem (by omega)) hx)
 subst hus
 refine (h w hJ).mono ?_
 rintro e w' ⟨rv, rfl, hb, hr⟩
 refine ⟨rv, fun _ => none, rfl, hb, ⟨hb.size, fun b k hk => (by simp at hk), fun b sv hr => (by cases hr), fun b b' sv sv' g h1 => (by cases h1)⟩, .ro (hr.mono fun g hg => ⟨.inr ⟨hg.1, hg.2, fun b sv hs => by cases hs⟩, rfl⟩)⟩
end Go.Ev
namespace Go.Proofs.YtdmkmbaaemhhhaaGreatDoor
open Go Go.Ev Go.RowKit Go.Lg
def ifcAt (w : World) (g : Nat) : Prop := ∃ ev, w.cell? ⟨g, 0, none⟩ = some ev ∧ (ev = .nilIface ∨ ∃ te pe, ev = .iface te pe)
structure LgJ (w : World) : Prop where
 tab : Lib.TabIs Tryz.prog w "internal/strconv.uint64pow10" .u64 Lib.pow10Tab
 max : ∃ m, w.cell? ⟨0, 0, none⟩ = some (.int .i64 m)
 syn : ifcAt w 1
 rng : ifcAt w 2
theorem lt_cell {w : World} {b o : Nat} {v : Value} (h : w.cell? ⟨b, o, none⟩ = some v) : b < w.heap.size := by
 rcases Nat.lt_or_ge b w.heap.size with h1 | h1
 ·exact h1
 ·exfalso; simp [World.cell?, Array.getElem?_eq_none h1] at h
theorem cell_kept {w w' : World} (hb : Below w.heap.size w w') {b o : Nat} {v : Value} (h : w.cell? ⟨b, o, none⟩ = some v) : w'.cell? ⟨b, o, none⟩ = some v := (hb.cell (p := ⟨b, o, none⟩) (lt_cell h)).trans h
theorem ifcAt.below {w w' : World} {g : Nat} (hb : Below w.heap.size w w') (h : ifcAt w g) : ifcAt w' g := by
 obtain ⟨ev, h1, h2⟩ := h
 exact ⟨ev, cell_kept hb h1, h2⟩
theorem tab_below {P : Program} {w w' : World} {name : String} {k : IntKind} {zs : List Int} (h : Lib.TabIs P w name k zs) (hb : Below w.heap.size w w') : Lib.TabIs P w' name k zs := by
 unfold Lib.TabIs World.var? at h ⊢
 cases hg : P.globalNamed name with
 | none => rw [hg] at h; simp at h
 | some g =>
  rw [hg] at h
  simp only [Option.bind_some] at h ⊢
  rcases Nat.lt_or_ge g w.heap.size with hlt | hlt
  ·rw [hb.block g hlt]; exact h
  ·rw [Array.getElem?_eq_none hlt] at h; simp at h
theorem stableLg : Stable LgJ := by
 intro w w' h hb
 refine ⟨tab_below h.tab hb, ?_, h.syn.below hb, h.rng.below hb⟩
 obtain ⟨m, hm⟩ := h.max
 exact ⟨m, cell_kept hb hm⟩
def itF : List V → Option (V × List Ev.Blk)
 | [.int .i64 n] => if -9223372036854775808 ≤ n ∧ n ≤ 9223372036854775807 then some (.str (itoaB n), []) else none
 | _ => none
theorem itF_eq {n : Int} (h0 : -9223372036854775808 ≤ n) (h1 : n ≤ 9223372036854775807) : itF [.int .i64 n] = some (.str (itoaB n), []) := if_pos ⟨h0, h1⟩
theorem it_snd : Snd Tryz.prog LgJ 55 itF := by
 intro args r bs h
 unfold itF at h
 split at h
 ·split at h
  ·rename_i n hn
   obtain ⟨rfl, rfl⟩ := some_pair h
   exact sound_plain (callOk Tryz.func55 rfl rfl) rfl rfl fun w hJ => (show Calls Tryz.prog 55 _ w _ from Any.strconv_Itoa Tryz.laysM171 n hn.1 hn.2 w hJ.tab).mono (by rintro e w' ⟨rfl, k, os, rfl⟩; exact ⟨rfl, Lib.below_grow _ _ (Nat.le_refl _) _ _⟩)
  ·cases h
 ·cases h
def cutV (s sep : ByteArray) : V := .tup [.str ⟨(Lib.cut s.data.toList sep.data.toList).1.toArray⟩, .str ⟨(Lib.cut s.data.toList sep.data.toList).2.1.toArray⟩, .bool (Lib.cut s.data.toList sep.data.toList).2.2]
def cutF : List V → Option (V × List Ev.Blk)
 | [.str s, .str sep] => if s.size < 4294967281 then some (cutV s sep, []) else none
 | _ => none
theorem cutF_eq {s sep : ByteArray} (h : s.size < 4294967281) : cutF [.str s, .str sep] = some (cutV s sep, []) := if_pos h
theorem cut_snd : Snd Tryz.prog LgJ 66 cutF := by
 intro args r bs h
 unfold cutF at h
 split at h
 ·split at h
  ·rename_i s sep hs
   obtain ⟨rfl, rfl⟩ := some_pair h
   exact sound_plain (callOk Tryz.func66 rfl rfl) rfl rfl fun w hJ => by
    obtain ⟨m, hm⟩ := hJ.max
    exact (show Calls Tryz.prog 66 _ w _ from Any.strings_Cut Tryz.lays145 s sep m w hs hm).mono (by rintro e w' ⟨rfl, n, rfl⟩; exact ⟨rfl, ⟨rfl, rfl, rfl, Nat.le_refl _, fun _ _ => rfl⟩⟩)
  ·cases h
 ·cases h
def liF : List V → Option (V × List Ev.Blk)
 | [.str s, .str sub] => if s.size < 4611686018427387904 then some (.int .i64 (Lib.lastIndex s.data.toList sub.data.toList), []) else none
 | _ => none
theorem liF_eq {s sub : ByteArray} (h : s.size < 4611686018427387904) : liF [.str s, .str sub] = some (.int .i64 (Lib.lastIndex s.data.toList sub.data.toList), []) := if_pos h
theorem li_snd {J : World → Prop} : Snd Tryz.prog J 63 liF := by
 intro args r bs h
 unfold liF at h
 split at h
 ·split at h
  ·rename_i s sub hs
   obtain ⟨rfl, rfl⟩ := some_pair h
   exact sound_plain (callOk Tryz.func63 rfl rfl) rfl rfl fun w _ => (show Calls Tryz.prog 63 _ w _ from Any.strings_LastIndex Tryz.lays148 s sub hs w).mono (by rintro e w' ⟨rfl, rfl⟩; exact ⟨rfl, .refl _ _⟩)
  ·cases h
 ·cases h
def hpF : List V → Option (V × List Ev.Blk)
 | [.str s, .str p] => some (.bool (Lib.hasPrefix s.data.toList p.data.toList), [])
 | _ => none
theorem hpF_eq (s p : ByteArray) : hpF [.str s, .str p] = some (.bool (Lib.hasPrefix s.data.toList p.data.toList), []) := rfl
theorem hp_snd {J : World → Prop} : Snd Tryz.prog J 67 hpF := by
 intro args r bs h
 unfold hpF at h
 split at h
 ·obtain ⟨rfl, rfl⟩ := some_pair h
  rename_i s p
  exact sound_plain (callOk Tryz.func67 rfl rfl) rfl rfl fun w _ => (show Calls Tryz.prog 67 _ w _ from Any.strings_HasPrefix Tryz.lays99 s p w).mono (by rintro e w' ⟨rfl, rfl⟩; exact ⟨rfl, .refl _ _⟩)
 ·cases h
def ixnF : List V → Option (V × List Ev.Blk)
 | [.str s, .int .u8 n] => if n = 10 then some (.int .i64 (nlAt s), []) else none
 | _ => none
theorem ixnF_eq (s : ByteArray) : ixnF [.str s, .int .u8 10] = some (.int .i64 (nlAt s), []) := by simp [ixnF]
theorem ixn_snd {J : World → Prop} : Snd Tryz.prog J 62 ixnF := by
 intro args r bs h
 unfold ixnF at h
 split at h
 ·split at h
  ·rename_i s n hc
   obtain ⟨rfl, rfl⟩ := some_pair h
   subst hc
   exact sound_plain (callOk Tryz.func62 rfl rfl) rfl rfl fun w _ => (show Calls Tryz.prog 62 _ w _ from Any.strings_IndexByte Tryz.lays137 s 10 w).mono (by rintro e w' ⟨rfl, rfl⟩; exact ⟨rfl, .refl _ _⟩)
  ·cases h
 ·cases h
/-! ### Atoi: a number, and an error or none -/
def atV (s : ByteArray) : V := match Lib.atoiAll s.data.toList with
 | .ok v => .tup [.int .i64 v, .raw .nilIface]
 | .range => .tup [.int .i64 (Lib.atoiSat s.data.toList), .ifc 178 .undef]
 | _ => .tup [.int .i64 0, .ifc 178 .undef]
def atF : List V → Option (V × List Ev.Blk)
 | [.str s] => if s.size ≤ 281474976710656 then some (atV s, []) else none
 | _ => none
theorem atF_eq {s : ByteArray} (h : s.size ≤ 281474976710656) : atF [.str s] = some (atV s, []) := if_pos h
theorem rel_two {w : World} {ok : Nat → Prop} {n : Int} {v : V} {u : Value} (h : RelD w ok v u) : RelD w ok (.tup [.int .i64 n, v]) (.tuple #[.int .i64 n, u]) := by
 refine .tup [.int .i64 n, v] [.int .i64 n, u] rfl fun j c x hc hx => ?_
 match j, hc, hx with
 | 0, hc, hx => simp at hc hx; subst hc; subst hx; exact .int _ _
 | 1, hc, hx => simp at hc hx; subst hc; subst hx; exact h
 | j + 2, hc, _ => simp at hc
theorem at_snd : Snd Tryz.prog LgJ 64 atF := by
 intro args r bs h
 unfold atF at h
 split at h
 ·split at h
  ·rename_i s hs
   obtain ⟨rfl, rfl⟩ := some_pair h
   refine sound_rel (callOk Tryz.func64 rfl rfl) rfl fun w hJ => ?_
   unfold atV
   cases ha : Lib.atoiAll s.data.toList with
   | ok v =>
    exact (show Calls Tryz.prog 64 _ w _ from Any.strconv_Atoi_ok Tryz.laysC172 s (by omega) v ha w).mono (by
     rintro e w' ⟨rfl, h⟩
     refine ⟨_, rfl, ?_, rel_two (.raw _)⟩
     rcases h with rfl | ⟨t, rfl⟩
     ·exact .refl _ _
     ·exact Lib.bytesWorld_below _ _ _)
   | range =>
    obtain ⟨ev, hv, hev⟩ := hJ.rng
    exact (show Calls Tryz.prog 64 _ w _ from Any.strconv_Atoi_range Tryz.laysC172 s hs ha ev w hv hev).mono (by
     rintro e w' ⟨N, rfl, hN, hcell, hb⟩
     exact ⟨_, rfl, hb, rel_two (.ifc _ _ _ (.undef _))⟩)
   | _ =>
    obtain ⟨ev, hv, hev⟩ := hJ.syn
    exact (show Calls Tryz.prog 64 _ w _ from Any.strconv_Atoi_syntax Tryz.laysC172 s hs ha ev w hv hev).mono (by
     rintro e w' ⟨N, rfl, hN, hcell, hb⟩
     exact ⟨_, rfl, hb, rel_two (.ifc _ _ _ (.undef _))⟩)
  ·cases h
 ·cases h
/-! ### Split: words -/
def spF : List V → Option (V × List Ev.Blk)
 | [.str s, .str sep] => if s.size < 4294967281 ∧ sep = ⟨#[32]⟩ then some (.row 1 ((wordsB s).map .str), []) else none
 | _ => none
theorem spF_eq {s : ByteArray} (h : s.size < 4294967281) : spF [.str s, .str ⟨#[32]⟩] = some (.row 1 ((wordsB s).map .str), []) := if_pos ⟨h, rfl⟩
theorem sp_snd : Snd Tryz.prog LgJ 70 spF := by
 intro args r bs h
 unfold spF at h
 split at h
 ·split at h
  ·rename_i s sep hs
   obtain ⟨hs, rfl⟩ := hs
   obtain ⟨rfl, rfl⟩ := some_pair h
   refine sound_rel (callOk Tryz.func70 rfl rfl) rfl fun w hJ => ?_
   obtain ⟨m, hm⟩ := hJ.max
   refine (show Calls Tryz.prog 70 _ w _ from Any.strings_Split Tryz.lays146 (by kernel_rfl) s ⟨#[32]⟩ m w hs hm (by decide)).mono ?_
   rintro e w' ⟨rfl, rfl⟩
   have hlen : (wordsB s).length = Lib.countB s ⟨#[32]⟩ + 1 := Lib.splitB_all ⟨#[32]⟩ (by decide) 0 _ s rfl
   refine ⟨_, rfl, (Below.refl _ _).alloc (Nat.le_refl _) _, ?_⟩
   rw [← hlen]
   have hcl := Lib.countB_le ⟨#[32]⟩ (by decide) s.size s (Nat.le_refl _)
   have e1 : (wordsB s).length = ((wordsB s).map V.str).length := by rw [List.length_map]
   rw [e1]
   refine .row 1 _ w.heap.size 0 _ ((wordsB s).map Value.string) ⟨Nat.le_refl _, by simp⟩ (Nat.le_refl _) (by rw [List.length_map, hlen]; unfold maxLen; omega) (by simp) ?_ ?_ ?_ ?_
   ·intro v hv
    obtain ⟨x, _, rfl⟩ := List.mem_map.1 hv
    rfl
   ·intro v hv u hu
    obtain ⟨x, _, rfl⟩ := List.mem_map.1 hv
    simp [Value.cells] at hu
    subst hu
    rfl
   ·intro i v hv j u hu
    rw [List.getElem?_map, Option.map_eq_some_iff] at hv
    obtain ⟨x, hx, rfl⟩ := hv
    match j, hu with
    | 0, hu =>
     simp [Value.cells] at hu
     subst hu
     have hi := (List.getElem?_eq_some_iff.1 hx).1
     rw [World.cell?_alloc_at _ _ _ _ rfl]
     have : ((Lib.splitB ⟨#[32]⟩ 0 (Lib.countB s ⟨#[32]⟩) s).map Value.string).toArray[0 + i * 1 + 0]? = some (.string x) := by
      rw [List.getElem?_toArray, List.getElem?_map, show 0 + i * 1 + 0 = i by omega]
      exact congrArg (Option.map Value.string) hx
     exact this
    | j + 1, hu => simp [Value.cells] at hu
   ·intro i e v he hv
    rw [List.getElem?_map, Option.map_eq_some_iff] at he hv
    obtain ⟨x, hx, rfl⟩ := he
    obtain ⟨y, hy, rfl⟩ := hv
    rw [hx] at hy
    cases hy
    exact .str _
  ·cases h
 ·cases h
end Go.Proofs.YtdmkmbaaemhhhaaGreatDoor
