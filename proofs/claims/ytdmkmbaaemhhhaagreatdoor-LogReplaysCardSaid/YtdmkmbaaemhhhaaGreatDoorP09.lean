/-
  log.plain: an entry written with a strings.Builder (an elder walk).
-/
import Derived.Test.YtdmkmbaaemhhhaaGreatDoorP07
import Derived.LoopTactic
import Derived.Lib.LaidTab
import Derived.Lib.AppendIntMem
set_option linter.unusedVariables false
namespace Go.Proofs.YtdmkmbaaemhhhaaGreatDoor
open Go Go.RowKit Go.Shelf
theorem bld_below {T e : TypeId} {B b : Nat} {p : Value} {bs : List Value} {w w' : World} (h : Lib.BuilderAt T e B b p bs w) (hb : Below w.heap.size w w') : Lib.BuilderAt T e B b p bs w' := by
 obtain ⟨hB, v, hbk, hown, hne⟩ := h
 have hlt : b < w.heap.size := by
  rcases Nat.lt_or_ge b w.heap.size with h' | h'
  ·exact h'
  ·simp [Array.getElem?_eq_none h'] at hbk
 refine ⟨hB, v, (hb.block b hlt).trans hbk, ?_, hne⟩
 obtain ⟨hl, h⟩ := hown
 refine ⟨hl, ?_⟩
 rcases h with h | ⟨g, cap, cur, hv, hg, hh, r⟩
 ·exact .inl h
 ·have hgl : g < w.heap.size := by
   rcases Nat.lt_or_ge g w.heap.size with h' | h'
   ·exact h'
   ·simp [Array.getElem?_eq_none h'] at hh
  exact .inr ⟨g, cap, cur, hv, hg, (hb.block g hgl).trans hh, r⟩
theorem isbld_below {T e : TypeId} {B b : Nat} {bs : List Value} {w w' : World} (h : Lib.IsBuilder T e B b bs w) (hb : Below w.heap.size w w') : Lib.IsBuilder T e B b bs w' := by
 rcases h with h | h
 ·exact .inl (bld_below h hb)
 ·exact .inr (bld_below h hb)
theorem below_ofdrew {B : Nat} {a w : World} (h : Below B a.drew w) : Below B a w := ⟨h.os, h.tape, h.output, h.size, h.block⟩
theorem keep_cell {w w' : World} {b x : Nat} (hk : ∀ x, x ≠ b → x < w.heap.size → (∀ cs fr, w.heap[x]? ≠ some (.cells cs 5 fr)) → w'.heap[x]? = w.heap[x]?) {cs : Array Value} {t : TypeId} {fr : Nat × Nat} (hx : x ≠ b) (ht : t ≠ 5)
  (h : w.heap[x]? = some (.cells cs t fr)) : ∀ o, w'.cell? ⟨x, o, none⟩ = w.cell? ⟨x, o, none⟩ := by
 have hl : x < w.heap.size := (Array.getElem?_eq_some_iff.1 h).1
 have e := hk x hx hl fun cs' fr' e => by
  rw [h] at e
  injection e with e
  injection e with _ e2 _
  exact ht e2
 exact fun o => World.cell?_of_block (a := ⟨x, o, none⟩) e
theorem bcellB {B : Nat} {W w1 : World} (hb : Below B W w1) : ∀ b o, b < B → w1.cell? ⟨b, o, none⟩ = W.cell? ⟨b, o, none⟩ := fun b o h => hb.cell (p := ⟨b, o, none⟩) h
def TabW (w : World) : Prop := Lib.TabIs Tryz.prog w "internal/strconv.uint64pow10" .u64 Lib.pow10Tab
theorem tabW_below {w w' : World} (h : TabW w) (hb : Below w.heap.size w w') : TabW w' := by
 unfold TabW Lib.TabIs World.var? at h ⊢
 cases hg : Tryz.prog.globalNamed "internal/strconv.uint64pow10" with
 | none => rw [hg] at h; simp at h
 | some g =>
  rw [hg] at h
  simp only [Option.bind_some] at h ⊢
  rcases Nat.lt_or_ge g w.heap.size with hlt | hlt
  ·rw [hb.block g hlt]; exact h
  ·rw [Array.getElem?_eq_none hlt] at h; simp at h
theorem itoa_any (n : Int) (w : World) (h0 : -9223372036854775808 ≤ n) (h1 : n ≤ 9223372036854775807) (hT : TabW w) :
  Calls Tryz.prog 55 #[.int .i64 n] w fun e w' => e = .returned (.string ⟨(Lib.itoa n).toArray⟩) ∧ Below w.heap.size w w' :=
 (show Calls Tryz.prog 55 _ w _ from Any.strconv_Itoa Tryz.laysM171 n h0 h1 w hT).mono (by rintro e w' ⟨rfl, k, os, rfl⟩; exact ⟨rfl, Lib.below_grow _ _ (Nat.le_refl _) _ _⟩)
theorem nDig_le : ∀ (k u : Nat), u < 10 ^ (k + 1) → Lib.nDigits u ≤ k + 1
 | 0, u, h => by rw [Lib.nDigits_small (by simpa using h)]; exact Nat.le_refl _
 | k + 1, u, h => by
  by_cases h10 : u < 10
  ·rw [Lib.nDigits_small h10]; omega
  ·rw [Lib.nDigits_big h10]
   have := nDig_le k (u / 10) (by rw [Nat.div_lt_iff_lt_mul (by omega)]; rw [Nat.pow_succ] at h; exact h)
   omega
theorem itoa_len {n : Int} (h0 : -1000000000000 ≤ n) (h1 : n ≤ 1000000000000) : (Lib.itoa n).length ≤ 20 := by
 unfold Lib.itoa
 split
 ·rw [List.length_cons, Lib.decDigits_length]
  have := nDig_le 12 n.natAbs (by omega)
  omega
 ·rw [Lib.decDigits_length]
  have := nDig_le 12 n.toNat (by omega)
  omega
def pieceL (p : ByteArray × Int) : List UInt8 := 32 :: (p.1.data.toList ++ 58 :: Lib.itoa p.2)
def outL (k : ByteArray) (d : Int) (L : List (ByteArray × Int)) (j : Nat) : List UInt8 := k.data.toList ++ 32 :: (Lib.itoa d ++ (L.take j).flatMap pieceL)
theorem outL_succ {k : ByteArray} {d : Int} {L : List (ByteArray × Int)} {j : Nat} {p : ByteArray × Int} (h : L[j]? = some p) : outL k d L (j + 1) = outL k d L j ++ pieceL p := by
 unfold outL
 rw [List.take_add_one, h]
 simp
theorem flat_len {L : List (ByteArray × Int)} (h : ∀ p ∈ L, p.1.size ≤ 1000 ∧ -1000000000000 ≤ p.2 ∧ p.2 ≤ 1000000000000) : (L.flatMap pieceL).length ≤ L.length * 1100 := by
 induction L with
 | nil => simp
 | cons p L ih =>
  have h1 := h p (by simp)
  have h2 := itoa_len h1.2.1 h1.2.2
  have h3 := ih fun q hq => h q (List.mem_cons_of_mem _ hq)
  have h4 : p.1.data.toList.length = p.1.size := by simp
  rw [List.flatMap_cons, List.length_append, List.length_cons]
  have h5 : (pieceL p).length = p.1.size + (Lib.itoa p.2).length + 2 := by unfold pieceL; simp; omega
  omega
theorem outL_len {k : ByteArray} {d : Int} {L : List (ByteArray × Int)} {j : Nat} (hk : k.size ≤ 1000) (hd : 0 ≤ d ∧ d ≤ 292193) (hL : ∀ (i : Nat) c a, L[i]? = some (c, a) → c.size ≤ 1000 ∧ -1000000000000 ≤ a ∧ a ≤ 1000000000000) (hj : L.length ≤ 12) : (outL k d L j).length ≤ 20000 := by
 have h1 := itoa_len (n := d) (by omega) (by omega)
 have h2 := flat_len (L := L.take j) fun p hp => by
  obtain ⟨i, hi⟩ := List.getElem?_of_mem (List.mem_of_mem_take hp)
  exact hL i p.1 p.2 hi
 have h3 : (L.take j).length ≤ L.length := by rw [List.length_take]; omega
 have h4 : k.data.toList.length = k.size := by simp
 unfold outL
 rw [List.length_append, List.length_cons, List.length_append]
 omega
set_option maxHeartbeats 4000000 in
set_option maxRecDepth 100000 in
theorem plain_walk (k : ByteArray) (d : Int) (L : List (ByteArray × Int)) (g o n cap : Nat) (w : World) (hT : TabW w) (hd : 0 ≤ d ∧ d ≤ 292193) (hg : g < w.heap.size) (hk : k.size ≤ 1000) (hn : L.length = n) (hn12 : n ≤ 12)
  (hL : ∀ (i : Nat) c a, L[i]? = some (c, a) → (c.size ≤ 1000 ∧ -1000000000000 ≤ a ∧ a ≤ 1000000000000) ∧ w.cell? ⟨g, o + i * 2, none⟩ = some (.string c) ∧ w.cell? ⟨g, o + i * 2 + 1, none⟩ = some (.int .i64 a)) :
  Calls Tryz.prog 54 #[.agg #[.string k, .int .i64 d, .slice (some ⟨g, o, none⟩) n cap]] w fun e w' => e = .returned (.string ⟨(outL k d L n).toArray⟩) ∧ Below w.heap.size w w' := by
 have T := Lib.hid (fun w' (hb : Below w.heap.size w w') => tabW_below hT hb)
 clear hT
 go_enter Tryz.func54, Tryz.ntmps54
 go_wp2
 have hb0 : Below w.heap.size w ((w.alloc (.cells #[.string k, .int .i64 d, .slice (some ⟨g, o, none⟩) n cap] 28)).alloc (.cells #[.pointer none, .slice none 0 0] 132)) := ((Below.refl _ _).alloc (Nat.le_refl _) _).alloc (by simp) _
 have hB0 : Lib.IsBuilder 132 5 (w.heap.size + 1) (w.heap.size + 1) [] ((w.alloc (.cells #[.string k, .int .i64 d, .slice (some ⟨g, o, none⟩) n cap] 28)).alloc (.cells #[.pointer none, .slice none 0 0] 132)) := by
  have := Lib.fresh_isBuilder 132 5 (w.alloc (.cells #[.string k, .int .i64 d, .slice (some ⟨g, o, none⟩) n cap] 28))
  simpa using this
 have c0 : ((w.alloc (.cells #[.string k, .int .i64 d, .slice (some ⟨g, o, none⟩) n cap] 28)).alloc (.cells #[.pointer none, .slice none 0 0] 132)).cell? ⟨w.heap.size, 0, none⟩ = some (.string k) := by
  rw [World.cell?_alloc_past _ _ _ (by simp), World.cell?_alloc_at _ _ _ _ rfl]; rfl
 have c1 : ((w.alloc (.cells #[.string k, .int .i64 d, .slice (some ⟨g, o, none⟩) n cap] 28)).alloc (.cells #[.pointer none, .slice none 0 0] 132)).cell? ⟨w.heap.size, 1, none⟩ = some (.int .i64 d) := by
  rw [World.cell?_alloc_past _ _ _ (by simp), World.cell?_alloc_at _ _ _ _ rfl]; rfl
 have c2 : ((w.alloc (.cells #[.string k, .int .i64 d, .slice (some ⟨g, o, none⟩) n cap] 28)).alloc (.cells #[.pointer none, .slice none 0 0] 132)).cell? ⟨w.heap.size, 2, none⟩ = some (.slice (some ⟨g, o, none⟩) n cap) := by
  rw [World.cell?_alloc_past _ _ _ (by simp), World.cell?_alloc_at _ _ _ _ rfl]; rfl
 have hs0 : ((w.alloc (.cells #[.string k, .int .i64 d, .slice (some ⟨g, o, none⟩) n cap] 28)).alloc (.cells #[.pointer none, .slice none 0 0] 132)).heap.size = w.heap.size + 2 := by simp
 generalize (w.alloc (.cells #[.string k, .int .i64 d, .slice (some ⟨g, o, none⟩) n cap] 28)).alloc (.cells #[.pointer none, .slice none 0 0] 132) = v0 at *
 have tI : (Lib.itoa d).length ≤ 1000 := by have := itoa_len (n := d) (by omega) (by omega); omega
 have e1 : ¬ 9223372036854775807 < k.size + 1 := by omega
 have e2 : ¬ 9223372036854775807 < k.size + 1 + (Lib.itoa d).length := by omega
 have z1 : (⟨#[32]⟩ : ByteArray).size = 1 := rfl
 have z2 : (⟨(Lib.itoa d).toArray⟩ : ByteArray).size = (Lib.itoa d).length := by simp [ByteArray.size]
 go_region_held3 (fun w' => w'.cell? ⟨w.heap.size, 0, none⟩ = some (.string k) ∧ w'.cell? ⟨w.heap.size, 1, none⟩ = some (.int .i64 d))
  (first
   | (go_keep; done)
   | (go_split_ands; refine ⟨?_, ?_⟩ <;> first
    | (go_keep; done)
    | (rw [hc4 _ _ ?_]; (focus (go_keep; done)); (focus go_size))
    | (rw [hc6 _ _ ?_]; (focus (go_keep; done)); (focus omega))))
  (first
   | (go_at_call 55; with_reducible refine (itoa_any _ _ (by omega) (by omega) (T.out _ (by (repeat' (first | (with_reducible exact Below.refl _ _) | (with_reducible assumption) | (with_reducible refine Below.alloc ?_ ?_ _) | (with_reducible refine Below.drew ?_) | (with_reducible refine below_drewN ?_ _) | (with_reducible refine Below.setCell ?_ ?_ _) | go_size))))).mono ?_; rintro e v4 ⟨rfl, hw4⟩; obtain ⟨hc4, hf4⟩ := bcell hw4; have hw5 := below_ofdrew hw4)
   | (go_at_call 93; with_reducible refine (bwrite_any (w.heap.size + 1) (w.heap.size + 1) _ _ _ (isbld_below hB0 (by simpa using hw5)) (by simp; omega) (by have := hw5.size; omega)).mono ?_; rintro e v6 ⟨rfl, hbu, hw6, hkp⟩; have hc6 := bcellB hw6))
 have hw5' : Below v0.heap.size v0 v4 := by simpa using hw5
 have hB6 : Below w.heap.size w v6 := (hb0.trans (hw5'.mono (by omega))).trans (hw6.mono (by omega))
 have hs6 : w.heap.size + 2 ≤ v6.heap.size := by have := hw5'.size; have := hw6.size; omega
 have c26 : v6.cell? ⟨w.heap.size, 2, none⟩ = some (.slice (some ⟨g, o, none⟩) n cap) := by
  rw [hc6 _ _ (by omega), hc4 _ _ (by simp; omega)]
  simpa using c2
 have hb6 : Lib.IsBuilder 132 5 (w.heap.size + 1) (w.heap.size + 1) (Lib.byteCells (outL k d L 0)) v6 := by
  refine .inr ?_
  have e : ([] : List Value) ++ Lib.strCells (k ++ ⟨#[32]⟩ ++ ⟨(Lib.itoa d).toArray⟩) = Lib.byteCells (outL k d L 0) := by
   rw [List.nil_append, Lib.strCells_eq]
   simp [outL]
  rw [e] at hbu
  exact hbu
 clear hbu hw6 hc6 hc4 hf4 hw4 hw5 hw5' hB0 c0 c1 c2 hs0 hb0 e1 e2 z2
 go_wp2
 go_loopw [17] (fun i wr => ∃ j : Nat, i = .int .i64 j ∧ j ≤ n ∧ Lib.IsBuilder 132 5 (w.heap.size + 1) (w.heap.size + 1) (Lib.byteCells (outL k d L j)) wr ∧ Below w.heap.size w wr ∧ w.heap.size + 2 ≤ wr.heap.size) (fun i _ => n - (intOf i).toNat)
 case atStart => exact ⟨0, rfl, Nat.zero_le _, hb6, hB6, hs6⟩
 case round =>
  obtain ⟨j, rfl, hj, hbj, hBj, hsj⟩ := hrel
  by_cases hjn : j < n
  ·obtain ⟨⟨c, a⟩, hca⟩ : ∃ p, L[j]? = some p := ⟨_, List.getElem?_eq_getElem (by omega)⟩
   obtain ⟨⟨hc1, ha0, ha1⟩, m0, m1⟩ := hL j c a hca
   have l0 := (bcellB hBj _ (o + j * 2) hg).trans m0
   have l1 := (bcellB hBj _ (o + j * 2 + 1) hg).trans m1
   have i0 : (0 : Int) ≤ (j : Int) := by omega
   have i1 : (j : Int) < (n : Int) := by omega
   go_wp2
   have hx0 : Below w.heap.size w (wr.alloc (.cells #[.string c, .int .i64 a] 61)) := hBj.alloc (by omega) _
   have hbx : Lib.IsBuilder 132 5 (w.heap.size + 1) (w.heap.size + 1) (Lib.byteCells (outL k d L j)) (wr.alloc (.cells #[.string c, .int .i64 a] 61)) := isbld_below hbj ((Below.refl _ _).alloc (Nat.le_refl _) _)
   have d0 : (wr.alloc (.cells #[.string c, .int .i64 a] 61)).cell? ⟨wr.heap.size, 0, none⟩ = some (.string c) := by rw [World.cell?_alloc_at _ _ _ _ rfl]; rfl
   have d1 : (wr.alloc (.cells #[.string c, .int .i64 a] 61)).cell? ⟨wr.heap.size, 1, none⟩ = some (.int .i64 a) := by rw [World.cell?_alloc_at _ _ _ _ rfl]; rfl
   have dh : (wr.alloc (.cells #[.string c, .int .i64 a] 61)).heap[wr.heap.size]? = some (.cells #[.string c, .int .i64 a] 61 (0, 0)) := by unfold World.alloc; exact Array.getElem?_push_size
   have hsx : (wr.alloc (.cells #[.string c, .int .i64 a] 61)).heap.size = wr.heap.size + 1 := by simp
   generalize wr.alloc (.cells #[.string c, .int .i64 a] 61) = x0 at *
   have tJ : (Lib.itoa a).length ≤ 1000 := by have := itoa_len ha0 ha1; omega
   have q1 : ¬ 9223372036854775807 < 1 + c.size := by omega
   have q2 : ¬ 9223372036854775807 < 1 + c.size + 1 := by omega
   have q3 : ¬ 9223372036854775807 < 1 + c.size + 1 + (Lib.itoa a).length := by omega
   have z2 : (⟨(Lib.itoa a).toArray⟩ : ByteArray).size = (Lib.itoa a).length := by simp [ByteArray.size]
   have z3 : (⟨#[58]⟩ : ByteArray).size = 1 := rfl
   have hol := outL_len (k := k) (d := d) (L := L) (j := j) hk (by omega) (fun i c a h => (hL i c a h).1) (by omega)
   go_region_held3 (fun w' => w'.cell? ⟨wr.heap.size, 0, none⟩ = some (.string c) ∧ w'.cell? ⟨wr.heap.size, 1, none⟩ = some (.int .i64 a))
    (first
     | (go_keep; done)
     | (go_split_ands; refine ⟨?_, ?_⟩ <;> first
      | (go_keep; done)
      | (rw [hc4 _ _ ?_]; (focus (go_keep; done)); (focus go_size))
      | (rw [hc6]; go_keep; done)))
    (first
     | (go_at_call 55; with_reducible refine (itoa_any _ _ (by omega) (by omega) (T.out _ (by (repeat' (first | (with_reducible exact Below.refl _ _) | (with_reducible assumption) | (with_reducible refine Below.alloc ?_ ?_ _) | (with_reducible refine Below.drew ?_) | (with_reducible refine below_drewN ?_ _) | (with_reducible refine Below.setCell ?_ ?_ _) | go_size))))).mono ?_; rintro e v4 ⟨rfl, hw4⟩; obtain ⟨hc4, hf4⟩ := bcell hw4; have hw5 := below_ofdrew hw4; have dh4 : v4.heap[wr.heap.size]? = some (.cells #[.string c, .int .i64 a] 61 (0, 0)) := (hw5.block _ (by simp; omega)).trans dh)
     | (go_at_call 93; with_reducible refine (bwrite_any (w.heap.size + 1) (w.heap.size + 1) _ _ _ (isbld_below hbx (by simpa using hw5)) (by simp only [Lib.byteCells_length, ByteArray.size_append]; omega) (by have := hw5.size; omega)).mono ?_; rintro e v6 ⟨rfl, hbu, hw6, hkp⟩; have hc6 := keep_cell hkp (show wr.heap.size ≠ w.heap.size + 1 by omega) (by decide) dh4))
   have hw5' : Below x0.heap.size x0 v4 := by simpa using hw5
   have hB7 : Below w.heap.size w v6 := (hx0.trans (hw5'.mono (by omega))).trans (hw6.mono (by omega))
   have hs7 : w.heap.size + 2 ≤ v6.heap.size := by have := hw5'.size; have := hw6.size; omega
   have hb7 : Lib.IsBuilder 132 5 (w.heap.size + 1) (w.heap.size + 1) (Lib.byteCells (outL k d L (j + 1))) v6 := by
    refine .inr ?_
    have e : Lib.byteCells (outL k d L j) ++ Lib.strCells (⟨#[32]⟩ ++ c ++ ⟨#[58]⟩ ++ ⟨(Lib.itoa a).toArray⟩) = Lib.byteCells (outL k d L (j + 1)) := by
     rw [Lib.strCells_eq, ← Lib.byteCells_append, outL_succ hca]
     simp [pieceL]
    rw [e] at hbu
    exact hbu
   clear hbu hw6 hc6 hc4 hf4 hw4 hw5 hw5' hbx d0 d1 dh dh4 hkp hx0
   go_wp2
   go_roundw
   case rel => exact ⟨j + 1, by simp, hjn, hb7, hB7, hs7⟩
   case measure => simp [intOf]; omega
  ·have hjn' : j = n := by omega
   subst hjn'
   go_wp2_with (go_at_call 94; refine (bstring_any (w.heap.size + 1) (w.heap.size + 1) _ _ hbj (by omega)).mono ?_; rintro e v8 ⟨rfl, hw8⟩)
   go_ret
   exact ⟨rfl, hBj.trans (hw8.mono (by omega))⟩
end Go.Proofs.YtdmkmbaaemhhhaaGreatDoor
