/-
  Steps of the proof of LogReplays: EntrySaysW BkP BkE BkF.
-/
import Derived.Test.YtdmkmbaaemhhhaaGreatDoorP17
import Derived.Test.YtdmkmbaaemhhhaaGreatDoorP04
set_option linter.unusedVariables false
set_option linter.unusedSimpArgs false
section
namespace Go.Proofs.YtdmkmbaaemhhhaaGreatDoor
open Go Go.Ev Go.RowKit Go.Acc
theorem tyC_strs {P : Program} {m : Nat} {t : TypeId} {c : V} (h : TyC P (m + 1) t [c]) (hu : P.underlying t = some .string) : ∃ s, c = .str s ∧ s.size ≤ maxLen := by
 unfold TyC at h
 rw [hu] at h
 obtain ⟨n, h1, h2⟩ := h
 exact ⟨n, by simpa using h1, h2⟩
theorem tyC_ints {P : Program} {m : Nat} {t : TypeId} {c : V} {k : IntKind} (h : TyC P (m + 1) t [c]) (hu : P.underlying t = some (.int k)) : ∃ n, c = .int k n := by
 unfold TyC at h
 rw [hu] at h
 obtain ⟨n, h1, h2⟩ := h
 exact ⟨n, by simpa using h1⟩
theorem tyC_slices {P : Program} {m : Nat} {t e : TypeId} {c : V} (h : TyC P (m + 1) t [c]) (hu : P.underlying t = some (.slice e)) : ∃ es, c = .row (P.cellsOf e) es ∧ es.length ≤ maxLen ∧ ∀ x ∈ es, TyV P m e x := by
 unfold TyC at h
 rw [hu] at h
 obtain ⟨es, h1, h2, h3⟩ := h
 exact ⟨es, by simpa using h1, h2, h3⟩
set_option maxRecDepth 100000 in
theorem ty_line {m : Nat} {c : V} (h : TyV Tryz.prog (m + 2) 61 c) : ∃ p, c = acV p ∧ True := by
 obtain ⟨cs, rfl, hl, hf⟩ := ty_struct h Tryz.underlying61
 have hc : Tryz.prog.cellsOf 61 = 2 := by kernel_rfl
 rw [hc] at hl
 match cs, hl, hf with
 | [a, b], _, hf =>
  have h0 := hf _ (by simp only [List.mem_toArray]; exact List.mem_cons_self)
  have h1 := hf _ (by simp only [List.mem_toArray]; exact List.mem_cons_of_mem _ List.mem_cons_self)
  have c0 : Tryz.prog.cellsOf 9 = 1 := by kernel_rfl
  have c1 : Tryz.prog.cellsOf 3 = 1 := by kernel_rfl
  simp only [c0, c1, List.drop_zero, List.take_succ_cons, List.take_zero, List.drop_succ_cons] at h0 h1
  obtain ⟨s, rfl, _⟩ := tyC_strs h0 Tryz.underlying9
  obtain ⟨n, rfl⟩ := tyC_ints h1 Tryz.underlying3
  exact ⟨(s, n), rfl, trivial⟩
set_option maxRecDepth 100000 in
theorem ty_entry {m : Nat} {c : V} (h : TyV Tryz.prog (m + 4) 28 c) : ∃ (k : ByteArray) (d : Int) (l : List (ByteArray × Int)), c = enV k d (.row 2 (l.map acV)) ∧ k.size ≤ maxLen ∧ l.length ≤ maxLen := by
 obtain ⟨cs, rfl, hl, hf⟩ := ty_struct h Tryz.underlying28
 have hc : Tryz.prog.cellsOf 28 = 3 := by kernel_rfl
 rw [hc] at hl
 match cs, hl, hf with
 | [a, b, d], _, hf =>
  have h0 := hf _ (by simp only [List.mem_toArray]; exact List.mem_cons_self)
  have h1 := hf _ (by simp only [List.mem_toArray]; exact List.mem_cons_of_mem _ List.mem_cons_self)
  have h2 := hf _ (by simp only [List.mem_toArray]; exact List.mem_cons_of_mem _ (List.mem_cons_of_mem _ List.mem_cons_self))
  have c0 : Tryz.prog.cellsOf 9 = 1 := by kernel_rfl
  have c1 : Tryz.prog.cellsOf 3 = 1 := by kernel_rfl
  have c2 : Tryz.prog.cellsOf 26 = 1 := by kernel_rfl
  have c3 : Tryz.prog.cellsOf 61 = 2 := by kernel_rfl
  simp only [c0, c1, c2, List.drop_zero, List.take_succ_cons, List.take_zero, List.drop_succ_cons] at h0 h1 h2
  obtain ⟨s, rfl, hs⟩ := tyC_strs h0 Tryz.underlying9
  obtain ⟨n, rfl⟩ := tyC_ints h1 Tryz.underlying3
  obtain ⟨es, rfl, he, hes⟩ := tyC_slices h2 Tryz.underlying26
  obtain ⟨l, rfl, _⟩ := map_of_all (f := acV) (p := fun _ => True) fun x hx => ty_line (m := m) (hes x hx)
  rw [c3]
  exact ⟨s, n, l, rfl, hs, by simpa using he⟩
end Go.Proofs.YtdmkmbaaemhhhaaGreatDoor
end
section
namespace Go.Acc
open Go
abbrev En := ByteArray × Int × List (ByteArray × Int)
def enX (x : En) : Int := enE x.1 x.2.1 x.2.2
def hasA (A : List (ByteArray × Int)) (c : ByteArray) : Bool := A.any (isC c)
def knownB (A : List (ByteArray × Int)) (x : En) : Bool := x.2.2.all fun l => hasA A l.1
def ltB (x y : En) : Bool := decide (x.2.1 < y.2.1) || (decide (x.2.1 = y.2.1) && Op.bytesLess x.1.toList y.1.toList)
def cmpE (x y : En) : Int := if x.2.1 = y.2.1 then Lib.compareBytes x.1.data.toList y.1.data.toList else x.2.1 - y.2.1
theorem cmpL_less : ∀ a b : List UInt8, (0 ≤ Lib.compareBytes a b) ↔ Op.bytesLess a b = false
 | [], [] => by simp [Lib.compareBytes, Op.bytesLess]
 | [], y :: ys => by simp [Lib.compareBytes, Op.bytesLess]
 | x :: xs, [] => by simp [Lib.compareBytes, Op.bytesLess]
 | x :: xs, y :: ys => by
  have ih := cmpL_less xs ys
  unfold Lib.compareBytes Op.bytesLess
  by_cases h1 : x < y
  ·rw [if_pos h1, decide_eq_true h1]; simp
  ·rw [if_neg h1, decide_eq_false h1, Bool.false_or]
   by_cases h2 : y < x
   ·have e : (x == y) = false := by
     rw [beq_eq_false_iff_ne]
     intro e; subst e; exact h1 h2
    rw [if_pos h2, e]; simp
   ·have e : x = y := by
     rw [UInt8.lt_iff_toNat_lt] at h1 h2
     exact UInt8.toNat_inj.1 (by omega)
    subst e
    rw [if_neg h2, ih, beq_self_eq_true, Bool.true_and]
theorem cmpE_ge (x y : En) : (0 ≤ cmpE x y) ↔ ltB x y = false := by
 unfold cmpE ltB
 by_cases h : x.2.1 = y.2.1
 ·rw [if_pos h, decide_eq_true h, decide_eq_false (by omega : ¬ x.2.1 < y.2.1), cmpL_less, Bool.false_or, Bool.true_and, ByteArray.toList_eq, ByteArray.toList_eq]
 ·rw [if_neg h, decide_eq_false h, Bool.false_and, Bool.or_false, decide_eq_false_iff_not]
  omega
def prvE (E : List En) (k : Nat) : Option En := if k = 0 then none else E[k - 1]?
def keysTo (E : List En) (k : Nat) : List ByteArray := (E.take k).map (·.1)
def badO (p : Option En) (x : En) : Bool := match p with
 | some y => !ltB y x
 | none => false
def bkE (A : List (ByteArray × Int)) (ks : List ByteArray) (p : Option En) : List En → Int
 | [] => 0
 | x :: r => if enX x ≠ 0 then enX x else if knownB A x = false then 4 else if hasC x.1 ks = true then 5 else if badO p x = true then 3 else bkE A (ks ++ [x.1]) (some x) r
theorem keysTo_succ {E : List En} {k : Nat} {x : En} (h : E[k]? = some x) : keysTo E (k + 1) = keysTo E k ++ [x.1] := by
 have hlt : k < E.length := (List.getElem?_eq_some_iff.1 h).1
 have he : E[k] = x := (List.getElem?_eq_some_iff.1 h).2
 unfold keysTo
 rw [List.take_succ_eq_append_getElem hlt, he, List.map_append]
 rfl
theorem bkE_drop {A : List (ByteArray × Int)} {E : List En} {k : Nat} {x : En} (h : E[k]? = some x) :
  bkE A (keysTo E k) (prvE E k) (E.drop k) = if enX x ≠ 0 then enX x else if knownB A x = false then 4 else if hasC x.1 (keysTo E k) = true then 5 else if badO (prvE E k) x = true then 3 else bkE A (keysTo E (k + 1)) (prvE E (k + 1)) (E.drop (k + 1)) := by
 have hlt : k < E.length := (List.getElem?_eq_some_iff.1 h).1
 have he : E[k] = x := (List.getElem?_eq_some_iff.1 h).2
 have hp : prvE E (k + 1) = some x := by unfold prvE; rw [if_neg (by omega), Nat.add_sub_cancel, h]
 rw [List.drop_eq_getElem_cons hlt, he, hp, keysTo_succ h]
 rfl
def bkChk (A : List (ByteArray × Int)) (E : List En) (s : Int) : Int := if acChk A ≠ 0 then acChk A else if ¬ (-1 ≤ s ∧ s ≤ 292193) then 1 else if 60 < E.length then 2 else bkE A [] none E
theorem bkE_ok : ∀ (E : List En) {A : List (ByteArray × Int)} {ks : List ByteArray} {p : Option En}, bkE A ks p E = 0 → ∀ x ∈ E, enX x = 0 ∧ knownB A x = true
 | [], _, _, _, _ => by simp
 | x :: r, A, ks, p, h => by
  unfold bkE at h
  by_cases h1 : enX x = 0
  ·rw [if_neg (fun hh => hh h1)] at h
   cases h2 : knownB A x with
   | false => rw [if_pos h2] at h; omega
   | true =>
    rw [if_neg (by rw [h2]; simp)] at h
    by_cases h3 : hasC x.1 ks = true
    ·rw [if_pos h3] at h; omega
    rw [if_neg h3] at h
    by_cases h4 : badO p x = true
    ·rw [if_pos h4] at h; omega
    ·rw [if_neg h4] at h
     intro y hy
     rcases List.mem_cons.1 hy with rfl | hy
     ·exact ⟨h1, h2⟩
     ·exact bkE_ok r h y hy
  ·rw [if_pos h1] at h; exact absurd h h1
theorem bkChk_ok {A : List (ByteArray × Int)} {E : List En} {s : Int} (h : bkChk A E s = 0) : acChk A = 0 ∧ (-1 ≤ s ∧ s ≤ 292193) ∧ E.length ≤ 60 ∧ ∀ x ∈ E, enX x = 0 ∧ knownB A x = true := by
 unfold bkChk at h
 by_cases h1 : acChk A = 0
 ·rw [if_neg (fun hh => hh h1)] at h
  by_cases h2 : -1 ≤ s ∧ s ≤ 292193
  ·rw [if_neg (fun hh => hh h2)] at h
   by_cases h3 : 60 < E.length
   ·rw [if_pos h3] at h; omega
   ·rw [if_neg h3] at h
    exact ⟨h1, h2, by omega, bkE_ok E h⟩
  ·rw [if_pos h2] at h; omega
 ·rw [if_pos h1] at h; exact absurd h h1
theorem enX_ok {x : En} (h : enX x = 0) : (0 ≤ x.2.1 ∧ x.2.1 ≤ 292193) ∧ x.2.2.length ≤ 12 ∧ ∀ l ∈ x.2.2, -1000000000000 ≤ l.2 ∧ l.2 ≤ 1000000000000 := by
 have h0 := lnChk_ok (enE_ok h)
 refine ⟨?_, h0.2.1, h0.2.2⟩
 unfold enX enE at h
 by_cases h1 : keyOk' x.1 = false
 ·rw [if_pos h1] at h; omega
 rw [if_neg h1] at h
 by_cases h2 : ¬ (0 ≤ x.2.1 ∧ x.2.1 ≤ 292193)
 ·rw [if_pos h2] at h; omega
 ·exact Decidable.not_not.1 h2
/-! ### what an account has -/
theorem sum_bd {α : Type} (g : α → Int) (M : Int) (hM : 0 ≤ M) : ∀ l : List α, (∀ x ∈ l, -M ≤ g x ∧ g x ≤ M) → -(l.length * M) ≤ (l.map g).sum ∧ (l.map g).sum ≤ l.length * M
 | [], _ => by simp
 | x :: l, h => by
  have h1 := h x (by simp)
  have h2 := sum_bd g M hM l fun y hy => h y (by simp [hy])
  simp only [List.map_cons, List.sum_cons, List.length_cons]
  have e : (((l.length + 1 : Nat)) : Int) * M = l.length * M + M := by rw [Int.natCast_add, Int.add_mul]; simp
  rw [e]
  omega
end Go.Acc
end
section
namespace Go.Proofs.YtdmkmbaaemhhhaaGreatDoor
open Go Go.Ev Go.RowKit Go.Acc
set_option maxHeartbeats 4000000
def enW (x : En) : V := .agg [.str x.1, .int .i64 x.2.1, .row 2 (x.2.2.map acV)]
def bkV (A : List (ByteArray × Int)) (E : List En) (s : Int) : V := .agg [.row 2 (A.map acV), .row 3 (E.map enW), .int .i64 s]
theorem enW_get {E : List En} {k : Nat} {c : ByteArray} {d : Int} {l : List (ByteArray × Int)} (h : E[k]? = some (c, d, l)) : (E.map enW)[k]? = some (.agg [.str c, .int .i64 d, .row 2 (l.map acV)]) := by rw [List.getElem?_map, h]; rfl
def stcF : List V → Option (V × List Ev.Blk)
 | [.str a, .str b] => some (.int .i64 (Lib.compareBytes a.data.toList b.data.toList), [])
 | _ => none
theorem stcF_eq (a b : ByteArray) : stcF [.str a, .str b] = some (.int .i64 (Lib.compareBytes a.data.toList b.data.toList), []) := rfl
theorem stc_snd {J : World → Prop} : Snd Tryz.prog J 82 stcF := by
 intro args r bs h
 unfold stcF at h
 split at h
 ·rename_i a b
  obtain ⟨rfl, rfl⟩ := some_pair h
  exact sound_plain (callOk Tryz.func82 rfl rfl) rfl rfl fun w _ => (show Calls Tryz.prog 82 _ w _ from Any.strings_Compare Tryz.lays106 a b w).mono (by rintro e w' ⟨rfl, rfl⟩; exact ⟨rfl, .refl _ _⟩)
 ·cases h
def cmpF : List V → Option (V × List Ev.Blk)
 | [.agg [.str a, .int .i64 d, .row 2 l], .agg [.str b, .int .i64 e, .row 2 m]] => if (0 ≤ d ∧ d ≤ 292193) ∧ 0 ≤ e ∧ e ≤ 292193 then some (.int .i64 (cmpE (a, d, []) (b, e, [])), []) else none
 | _ => none
theorem cmpF_eq {a b : ByteArray} {d e : Int} {l m : List (ByteArray × Int)} (hd : 0 ≤ d ∧ d ≤ 292193) (he : 0 ≤ e ∧ e ≤ 292193) : cmpF [.agg [.str a, .int .i64 d, .row 2 (l.map acV)], .agg [.str b, .int .i64 e, .row 2 (m.map acV)]] = some (.int .i64 (cmpE (a, d, l) (b, e, m)), []) := by
 simp only [cmpF]
 exact if_pos ⟨hd, he⟩
theorem cmp_snd {J : World → Prop} (hJ : Stable J) : Snd Tryz.prog J 36 cmpF := by
 intro args r bs h
 unfold cmpF at h
 split at h
 ·rename_i a d l b e m
  split at h
  ·rename_i hc
   obtain ⟨rfl, rfl⟩ := some_pair h
   refine evFn (l := [(82, stcF)]) (nv := nv0) (fz := fz0) (dr := dr36) (dd := dd36) (lam := []) (ms := ms0) ⟨stc_snd, trivial⟩ hJ trivial ms0_ok Tryz.func36 rfl rfl (Nat.le_of_ble_eq_true rfl) (Nat.le_of_ble_eq_true rfl) drOk36 ?_
   dsimp only [Tryz.f36, dr36, dd36, Option.getD_some]
   refine ev_start ?_
   by_cases hde : d = e
   ·have e1 : cmpE (a, d, []) (b, e, []) = Lib.compareBytes a.data.toList b.data.toList := if_pos hde
    rw [e1]
    simp (disch := omega) only [stcF_eq, hde, go_sem, evP_D, evD_guard, evD_cons, evD_zero, evD_nil]
   ·have e1 : cmpE (a, d, []) (b, e, []) = d - e := if_neg hde
    rw [e1]
    simp (disch := omega) only [hde, go_sem, evP_D, evD_guard, evD_cons, evD_zero, evD_nil]
  ·cases h
 ·cases h
def findF : List V → Option (V × List Ev.Blk)
 | [.row 2 es, .str c] => (unAc es).map fun A => (.int .i64 (fidx c A), [])
 | _ => none
theorem findF_eq (A : List (ByteArray × Int)) (c : ByteArray) : findF [.row 2 (A.map acV), .str c] = some (.int .i64 (fidx c A), []) := by simp only [findF, unAc_map, Option.map_some]
theorem fidx_neg (c : ByteArray) (A : List (ByteArray × Int)) : decide (fidx c A < 0) = !(hasA A c) := by
 unfold fidx hasA
 cases h : A.any (isC c) with
 | true => rw [if_pos rfl]; simp
 | false => rw [if_neg (by simp)]; rfl
theorem find_snd {J : World → Prop} (hJ : Stable J) : Snd Tryz.prog J 81 findF := by
 intro args r bs h
 unfold findF at h
 split at h
 ·rename_i es c
  simp only [Option.map_eq_some_iff] at h
  obtain ⟨A, hA, h⟩ := h
  obtain ⟨rfl, rfl⟩ := some_pair (congrArg some h)
  rw [unAc_eq hA]
  exact find_sound hJ A c
 ·cases h
def kn1F : List V → Option (V × List Ev.Blk)
 | [.agg [.str c, .int .i64 n], .rd (.agg [.row 2 es, .row 3 xs, .int .i64 s]) 0] => (unAc es).map fun A => (.bool (!(hasA A c)), [])
 | _ => none
theorem kn1_snd {J : World → Prop} (hJ : Stable J) : Snd Tryz.prog J 80 kn1F := by
 intro args r bs h
 unfold kn1F at h
 split at h
 ·rename_i c n es xs s
  simp only [Option.map_eq_some_iff] at h
  obtain ⟨A, hA, h⟩ := h
  obtain ⟨rfl, rfl⟩ := some_pair (congrArg some h)
  rw [unAc_eq hA]
  refine evFn (l := [(81, findF)]) (nv := nv0) (fz := fz0) (dr := dr80) (dd := dd80) (lam := []) (ms := ms0) ⟨find_snd hJ, trivial⟩ hJ trivial ms0_ok Tryz.func80 rfl rfl (Nat.le_of_ble_eq_true rfl) (Nat.le_of_ble_eq_true rfl) drOk80 ?_
  dsimp only [Tryz.f80, dr80, dd80, Option.getD_some]
  refine ev_start ?_
  simp (disch := omega) only [findF_eq, fidx_neg, go_sem, evP_D, evD_guard, evD_cons, evD_zero, evD_nil]
 ·cases h
def knownF : List V → Option (V × List Ev.Blk)
 | [.agg [.row 2 es, .row 3 xs, .int .i64 s], .agg [.str k, .int .i64 d, .row 2 ls]] => match unAc es, unAc ls with
  | some A, some l => some (.bool (knownB A (k, d, l)), [])
  | _, _ => none
 | _ => none
theorem knownF_eq (A : List (ByteArray × Int)) (xs : List V) (s : Int) (k : ByteArray) (d : Int) (l : List (ByteArray × Int)) : knownF [.agg [.row 2 (A.map acV), .row 3 xs, .int .i64 s], .agg [.str k, .int .i64 d, .row 2 (l.map acV)]] = some (.bool (knownB A (k, d, l)), []) := by simp only [knownF, unAc_map]
theorem known_snd {J : World → Prop} (hJ : Stable J) : Snd Tryz.prog J 33 knownF := by
 intro args r bs h
 unfold knownF at h
 split at h
 ·rename_i es xs s k d ls
  split at h
  ·rename_i A l hA hl
   obtain ⟨rfl, rfl⟩ := some_pair h
   rw [unAc_eq hA, unAc_eq hl]
   have hC := containsL_sound hJ 80 [.rd (.agg [.row 2 (A.map acV), .row 3 xs, .int .i64 s]) 0] kn1F (kn1_snd hJ) rfl (fun p => !(hasA A p.1)) l fun p _ => by simp only [kn1F, acV, unAc_map, Option.map_some]
   have hB : knownB A (k, d, l) = !(l.any fun p => !(hasA A p.1)) := by
    unfold knownB
    rw [List.not_any_eq_all_not]
    simp
   rw [hB]
   refine evFn (l := [(79, at1 [.row 2 (l.map acV), .fn 80 [.rd (.agg [.row 2 (A.map acV), .row 3 xs, .int .i64 s]) 0]] (.bool (l.any fun p => !(hasA A p.1)), []))]) (nv := nv0) (fz := fz0) (dr := dr33) (dd := dd33) (lam := []) (ms := ms0) ⟨at1_snd hC, trivial⟩ hJ trivial ms0_ok Tryz.func33 rfl rfl (Nat.le_of_ble_eq_true rfl) (Nat.le_of_ble_eq_true rfl) drOk33 ?_
   dsimp only [Tryz.f33, dr33, dd33, Option.getD_some]
   refine ev_start ?_
   simp (disch := omega) only [at1_eq, List.mapM_cons, List.mapM_nil, Option.bind_eq_bind, Option.pure_def, Option.bind_some, go_sem, evP_D, evD_guard, evD_cons, evD_zero, evD_nil]
  ·cases h
 ·cases h
end Go.Proofs.YtdmkmbaaemhhhaaGreatDoor
end
section
namespace Go.Proofs.YtdmkmbaaemhhhaaGreatDoor
open Go Go.Ev Go.RowKit Go.Acc
set_option maxHeartbeats 4000000
set_option maxHeartbeats 4000000 in
theorem bcheck_sound {J : World → Prop} (hJ : Stable J) (A : List (ByteArray × Int)) (E : List En) (s : Int) (hE : E.length ≤ maxLen) : SoundAt Tryz.prog J 11 [bkV A E s] (.int .i64 (bkChk A E s)) [] := by
 have hlen : (E.length : Int) ≤ 9223372036854775807 := by unfold maxLen at hE; omega
 unfold bkV
 refine evFn (l := [(41, chkF), (29, echeckF), (33, knownF), (36, cmpF)]) (nv := nv0) (fz := fz0) (dr := dr11) (dd := dd11) (lam := []) (ms := ms0) ⟨check_snd hJ, echeck_snd hJ, known_snd hJ, cmp_snd hJ, trivial⟩ hJ trivial ms0_ok Tryz.func11 rfl rfl (Nat.le_of_ble_eq_true rfl) (Nat.le_of_ble_eq_true rfl) drOk11 ?_
 dsimp only [Tryz.f11, dr11, dd11, Option.getD_some]
 refine ev_start ?_
 by_cases ha : acChk A = 0
 case neg =>
  have e : bkChk A E s = acChk A := by unfold bkChk; rw [if_pos ha]
  simp (disch := omega) only [chkF_eq, ha, e, go_sem, evP_D, evD_guard, evD_cons, evD_zero, evD_nil]
 by_cases h1 : s < -1
 ·have e : bkChk A E s = 1 := by unfold bkChk; rw [if_neg (fun h => h ha), if_pos (by omega)]
  simp (disch := omega) only [chkF_eq, ha, h1, e, go_sem, evP_D, evD_guard, evD_cons, evD_zero, evD_nil]
 by_cases h2 : 292193 < s
 ·have e : bkChk A E s = 1 := by unfold bkChk; rw [if_neg (fun h => h ha), if_pos (by omega)]
  simp (disch := omega) only [chkF_eq, ha, h1, h2, e, go_sem, evP_D, evD_guard, evD_cons, evD_zero, evD_nil]
 by_cases h3 : 60 < E.length
 ·have h3' : (60 : Int) < E.length := by omega
  have e : bkChk A E s = 2 := by unfold bkChk; rw [if_neg (fun h => h ha), if_neg (fun h => h (by omega)), if_pos h3]
  simp (disch := omega) only [chkF_eq, List.length_map, ha, h1, h2, h3', e, go_sem, evP_D, evD_guard, evD_cons, evD_zero, evD_nil]
 have h3' : ¬ (60 : Int) < E.length := by omega
 obtain ⟨R, hR⟩ : ∃ R, R = bkE A [] none E := ⟨_, rfl⟩
 have e : bkChk A E s = R := by unfold bkChk; rw [if_neg (fun h => h ha), if_neg (fun h => h (by omega)), if_neg h3, hR]
 rw [e]
 simp (disch := omega) only [chkF_eq, List.length_map, ha, h1, h2, h3', go_sem, evP_D, evD_guard, evD_cons, evD_zero, evD_nil]
 refine evQ_loop [1, 4, 28, 29, 30] [8, 208] (fun σ => ∃ (k : Nat), (k ≤ E.length ∧ R = bkE A (keysTo E k) (prvE E k) (E.drop k) ∧ ∀ y, prvE E k = some y → 0 ≤ y.2.1 ∧ y.2.1 ≤ 292193) ∧ σ = ⟨[(1, .ptr 8 0), (4, .vec 208), (28, .row 3 (E.map enW)), (29, .int .i64 E.length), (30, .int .i64 k)], [(8, .box (.agg [.row 2 (A.map acV), .row 3 (E.map enW), .int .i64 s])), (208, .map (setV (keysTo E k)))]⟩)
  (fun σ => E.length - (match Ev.look 30 σ.env with | some (.int _ n) => n.toNat | _ => 0)) ?_ ?_
 ·simp only [go_sem, evP_D, evD_guard, evD_cons, evD_zero, evD_nil]
  exact ⟨0, ⟨Nat.zero_le _, hR, fun y hy => by cases hy⟩, rfl⟩
 ·rintro σ ⟨k, ⟨hkl, hall, hpd⟩, rfl⟩
  by_cases hlt : k < E.length
  ·have hlt' : (k : Int) < E.length := by omega
   obtain ⟨⟨c, d, l⟩, hcn⟩ : ∃ p, E[k]? = some p := ⟨_, List.getElem?_eq_getElem hlt⟩
   have hg := enW_get hcn
   have hks := keysTo_succ hcn
   have hpn : prvE E (k + 1) = some (c, d, l) := by unfold prvE; rw [if_neg (by omega), Nat.add_sub_cancel, hcn]
   rw [bkE_drop hcn] at hall
   have hms : E.length - ((k : Int) + 1).toNat < E.length - (k : Int).toNat := by
    have e3 : ((k : Int) + 1).toNat = k + 1 := by omega
    rw [e3, Int.toNat_natCast]; exact Nat.sub_lt_sub_left hlt (Nat.lt_succ_self k)
   have hx0 : enX (c, d, l) = enE c d l := rfl
   rw [hx0] at hall
   by_cases hz : enE c d l = 0
   case neg =>
    rw [if_pos hz] at hall
    rw [hall]
    simp (disch := (first | omega | assumption)) only [hlt', idx_nat, List.length_map, hg, echeckF_eq, hz, go_sem, evP_D, evD_guard, evD_cons, evD_zero, evD_nil]
   rw [if_neg (fun h => h hz)] at hall
   cases hkn : knownB A (c, d, l) with
   | false =>
    rw [if_pos hkn] at hall
    rw [hall]
    simp (disch := (first | omega | assumption)) only [hlt', idx_nat, List.length_map, hg, echeckF_eq, knownF_eq, hz, hkn, go_sem, evP_D, evD_guard, evD_cons, evD_zero, evD_nil]
   | true =>
    rw [if_neg (by rw [hkn]; simp)] at hall
    have hfi := find_set c (keysTo E k)
    cases hcs : hasC c (keysTo E k) with
    | true =>
     rw [hcs, if_pos rfl] at hfi
     rw [if_pos hcs] at hall
     rw [hall]
     simp (disch := (first | omega | assumption)) only [hlt', idx_nat, List.length_map, hg, echeckF_eq, knownF_eq, hz, hkn, hfi, go_sem, evP_D, evD_guard, evD_cons, evD_zero, evD_nil]
    | false =>
     rw [hcs, if_neg (by simp)] at hfi
     rw [if_neg (by rw [hcs]; simp)] at hall
     have hup := upd_set c (keysTo E k) hcs
     rw [← hks] at hup
     have hd := (enX_ok (x := (c, d, l)) hz).1
     simp only at hd
     by_cases hk0 : k = 0
     ·subst hk0
      have hp : prvE E 0 = none := rfl
      rw [hp] at hall
      have h0 : ¬ (0 : Int) < ((0 : Nat) : Int) := by omega
      have z0 : ((0 : Nat) : Int) = 0 := rfl
      have hi0 := idx_nat E.length 0 hlt
      rw [z0] at hlt' h0 hi0 hms ⊢
      simp (disch := (first | omega | assumption)) only [hlt', hi0, List.length_map, hg, echeckF_eq, knownF_eq, hz, hkn, hfi, hup, h0, go_sem, evP_D, evD_guard, evD_cons, evD_zero, evD_nil]
      exact ⟨⟨1, ⟨hlt, by rw [if_neg (by simp [badO])] at hall; exact hall, fun y hy => by rw [hpn] at hy; cases hy; exact hd⟩, rfl⟩, hms⟩
     ·have h0 : (0 : Int) < k := by omega
      have hk1 : k - 1 < E.length := by omega
      obtain ⟨⟨c', d', l'⟩, hcn'⟩ : ∃ p, E[k - 1]? = some p := ⟨_, List.getElem?_eq_getElem hk1⟩
      have hg' := enW_get hcn'
      have hp : prvE E k = some (c', d', l') := by unfold prvE; rw [if_neg hk0, hcn']
      have hd' := hpd _ hp
      simp only at hd'
      rw [hp] at hall
      have e1 : (k : Int) - 1 = ((k - 1 : Nat) : Int) := by omega
      have hcm := cmpF_eq (a := c') (b := c) (l := l') (m := l) hd' hd
      have hge := cmpE_ge (c', d', l') (c, d, l)
      cases hb : ltB (c', d', l') (c, d, l) with
      | false =>
       have hge' : 0 ≤ cmpE (c', d', l') (c, d, l) := hge.2 hb
       rw [if_pos (by simp [badO, hb])] at hall
       rw [hall]
       simp (disch := (first | omega | assumption)) only [hlt', idx_nat, List.length_map, hg, hg', echeckF_eq, knownF_eq, hz, hkn, hfi, hup, h0, e1, hcm, hge', go_sem, evP_D, evD_guard, evD_cons, evD_zero, evD_nil]
      | true =>
       have hge' : ¬ 0 ≤ cmpE (c', d', l') (c, d, l) := fun h => by rw [hge.1 h] at hb; cases hb
       rw [if_neg (by simp [badO, hb])] at hall
       simp (disch := (first | omega | assumption)) only [hlt', idx_nat, List.length_map, hg, hg', echeckF_eq, knownF_eq, hz, hkn, hfi, hup, h0, e1, hcm, hge', go_sem, evP_D, evD_guard, evD_cons, evD_zero, evD_nil]
       exact ⟨⟨k + 1, ⟨hlt, hall, fun y hy => by rw [hpn] at hy; cases hy; exact hd⟩, rfl⟩, hms⟩
  ·have hk' : k = E.length := by omega
   subst hk'
   have hlt' : ¬ ((E.length : Int) < E.length) := by omega
   have e0 : R = 0 := by rw [hall, List.drop_length]; rfl
   simp (disch := (first | omega | assumption)) only [hlt', e0, go_sem, evP_D, evD_guard, evD_cons, evD_zero, evD_nil]
end Go.Proofs.YtdmkmbaaemhhhaaGreatDoor
end
