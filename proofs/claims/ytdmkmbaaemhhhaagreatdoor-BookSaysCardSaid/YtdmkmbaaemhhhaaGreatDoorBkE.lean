/-
  Books, run by the machine: the order of entries, known accounts, Check.
-/
import Derived.Test.YtdmkmbaaemhhhaaGreatDoorShM
import Derived.Test.YtdmkmbaaemhhhaaGreatDoorBkP
namespace Go.Proofs.YtdmkmbaaemhhhaaGreatDoor
open Go Go.Ev Go.RowKit Go.Acc
set_option maxHeartbeats 4000000
set_option linter.unusedSimpArgs false
set_option linter.unusedVariables false

def enW (x : En) : V := .agg [.str x.1, .int .i64 x.2.1, .row 2 (x.2.2.map acV)]
def bkV (A : List (ByteArray × Int)) (E : List En) (s : Int) : V := .agg [.row 2 (A.map acV), .row 3 (E.map enW), .int .i64 s]
theorem enW_get {E : List En} {k : Nat} {c : ByteArray} {d : Int} {l : List (ByteArray × Int)} (h : E[k]? = some (c, d, l)) : (E.map enW)[k]? = some (.agg [.str c, .int .i64 d, .row 2 (l.map acV)]) := by rw [List.getElem?_map, h]; rfl
def stcF : List V → Option (V × List Blk)
  | [.str a, .str b] => some (.int .i64 (Lib.compareBytes a.data.toList b.data.toList), [])
  | _ => none
theorem stcF_eq (a b : ByteArray) : stcF [.str a, .str b] = some (.int .i64 (Lib.compareBytes a.data.toList b.data.toList), []) := rfl
theorem stc_snd {J : World → Prop} : Snd Tryz.prog J 82 stcF := by
  intro args r bs h
  unfold stcF at h
  split at h
  · rename_i a b
    obtain ⟨rfl, rfl⟩ := some_pair h
    exact sound_plain (callOk Tryz.func82 rfl rfl) rfl rfl fun w _ => (show Calls Tryz.prog 82 _ w _ from Any.strings_Compare Tryz.lays106 a b w).mono (by rintro e w' ⟨rfl, rfl⟩; exact ⟨rfl, .refl _ _⟩)
  · cases h
def cmpF : List V → Option (V × List Blk)
  | [.agg [.str a, .int .i64 d, .row 2 l], .agg [.str b, .int .i64 e, .row 2 m]] => if (0 ≤ d ∧ d ≤ 292193) ∧ 0 ≤ e ∧ e ≤ 292193 then some (.int .i64 (cmpE (a, d, []) (b, e, [])), []) else none
  | _ => none
theorem cmpF_eq {a b : ByteArray} {d e : Int} {l m : List (ByteArray × Int)} (hd : 0 ≤ d ∧ d ≤ 292193) (he : 0 ≤ e ∧ e ≤ 292193) : cmpF [.agg [.str a, .int .i64 d, .row 2 (l.map acV)], .agg [.str b, .int .i64 e, .row 2 (m.map acV)]] = some (.int .i64 (cmpE (a, d, l) (b, e, m)), []) := by
  simp only [cmpF]
  exact if_pos ⟨hd, he⟩
theorem cmp_snd {J : World → Prop} (hJ : Stable J) : Snd Tryz.prog J 36 cmpF := by
  intro args r bs h
  unfold cmpF at h
  split at h
  · rename_i a d l b e m
    split at h
    · rename_i hc
      obtain ⟨rfl, rfl⟩ := some_pair h
      refine evFn (l := [(82, stcF)]) (nv := nv0) (fz := fz0) (dr := dr36) (dd := dd36) (lam := []) (ms := ms0) ⟨stc_snd, trivial⟩ hJ trivial ms0_ok Tryz.func36 rfl rfl (Nat.le_of_ble_eq_true rfl) (Nat.le_of_ble_eq_true rfl) drOk36 ?_
      dsimp only [Tryz.f36, dr36, dd36, Option.getD_some]
      refine ev_start ?_
      by_cases hde : d = e
      · have e1 : cmpE (a, d, []) (b, e, []) = Lib.compareBytes a.data.toList b.data.toList := if_pos hde
        rw [e1]
        simp (disch := omega) only [stcF_eq, hde, go_sem, evP_D, evD_guard, evD_cons, evD_zero, evD_nil]
      · have e1 : cmpE (a, d, []) (b, e, []) = d - e := if_neg hde
        rw [e1]
        simp (disch := omega) only [hde, go_sem, evP_D, evD_guard, evD_cons, evD_zero, evD_nil]
    · cases h
  · cases h
def findF : List V → Option (V × List Blk)
  | [.row 2 es, .str c] => (unAc es).map fun A => (.int .i64 (fidx c A), [])
  | _ => none
theorem findF_eq (A : List (ByteArray × Int)) (c : ByteArray) : findF [.row 2 (A.map acV), .str c] = some (.int .i64 (fidx c A), []) := by simp only [findF, unAc_map, Option.map_some]
theorem fidx_neg (c : ByteArray) (A : List (ByteArray × Int)) : decide (fidx c A < 0) = !(hasA A c) := by
  unfold fidx hasA
  cases h : A.any (isC c) with
  | true => rw [if_pos rfl]; simp
  | false => rw [if_neg (by simp)]; rfl
theorem find_snd {J : World → Prop} (hJ : Stable J) : Snd Tryz.prog J 81 findF := by
  intro args r bs h
  unfold findF at h
  split at h
  · rename_i es c
    simp only [Option.map_eq_some_iff] at h
    obtain ⟨A, hA, h⟩ := h
    obtain ⟨rfl, rfl⟩ := some_pair (congrArg some h)
    rw [unAc_eq hA]
    exact find_sound hJ A c
  · cases h
def kn1F : List V → Option (V × List Blk)
  | [.agg [.str c, .int .i64 n], .rd (.agg [.row 2 es, .row 3 xs, .int .i64 s]) 0] => (unAc es).map fun A => (.bool (!(hasA A c)), [])
  | _ => none
theorem kn1_snd {J : World → Prop} (hJ : Stable J) : Snd Tryz.prog J 80 kn1F := by
  intro args r bs h
  unfold kn1F at h
  split at h
  · rename_i c n es xs s
    simp only [Option.map_eq_some_iff] at h
    obtain ⟨A, hA, h⟩ := h
    obtain ⟨rfl, rfl⟩ := some_pair (congrArg some h)
    rw [unAc_eq hA]
    refine evFn (l := [(81, findF)]) (nv := nv0) (fz := fz0) (dr := dr80) (dd := dd80) (lam := []) (ms := ms0) ⟨find_snd hJ, trivial⟩ hJ trivial ms0_ok Tryz.func80 rfl rfl (Nat.le_of_ble_eq_true rfl) (Nat.le_of_ble_eq_true rfl) drOk80 ?_
    dsimp only [Tryz.f80, dr80, dd80, Option.getD_some]
    refine ev_start ?_
    simp (disch := omega) only [findF_eq, fidx_neg, go_sem, evP_D, evD_guard, evD_cons, evD_zero, evD_nil]
  · cases h
def knownF : List V → Option (V × List Blk)
  | [.agg [.row 2 es, .row 3 xs, .int .i64 s], .agg [.str k, .int .i64 d, .row 2 ls]] => match unAc es, unAc ls with
    | some A, some l => some (.bool (knownB A (k, d, l)), [])
    | _, _ => none
  | _ => none
theorem knownF_eq (A : List (ByteArray × Int)) (xs : List V) (s : Int) (k : ByteArray) (d : Int) (l : List (ByteArray × Int)) : knownF [.agg [.row 2 (A.map acV), .row 3 xs, .int .i64 s], .agg [.str k, .int .i64 d, .row 2 (l.map acV)]] = some (.bool (knownB A (k, d, l)), []) := by simp only [knownF, unAc_map]
theorem known_snd {J : World → Prop} (hJ : Stable J) : Snd Tryz.prog J 33 knownF := by
  intro args r bs h
  unfold knownF at h
  split at h
  · rename_i es xs s k d ls
    split at h
    · rename_i A l hA hl
      obtain ⟨rfl, rfl⟩ := some_pair h
      rw [unAc_eq hA, unAc_eq hl]
      have hC := containsL_sound hJ 80 [.rd (.agg [.row 2 (A.map acV), .row 3 xs, .int .i64 s]) 0] kn1F (kn1_snd hJ) rfl (fun p => !(hasA A p.1)) l fun p _ => by simp only [kn1F, acV, unAc_map, Option.map_some]
      have hB : knownB A (k, d, l) = !(l.any fun p => !(hasA A p.1)) := by
        unfold knownB
        rw [List.not_any_eq_all_not]
        simp
      rw [hB]
      refine evFn (l := [(79, at1 [.row 2 (l.map acV), .fn 80 [.rd (.agg [.row 2 (A.map acV), .row 3 xs, .int .i64 s]) 0]] (.bool (l.any fun p => !(hasA A p.1)), []))]) (nv := nv0) (fz := fz0) (dr := dr33) (dd := dd33) (lam := []) (ms := ms0) ⟨at1_snd hC, trivial⟩ hJ trivial ms0_ok Tryz.func33 rfl rfl (Nat.le_of_ble_eq_true rfl) (Nat.le_of_ble_eq_true rfl) drOk33 ?_
      dsimp only [Tryz.f33, dr33, dd33, Option.getD_some]
      refine ev_start ?_
      simp (disch := omega) only [at1_eq, List.mapM_cons, List.mapM_nil, Option.bind_eq_bind, Option.pure_def, Option.bind_some, go_sem, evP_D, evD_guard, evD_cons, evD_zero, evD_nil]
    · cases h
  · cases h
end Go.Proofs.YtdmkmbaaemhhhaaGreatDoor
