/-
  Entries as text, and back: the plain law.
-/
import Derived.Test.YtcmpjagpggjfiaaGreatDoorT19
import Derived.Test.YtcmpjagpggjfiaaGreatDoorT01
import Derived.Lib.Split
import Derived.Lib.LastIndexLaws
set_option linter.unusedVariables false
set_option linter.unusedSimpArgs false
namespace Go.Lg
open Go Go.Acc
/-! ### the text of an entry -/
def pcL (p : ByteArray × Int) : List UInt8 := p.1.data.toList ++ 58 :: Lib.itoa p.2
/-! ### words -/
theorem occ_one (s : List UInt8) (c : UInt8) (j : Nat) : Lib.occAt s [c] j = (s[j]? == some c) := by
 unfold Lib.occAt
 rw [← List.head?_drop]
 cases s.drop j with
 | nil => rfl
 | cons d t =>
  simp only [List.isPrefixOf, Bool.and_true, List.head?_cons]
  rw [Bool.eq_iff_iff]
  simp only [beq_iff_eq, Option.some.injEq]
  exact eq_comm
theorem index_at {a b : List UInt8} {c : UInt8} (h : c ∉ a) : Lib.index (a ++ c :: b) [c] = a.length := by
 refine Lib.index_first (by simp) ?_ fun j hj => ?_
 ·rw [occ_one, List.getElem?_append_right (Nat.le_refl _)]; simp
 ·rw [occ_one, List.getElem?_append_left hj, List.getElem?_eq_getElem hj]
  rw [beq_eq_false_iff_ne]
  intro e
  exact h (by have := Option.some.inj e; rw [← this]; exact List.getElem_mem hj)
theorem index_no {a : List UInt8} {c : UInt8} (h : c ∉ a) : Lib.index a [c] = -1 := by
 refine Lib.index_none fun j _ => ?_
 rw [occ_one, beq_eq_false_iff_ne]
 intro e
 exact h (List.mem_of_getElem? e)
theorem split_no {a : List UInt8} (h : (32 : UInt8) ∉ a) : Lib.split a [32] = [a] := by
 unfold Lib.split
 rw [Lib.count_miss (index_no h)]
 rfl
theorem split_at {a b : List UInt8} (h : (32 : UInt8) ∉ a) : Lib.split (a ++ 32 :: b) [32] = a :: Lib.split b [32] := by
 unfold Lib.split
 have hi := index_at (b := b) h
 have hd : (a ++ 32 :: b).drop (a.length + [(32 : UInt8)].length) = b := by
  rw [List.drop_append]
  simp
 rw [Lib.count_hit (by simp) hi, hd, Nat.add_comm, Lib.splitK, hi]
 rw [if_neg (by rw [beq_iff_eq]; omega)]
 have e : ((a.length : Nat) : Int).toNat = a.length := by omega
 rw [e, hd]
 congr 1
 simp
theorem split_pieces : ∀ (ps : List (List UInt8)) {a : List UInt8}, (32 : UInt8) ∉ a → (∀ q ∈ ps, (32 : UInt8) ∉ q) → Lib.split (a ++ ps.flatMap (fun q => 32 :: q)) [32] = a :: ps
 | [], a, h, _ => by simpa using split_no h
 | q :: ps, a, h, hp => by
  rw [List.flatMap_cons, List.cons_append, split_at h]
  exact congrArg _ (split_pieces ps (hp q (by simp)) fun x hx => hp x (List.mem_cons_of_mem _ hx))
theorem map_data_inj : ∀ {a b : List ByteArray}, a.map (·.data.toList) = b.map (·.data.toList) → a = b
 | [], [], _ => rfl
 | [], y :: b, h => by simp at h
 | x :: a, [], h => by simp at h
 | x :: a, y :: b, h => by
  rw [List.map_cons, List.map_cons, List.cons.injEq] at h
  rw [ba_ext h.1, map_data_inj h.2]
def pcB (p : ByteArray × Int) : ByteArray := p.1 ++ ⟨#[58]⟩ ++ itoaB p.2
theorem pcB_data (p : ByteArray × Int) : (pcB p).data.toList = pcL p := by simp [pcB, pcL, itoaB]
def cutW (w : ByteArray) : ByteArray × ByteArray := (⟨(Lib.cut w.data.toList [58]).1.toArray⟩, ⟨(Lib.cut w.data.toList [58]).2.1.toArray⟩)
theorem cutW_pc {p : ByteArray × Int} (h : (58 : UInt8) ∉ p.1.data.toList) : cutW (pcB p) = (p.1, itoaB p.2) := by
 unfold cutW
 rw [pcB_data]
 unfold pcL Lib.cut
 rw [index_at h, if_pos (by omega)]
 have e : ((p.1.data.toList.length : Nat) : Int).toNat = p.1.data.toList.length := by omega
 simp only [e]
 have e1 : (p.1.data.toList ++ 58 :: Lib.itoa p.2).take p.1.data.toList.length = p.1.data.toList := by simp
 have e2 : (p.1.data.toList ++ 58 :: Lib.itoa p.2).drop (p.1.data.toList.length + [(58 : UInt8)].length) = Lib.itoa p.2 := by
  rw [List.drop_append]; simp
 rw [e1, e2]
 refine Prod.ext ?_ rfl
 exact ba_ext (by simp)
/-! ### the last blank with = behind it -/
/-! ### what a text says -/
end Go.Lg
