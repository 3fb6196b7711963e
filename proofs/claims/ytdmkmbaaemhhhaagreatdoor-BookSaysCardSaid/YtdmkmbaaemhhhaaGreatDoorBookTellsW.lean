/-
  BookTells's law at whatever arguments its types allow.
-/
import Derived.Test.YtdmkmbaaemhhhaaGreatDoorEntrySaysW
import Derived.Test.YtdmkmbaaemhhhaaGreatDoorBkK
namespace Go.Proofs.YtdmkmbaaemhhhaaGreatDoor
open Go Go.Ev Go.RowKit Go.Acc
set_option maxRecDepth 100000 in
theorem ty_acct {m : Nat} {c : V} (h : TyV Tryz.prog (m + 2) 78 c) : ∃ p, c = acV p ∧ True := by
  obtain ⟨cs, rfl, hl, hf⟩ := ty_struct h Tryz.underlying78
  have hc : Tryz.prog.cellsOf 78 = 2 := by kernel_rfl
  rw [hc] at hl
  match cs, hl, hf with
  | [a, b], _, hf =>
    have h0 := hf _ (by simp only [List.mem_toArray]; exact List.mem_cons_self)
    have h1 := hf _ (by simp only [List.mem_toArray]; exact List.mem_cons_of_mem _ List.mem_cons_self)
    have c0 : Tryz.prog.cellsOf 9 = 1 := by kernel_rfl
    have c1 : Tryz.prog.cellsOf 3 = 1 := by kernel_rfl
    simp only [c0, c1, List.drop_zero, List.take_succ_cons, List.take_zero, List.drop_succ_cons] at h0 h1
    obtain ⟨s, rfl, _⟩ := tyC_strs h0 Tryz.underlying9
    obtain ⟨n, rfl⟩ := tyC_ints h1 Tryz.underlying3
    exact ⟨(s, n), rfl, trivial⟩
set_option maxRecDepth 100000 in
theorem ty_book {m : Nat} {c : V} (h : TyV Tryz.prog (m + 6) 25 c) : ∃ (A : List (ByteArray × Int)) (E : List En) (s : Int), c = bkV A E s ∧ okEn E := by
  obtain ⟨cs, rfl, hl, hf⟩ := ty_struct h Tryz.underlying25
  have hc : Tryz.prog.cellsOf 25 = 3 := by kernel_rfl
  rw [hc] at hl
  match cs, hl, hf with
  | [a, b, d], _, hf =>
    have h0 := hf _ (by simp only [List.mem_toArray]; exact List.mem_cons_self)
    have h1 := hf _ (by simp only [List.mem_toArray]; exact List.mem_cons_of_mem _ List.mem_cons_self)
    have h2 := hf _ (by simp only [List.mem_toArray]; exact List.mem_cons_of_mem _ (List.mem_cons_of_mem _ List.mem_cons_self))
    have c0 : Tryz.prog.cellsOf 22 = 1 := by kernel_rfl
    have c1 : Tryz.prog.cellsOf 23 = 1 := by kernel_rfl
    have c2 : Tryz.prog.cellsOf 3 = 1 := by kernel_rfl
    have c3 : Tryz.prog.cellsOf 78 = 2 := by kernel_rfl
    have c4 : Tryz.prog.cellsOf 28 = 3 := by kernel_rfl
    simp only [c0, c1, c2, List.drop_zero, List.take_succ_cons, List.take_zero, List.drop_succ_cons] at h0 h1 h2
    obtain ⟨ac, rfl, ha, has⟩ := tyC_slices h0 Tryz.underlying22
    obtain ⟨es, rfl, he, hes⟩ := tyC_slices h1 Tryz.underlying23
    obtain ⟨s, rfl⟩ := tyC_ints h2 Tryz.underlying3
    obtain ⟨A, rfl, _⟩ := map_of_all (f := acV) (p := fun _ => True) fun x hx => ty_acct (m := m + 2) (has x hx)
    obtain ⟨E, rfl, hE⟩ := map_of_all (f := enW) (p := fun x : En => x.1.size ≤ maxLen ∧ x.2.2.length ≤ maxLen) fun x hx => by
      obtain ⟨k, d, l, rfl, hk, hl⟩ := ty_entry (m := m) (hes x hx)
      exact ⟨(k, d, l), rfl, hk, hl⟩
    rw [c3, c4]
    exact ⟨A, E, s, rfl, by simpa using he, hE⟩
end Go.Proofs.YtdmkmbaaemhhhaaGreatDoor
