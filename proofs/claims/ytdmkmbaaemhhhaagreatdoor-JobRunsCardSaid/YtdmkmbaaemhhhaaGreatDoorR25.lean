/-
  A plan at whatever its type allows.
-/
import Derived.Test.YtdmkmbaaemhhhaaGreatDoorR19
import Derived.Test.YtdmkmbaaemhhhaaGreatDoorR24
namespace Go.Proofs.YtdmkmbaaemhhhaaGreatDoor
open Go Go.Ev Go.RowKit Go.Job Go.Acc
set_option maxRecDepth 100000 in
theorem ty_plan {m : Nat} {c : V} (h : TyV Tryz.prog (m + 2) 140 c) : ∃ p, c = plV p ∧ p.key.size ≤ maxLen := by
 obtain ⟨cs, rfl, hl, hf⟩ := ty_struct h Tryz.underlying140
 have hc : Tryz.prog.cellsOf 140 = 7 := by kernel_rfl
 rw [hc] at hl
 match cs, hl, hf with
 | [a, b, c, d, e, f, g], _, hf =>
  have m0 := hf _ (by simp only [List.mem_toArray]; exact List.mem_cons_self)
  have m1 := hf _ (by simp only [List.mem_toArray]; exact List.mem_cons_of_mem _ List.mem_cons_self)
  have m2 := hf _ (by simp only [List.mem_toArray]; exact List.mem_cons_of_mem _ (List.mem_cons_of_mem _ List.mem_cons_self))
  have m3 := hf _ (by simp only [List.mem_toArray]; exact List.mem_cons_of_mem _ (List.mem_cons_of_mem _ (List.mem_cons_of_mem _ List.mem_cons_self)))
  have m4 := hf _ (by simp only [List.mem_toArray]; exact List.mem_cons_of_mem _ (List.mem_cons_of_mem _ (List.mem_cons_of_mem _ (List.mem_cons_of_mem _ List.mem_cons_self))))
  have m5 := hf _ (by simp only [List.mem_toArray]; exact List.mem_cons_of_mem _ (List.mem_cons_of_mem _ (List.mem_cons_of_mem _ (List.mem_cons_of_mem _ (List.mem_cons_of_mem _ List.mem_cons_self)))))
  have m6 := hf _ (by simp only [List.mem_toArray]; exact List.mem_cons_of_mem _ (List.mem_cons_of_mem _ (List.mem_cons_of_mem _ (List.mem_cons_of_mem _ (List.mem_cons_of_mem _ (List.mem_cons_of_mem _ List.mem_cons_self))))))
  have c0 : Tryz.prog.cellsOf 9 = 1 := by kernel_rfl
  have c1 : Tryz.prog.cellsOf 3 = 1 := by kernel_rfl
  simp only [c0, c1, List.drop_zero, List.take_succ_cons, List.take_zero, List.drop_succ_cons] at m0 m1 m2 m3 m4 m5 m6
  obtain ⟨s, rfl, hs⟩ := tyC_strs m0 Tryz.underlying9
  obtain ⟨n1, rfl⟩ := tyC_ints m1 Tryz.underlying3
  obtain ⟨n2, rfl⟩ := tyC_ints m2 Tryz.underlying3
  obtain ⟨n3, rfl⟩ := tyC_ints m3 Tryz.underlying3
  obtain ⟨n4, rfl⟩ := tyC_ints m4 Tryz.underlying3
  obtain ⟨s5, rfl, _⟩ := tyC_strs m5 Tryz.underlying9
  obtain ⟨s6, rfl, _⟩ := tyC_strs m6 Tryz.underlying9
  exact ⟨⟨s, n1, n2, n3, n4, s5, s6⟩, rfl, hs⟩
end Go.Proofs.YtdmkmbaaemhhhaaGreatDoor
