/-
  JobSays' law at whatever arguments its types allow.
-/
import Derived.Test.YtdmkmbaaemhhhaaDoorJobN
namespace Go.Proofs.YtdmkmbaaemhhhaaDoor
open Go Go.Ev Go.RowKit Go.Job Go.Acc
theorem tyC_strs {P : Program} {m : Nat} {t : TypeId} {c : V} (h : TyC P (m + 1) t [c]) (hu : P.underlying t = some .string) : ∃ s, c = .str s ∧ s.size ≤ maxLen := by
  unfold TyC at h
  rw [hu] at h
  obtain ⟨n, h1, h2⟩ := h
  exact ⟨n, by simpa using h1, h2⟩
theorem tyC_ints {P : Program} {m : Nat} {t : TypeId} {c : V} {k : IntKind} (h : TyC P (m + 1) t [c]) (hu : P.underlying t = some (.int k)) : ∃ n, c = .int k n := by
  unfold TyC at h
  rw [hu] at h
  obtain ⟨n, h1, h2⟩ := h
  exact ⟨n, by simpa using h1⟩
set_option maxRecDepth 100000 in
theorem ty_plan {m : Nat} {c : V} (h : TyV Tryd.prog (m + 2) 29 c) : ∃ p, c = plV p ∧ p.key.size ≤ maxLen := by
  obtain ⟨cs, rfl, hl, hf⟩ := ty_struct h Tryd.underlying29
  have hc : Tryd.prog.cellsOf 29 = 7 := by kernel_rfl
  rw [hc] at hl
  match cs, hl, hf with
  | [a, b, c, d, e, f, g], _, hf =>
    have m0 := hf _ (by simp only [List.mem_toArray]; exact List.mem_cons_self)
    have m1 := hf _ (by simp only [List.mem_toArray]; exact List.mem_cons_of_mem _ List.mem_cons_self)
    have m2 := hf _ (by simp only [List.mem_toArray]; exact List.mem_cons_of_mem _ (List.mem_cons_of_mem _ List.mem_cons_self))
    have m3 := hf _ (by simp only [List.mem_toArray]; exact List.mem_cons_of_mem _ (List.mem_cons_of_mem _ (List.mem_cons_of_mem _ List.mem_cons_self)))
    have m4 := hf _ (by simp only [List.mem_toArray]; exact List.mem_cons_of_mem _ (List.mem_cons_of_mem _ (List.mem_cons_of_mem _ (List.mem_cons_of_mem _ List.mem_cons_self))))
    have m5 := hf _ (by simp only [List.mem_toArray]; exact List.mem_cons_of_mem _ (List.mem_cons_of_mem _ (List.mem_cons_of_mem _ (List.mem_cons_of_mem _ (List.mem_cons_of_mem _ List.mem_cons_self)))))
    have m6 := hf _ (by simp only [List.mem_toArray]; exact List.mem_cons_of_mem _ (List.mem_cons_of_mem _ (List.mem_cons_of_mem _ (List.mem_cons_of_mem _ (List.mem_cons_of_mem _ (List.mem_cons_of_mem _ List.mem_cons_self))))))
    have c0 : Tryd.prog.cellsOf 9 = 1 := by kernel_rfl
    have c1 : Tryd.prog.cellsOf 3 = 1 := by kernel_rfl
    simp only [c0, c1, List.drop_zero, List.take_succ_cons, List.take_zero, List.drop_succ_cons] at m0 m1 m2 m3 m4 m5 m6
    obtain ⟨s, rfl, hs⟩ := tyC_strs m0 Tryd.underlying9
    obtain ⟨n1, rfl⟩ := tyC_ints m1 Tryd.underlying3
    obtain ⟨n2, rfl⟩ := tyC_ints m2 Tryd.underlying3
    obtain ⟨n3, rfl⟩ := tyC_ints m3 Tryd.underlying3
    obtain ⟨n4, rfl⟩ := tyC_ints m4 Tryd.underlying3
    obtain ⟨s5, rfl, _⟩ := tyC_strs m5 Tryd.underlying9
    obtain ⟨s6, rfl, _⟩ := tyC_strs m6 Tryd.underlying9
    exact ⟨⟨s, n1, n2, n3, n4, s5, s6⟩, rfl, hs⟩
set_option maxRecDepth 100000 in
theorem walkJobSays (c0 : V) (h0 : TyV Tryd.prog 9 22 c0) (c1 : V) (h1 : TyV Tryd.prog 9 3 c1) :
    SoundAt Tryd.prog Tab 3 [c0, c1] (.bool true) [] := by
  obtain ⟨es, rfl, he, hes⟩ := ty_slice (m := 8) h0 Tryd.underlying22
  have c3 : Tryd.prog.cellsOf 29 = 7 := by kernel_rfl
  obtain ⟨l, rfl, hl⟩ := map_of_all (f := plV) (p := fun p => p.key.size ≤ maxLen) fun x hx => ty_plan (m := 6) (hes x hx)
  obtain ⟨n, rfl, _⟩ := ty_int (m := 8) h1 Tryd.underlying3
  rw [c3]
  exact job_law l n hl
end Go.Proofs.YtdmkmbaaemhhhaaDoor
