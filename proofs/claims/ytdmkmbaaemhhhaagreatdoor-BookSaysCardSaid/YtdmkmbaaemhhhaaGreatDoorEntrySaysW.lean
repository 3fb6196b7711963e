/-
  EntrySays's law at whatever arguments its types allow.
-/
import Derived.Test.YtdmkmbaaemhhhaaGreatDoorEnJ
namespace Go.Proofs.YtdmkmbaaemhhhaaGreatDoor
open Go Go.Ev Go.RowKit Go.Acc
theorem tyC_strs {P : Program} {m : Nat} {t : TypeId} {c : V} (h : TyC P (m + 1) t [c]) (hu : P.underlying t = some .string) : ∃ s, c = .str s ∧ s.size ≤ maxLen := by
  unfold TyC at h
  rw [hu] at h
  obtain ⟨n, h1, h2⟩ := h
  exact ⟨n, by simpa using h1, h2⟩
theorem tyC_ints {P : Program} {m : Nat} {t : TypeId} {c : V} {k : IntKind} (h : TyC P (m + 1) t [c]) (hu : P.underlying t = some (.int k)) : ∃ n, c = .int k n := by
  unfold TyC at h
  rw [hu] at h
  obtain ⟨n, h1, h2⟩ := h
  exact ⟨n, by simpa using h1⟩
theorem tyC_slices {P : Program} {m : Nat} {t e : TypeId} {c : V} (h : TyC P (m + 1) t [c]) (hu : P.underlying t = some (.slice e)) : ∃ es, c = .row (P.cellsOf e) es ∧ es.length ≤ maxLen ∧ ∀ x ∈ es, TyV P m e x := by
  unfold TyC at h
  rw [hu] at h
  obtain ⟨es, h1, h2, h3⟩ := h
  exact ⟨es, by simpa using h1, h2, h3⟩
set_option maxRecDepth 100000 in
theorem ty_line {m : Nat} {c : V} (h : TyV Tryz.prog (m + 2) 61 c) : ∃ p, c = acV p ∧ True := by
  obtain ⟨cs, rfl, hl, hf⟩ := ty_struct h Tryz.underlying61
  have hc : Tryz.prog.cellsOf 61 = 2 := by kernel_rfl
  rw [hc] at hl
  match cs, hl, hf with
  | [a, b], _, hf =>
    have h0 := hf _ (by simp only [List.mem_toArray]; exact List.mem_cons_self)
    have h1 := hf _ (by simp only [List.mem_toArray]; exact List.mem_cons_of_mem _ List.mem_cons_self)
    have c0 : Tryz.prog.cellsOf 9 = 1 := by kernel_rfl
    have c1 : Tryz.prog.cellsOf 3 = 1 := by kernel_rfl
    simp only [c0, c1, List.drop_zero, List.take_succ_cons, List.take_zero, List.drop_succ_cons] at h0 h1
    obtain ⟨s, rfl, _⟩ := tyC_strs h0 Tryz.underlying9
    obtain ⟨n, rfl⟩ := tyC_ints h1 Tryz.underlying3
    exact ⟨(s, n), rfl, trivial⟩
set_option maxRecDepth 100000 in
theorem ty_entry {m : Nat} {c : V} (h : TyV Tryz.prog (m + 4) 28 c) : ∃ (k : ByteArray) (d : Int) (l : List (ByteArray × Int)), c = enV k d (.row 2 (l.map acV)) ∧ k.size ≤ maxLen ∧ l.length ≤ maxLen := by
  obtain ⟨cs, rfl, hl, hf⟩ := ty_struct h Tryz.underlying28
  have hc : Tryz.prog.cellsOf 28 = 3 := by kernel_rfl
  rw [hc] at hl
  match cs, hl, hf with
  | [a, b, d], _, hf =>
    have h0 := hf _ (by simp only [List.mem_toArray]; exact List.mem_cons_self)
    have h1 := hf _ (by simp only [List.mem_toArray]; exact List.mem_cons_of_mem _ List.mem_cons_self)
    have h2 := hf _ (by simp only [List.mem_toArray]; exact List.mem_cons_of_mem _ (List.mem_cons_of_mem _ List.mem_cons_self))
    have c0 : Tryz.prog.cellsOf 9 = 1 := by kernel_rfl
    have c1 : Tryz.prog.cellsOf 3 = 1 := by kernel_rfl
    have c2 : Tryz.prog.cellsOf 26 = 1 := by kernel_rfl
    have c3 : Tryz.prog.cellsOf 61 = 2 := by kernel_rfl
    simp only [c0, c1, c2, List.drop_zero, List.take_succ_cons, List.take_zero, List.drop_succ_cons] at h0 h1 h2
    obtain ⟨s, rfl, hs⟩ := tyC_strs h0 Tryz.underlying9
    obtain ⟨n, rfl⟩ := tyC_ints h1 Tryz.underlying3
    obtain ⟨es, rfl, he, hes⟩ := tyC_slices h2 Tryz.underlying26
    obtain ⟨l, rfl, _⟩ := map_of_all (f := acV) (p := fun _ => True) fun x hx => ty_line (m := m) (hes x hx)
    rw [c3]
    exact ⟨s, n, l, rfl, hs, by simpa using he⟩
end Go.Proofs.YtdmkmbaaemhhhaaGreatDoor
