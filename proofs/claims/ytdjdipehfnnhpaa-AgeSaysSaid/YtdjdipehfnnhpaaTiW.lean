/-
  Items from their types.
-/
import Derived.Test.YtdjdipehfnnhpaaTiP
import Derived.Test.YtdjdipehfnnhpaaEvT
namespace Go.Proofs.Ytdjdipehfnnhpaa
open Go Go.Ev Go.RowKit Go.Tie
theorem tyC_int2 {P : Program} {m : Nat} {t : TypeId} {c : V} {k : IntKind} (h : TyC P (m + 1) t [c]) (hu : P.underlying t = some (.int k)) : ∃ n, c = .int k n := by
  unfold TyC at h
  rw [hu] at h
  obtain ⟨n, h1, h2⟩ := h
  exact ⟨n, by simpa using h1⟩
set_option maxRecDepth 100000 in
theorem ty_item {m : Nat} {c : V} (h : TyV Try.prog (m + 2) 64 c) : ∃ p, c = itV p ∧ True := by
  obtain ⟨cs, rfl, hl, hf⟩ := ty_struct h Try.underlying64
  have hc : Try.prog.cellsOf 64 = 2 := by kernel_rfl
  rw [hc] at hl
  match cs, hl, hf with
  | [a, b], _, hf =>
    have h0 := hf _ (by simp only [List.mem_toArray]; exact List.mem_cons_self)
    have h1 := hf _ (by simp only [List.mem_toArray]; exact List.mem_cons_of_mem _ List.mem_cons_self)
    have c1 : Try.prog.cellsOf 3 = 1 := by kernel_rfl
    simp only [c1, List.drop_zero, List.take_succ_cons, List.take_zero, List.drop_succ_cons] at h0 h1
    obtain ⟨s, rfl⟩ := tyC_int2 h0 Try.underlying3
    obtain ⟨n, rfl⟩ := tyC_int2 h1 Try.underlying3
    exact ⟨(s, n), rfl, trivial⟩
set_option maxRecDepth 100000 in
theorem ty_items {m : Nat} {c : V} (h : TyV Try.prog (m + 3) 53 c) : ∃ l : List It, c = .row 2 (l.map itV) := by
  obtain ⟨es, rfl, _, hes⟩ := ty_slice (m := m + 2) h Try.underlying53
  obtain ⟨l, rfl, _⟩ := map_of_all (f := itV) (p := fun _ => True) fun x hx => ty_item (m := m) (hes x hx)
  have hc : Try.prog.cellsOf 64 = 2 := by kernel_rfl
  rw [hc]
  exact ⟨l, rfl⟩
end Go.Proofs.Ytdjdipehfnnhpaa
