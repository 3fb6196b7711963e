/-
  AcctSays's law at whatever arguments its types allow.
-/
import Derived.Test.YtdjdipehfnnhpaaDoorAcH
namespace Go.Proofs.YtdjdipehfnnhpaaDoor
open Go Go.Ev Go.RowKit Go.Acc
theorem tyC_str {P : Program} {m : Nat} {t : TypeId} {c : V} (h : TyC P (m + 1) t [c]) (hu : P.underlying t = some .string) : ∃ s, c = .str s := by
  unfold TyC at h
  rw [hu] at h
  obtain ⟨n, h1, h2⟩ := h
  exact ⟨n, by simpa using h1⟩
theorem tyC_int {P : Program} {m : Nat} {t : TypeId} {c : V} {k : IntKind} (h : TyC P (m + 1) t [c]) (hu : P.underlying t = some (.int k)) : ∃ n, c = .int k n := by
  unfold TyC at h
  rw [hu] at h
  obtain ⟨n, h1, h2⟩ := h
  exact ⟨n, by simpa using h1⟩
set_option maxRecDepth 100000 in
theorem ty_acct {m : Nat} {c : V} (h : TyV Tryd.prog (m + 2) 51 c) : ∃ p, c = acV p ∧ True := by
  obtain ⟨cs, rfl, hl, hf⟩ := ty_struct h Tryd.underlying51
  have hc : Tryd.prog.cellsOf 51 = 2 := by kernel_rfl
  rw [hc] at hl
  match cs, hl, hf with
  | [a, b], _, hf =>
    have h0 := hf _ (by simp only [List.mem_toArray]; exact List.mem_cons_self)
    have h1 := hf _ (by simp only [List.mem_toArray]; exact List.mem_cons_of_mem _ List.mem_cons_self)
    have c0 : Tryd.prog.cellsOf 9 = 1 := by kernel_rfl
    have c1 : Tryd.prog.cellsOf 3 = 1 := by kernel_rfl
    simp only [c0, c1, List.drop_zero, List.take_succ_cons, List.take_zero, List.drop_succ_cons] at h0 h1
    obtain ⟨s, rfl⟩ := tyC_str h0 Tryd.underlying9
    obtain ⟨n, rfl⟩ := tyC_int h1 Tryd.underlying3
    exact ⟨(s, n), rfl, trivial⟩
set_option maxRecDepth 100000 in
theorem walkAcctSays (c0 : V) (h0 : TyV Tryd.prog 9 28 c0) (c1 : V) (h1 : TyV Tryd.prog 9 9 c1) :
    SoundAt Tryd.prog J0 4 [c0, c1] (.bool true) [] := by
  obtain ⟨es, rfl, _, hes⟩ := ty_slice (m := 8) h0 Tryd.underlying28
  obtain ⟨l, rfl, _⟩ := map_of_all (f := acV) (p := fun _ => True) fun x hx => ty_acct (m := 6) (hes x hx)
  obtain ⟨s, rfl, _⟩ := ty_str (m := 8) h1 Tryd.underlying9
  have hc : Tryd.prog.cellsOf 51 = 2 := by kernel_rfl
  rw [hc]
  exact acct_law stable0 l s
end Go.Proofs.YtdjdipehfnnhpaaDoor
