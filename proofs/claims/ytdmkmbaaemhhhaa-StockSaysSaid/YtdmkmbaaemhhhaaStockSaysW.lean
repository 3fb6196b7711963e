/-
  StockSays' law at whatever arguments its types allow.
-/
import Derived.Test.YtdmkmbaaemhhhaaStkK
namespace Go.Proofs.Ytdmkmbaaemhhhaa
open Go Go.Ev Go.RowKit Go.Stk
theorem tyC_num {P : Program} {m : Nat} {t : TypeId} {c : V} {k : IntKind} (h : TyC P (m + 1) t [c]) (hu : P.underlying t = some (.int k)) : ∃ n, c = .int k n := by
  unfold TyC at h
  rw [hu] at h
  obtain ⟨n, h1, h2⟩ := h
  exact ⟨n, by simpa using h1⟩
set_option maxRecDepth 100000 in
theorem ty_move {m : Nat} {c : V} (h : TyV Try.prog (m + 2) 47 c) : ∃ p, c = mvV p ∧ True := by
  obtain ⟨cs, rfl, hl, hf⟩ := ty_struct h Try.underlying47
  have hc : Try.prog.cellsOf 47 = 2 := by kernel_rfl
  rw [hc] at hl
  match cs, hl, hf with
  | [a, b], _, hf =>
    have h0 := hf _ (by simp only [List.mem_toArray]; exact List.mem_cons_self)
    have h1 := hf _ (by simp only [List.mem_toArray]; exact List.mem_cons_of_mem _ List.mem_cons_self)
    have c1 : Try.prog.cellsOf 3 = 1 := by kernel_rfl
    simp only [c1, List.drop_zero, List.take_succ_cons, List.take_zero, List.drop_succ_cons] at h0 h1
    obtain ⟨a, rfl⟩ := tyC_num h0 Try.underlying3
    obtain ⟨b, rfl⟩ := tyC_num h1 Try.underlying3
    exact ⟨(a, b), rfl, trivial⟩
set_option maxRecDepth 100000 in
theorem walkStockSays (c0 : V) (h0 : TyV Try.prog 9 22 c0) :
    SoundAt Try.prog J0 3 [c0] (.bool true) [] := by
  obtain ⟨es, rfl, _, hes⟩ := ty_slice (m := 8) h0 Try.underlying22
  obtain ⟨l, rfl, _⟩ := map_of_all (f := mvV) (p := fun _ => True) fun x hx => ty_move (m := 6) (hes x hx)
  have hc : Try.prog.cellsOf 47 = 2 := by kernel_rfl
  rw [hc]
  exact stocks_law stable0 l
end Go.Proofs.Ytdmkmbaaemhhhaa
