/-
  Steps of the proof of LogSays: EnI EntrySaysW BkP BkE TsP.
-/
import Derived.Test.YtdmkmbaaemhhhaaGreatDoorL18
import Derived.Shelf.Small.Strs
import Derived.Test.YtdmkmbaaemhhhaaGreatDoorProg
set_option linter.unusedVariables false
set_option linter.unusedSimpArgs false
section
namespace Go.Acc
open Go
theorem lnE_ok : ∀ (l : List (ByteArray × Int)) (seen : List ByteArray), lnE seen l = 0 → ∀ x ∈ l, -1000000000000 ≤ x.2 ∧ x.2 ≤ 1000000000000
 | [], _, _ => by simp
 | (c, n) :: l, seen, h => by
  unfold lnE at h
  by_cases h1 : codeOk c = false
  ·rw [if_pos h1] at h; omega
  rw [if_neg h1] at h
  by_cases h2 : ¬ ((-1000000000000 ≤ n ∧ n ≤ 1000000000000) ∧ n ≠ 0)
  ·rw [if_pos h2] at h; omega
  rw [if_neg h2] at h
  by_cases h3 : hasC c seen = true
  ·rw [if_pos h3] at h; omega
  rw [if_neg h3] at h
  intro x hx
  rcases List.mem_cons.1 hx with rfl | hx
  ·exact (Decidable.not_not.1 h2).1
  ·exact lnE_ok l _ h x hx
theorem lnChk_ok {l : List (ByteArray × Int)} (h : lnChk l = 0) : 2 ≤ l.length ∧ l.length ≤ 12 ∧ ∀ x ∈ l, -1000000000000 ≤ x.2 ∧ x.2 ≤ 1000000000000 := by
 unfold lnChk at h
 by_cases h1 : 12 < l.length
 ·rw [if_pos h1] at h; omega
 rw [if_neg h1] at h
 by_cases h2 : lnE [] l = 0
 ·rw [if_neg (fun hh => hh h2)] at h
  by_cases h3 : l.length < 2 ∨ lnSum l l.length ≠ 0
  ·rw [if_pos h3] at h; omega
  ·exact ⟨by omega, by omega, lnE_ok l [] h2⟩
 ·rw [if_pos h2] at h; exact absurd h h2
theorem enE_ok {key : ByteArray} {day : Int} {l : List (ByteArray × Int)} (h : enE key day l = 0) : lnChk l = 0 := by
 unfold enE at h
 by_cases h1 : keyOk' key = false
 ·rw [if_pos h1] at h; omega
 rw [if_neg h1] at h
 by_cases h2 : ¬ (0 ≤ day ∧ day ≤ 292193)
 ·rw [if_pos h2] at h; omega
 rw [if_neg h2] at h
 exact h
end Go.Acc
namespace Go.Proofs.YtdmkmbaaemhhhaaGreatDoor
open Go Go.Ev Go.RowKit Go.Acc
set_option maxHeartbeats 4000000
end Go.Proofs.YtdmkmbaaemhhhaaGreatDoor
end
section
namespace Go.Proofs.YtdmkmbaaemhhhaaGreatDoor
open Go Go.Ev Go.RowKit Go.Acc
theorem tyC_strs {P : Program} {m : Nat} {t : TypeId} {c : V} (h : TyC P (m + 1) t [c]) (hu : P.underlying t = some .string) : ∃ s, c = .str s ∧ s.size ≤ maxLen := by
 unfold TyC at h
 rw [hu] at h
 obtain ⟨n, h1, h2⟩ := h
 exact ⟨n, by simpa using h1, h2⟩
theorem tyC_ints {P : Program} {m : Nat} {t : TypeId} {c : V} {k : IntKind} (h : TyC P (m + 1) t [c]) (hu : P.underlying t = some (.int k)) : ∃ n, c = .int k n := by
 unfold TyC at h
 rw [hu] at h
 obtain ⟨n, h1, h2⟩ := h
 exact ⟨n, by simpa using h1⟩
theorem tyC_slices {P : Program} {m : Nat} {t e : TypeId} {c : V} (h : TyC P (m + 1) t [c]) (hu : P.underlying t = some (.slice e)) : ∃ es, c = .row (P.cellsOf e) es ∧ es.length ≤ maxLen ∧ ∀ x ∈ es, TyV P m e x := by
 unfold TyC at h
 rw [hu] at h
 obtain ⟨es, h1, h2, h3⟩ := h
 exact ⟨es, by simpa using h1, h2, h3⟩
set_option maxRecDepth 100000 in
theorem ty_line {m : Nat} {c : V} (h : TyV Tryz.prog (m + 2) 61 c) : ∃ p, c = acV p ∧ True := by
 obtain ⟨cs, rfl, hl, hf⟩ := ty_struct h Tryz.underlying61
 have hc : Tryz.prog.cellsOf 61 = 2 := by kernel_rfl
 rw [hc] at hl
 match cs, hl, hf with
 | [a, b], _, hf =>
  have h0 := hf _ (by simp only [List.mem_toArray]; exact List.mem_cons_self)
  have h1 := hf _ (by simp only [List.mem_toArray]; exact List.mem_cons_of_mem _ List.mem_cons_self)
  have c0 : Tryz.prog.cellsOf 9 = 1 := by kernel_rfl
  have c1 : Tryz.prog.cellsOf 3 = 1 := by kernel_rfl
  simp only [c0, c1, List.drop_zero, List.take_succ_cons, List.take_zero, List.drop_succ_cons] at h0 h1
  obtain ⟨s, rfl, _⟩ := tyC_strs h0 Tryz.underlying9
  obtain ⟨n, rfl⟩ := tyC_ints h1 Tryz.underlying3
  exact ⟨(s, n), rfl, trivial⟩
set_option maxRecDepth 100000 in
theorem ty_entry {m : Nat} {c : V} (h : TyV Tryz.prog (m + 4) 28 c) : ∃ (k : ByteArray) (d : Int) (l : List (ByteArray × Int)), c = enV k d (.row 2 (l.map acV)) ∧ k.size ≤ maxLen ∧ l.length ≤ maxLen := by
 obtain ⟨cs, rfl, hl, hf⟩ := ty_struct h Tryz.underlying28
 have hc : Tryz.prog.cellsOf 28 = 3 := by kernel_rfl
 rw [hc] at hl
 match cs, hl, hf with
 | [a, b, d], _, hf =>
  have h0 := hf _ (by simp only [List.mem_toArray]; exact List.mem_cons_self)
  have h1 := hf _ (by simp only [List.mem_toArray]; exact List.mem_cons_of_mem _ List.mem_cons_self)
  have h2 := hf _ (by simp only [List.mem_toArray]; exact List.mem_cons_of_mem _ (List.mem_cons_of_mem _ List.mem_cons_self))
  have c0 : Tryz.prog.cellsOf 9 = 1 := by kernel_rfl
  have c1 : Tryz.prog.cellsOf 3 = 1 := by kernel_rfl
  have c2 : Tryz.prog.cellsOf 26 = 1 := by kernel_rfl
  have c3 : Tryz.prog.cellsOf 61 = 2 := by kernel_rfl
  simp only [c0, c1, c2, List.drop_zero, List.take_succ_cons, List.take_zero, List.drop_succ_cons] at h0 h1 h2
  obtain ⟨s, rfl, hs⟩ := tyC_strs h0 Tryz.underlying9
  obtain ⟨n, rfl⟩ := tyC_ints h1 Tryz.underlying3
  obtain ⟨es, rfl, he, hes⟩ := tyC_slices h2 Tryz.underlying26
  obtain ⟨l, rfl, _⟩ := map_of_all (f := acV) (p := fun _ => True) fun x hx => ty_line (m := m) (hes x hx)
  rw [c3]
  exact ⟨s, n, l, rfl, hs, by simpa using he⟩
end Go.Proofs.YtdmkmbaaemhhhaaGreatDoor
end
section
namespace Go.Acc
open Go
abbrev En := ByteArray × Int × List (ByteArray × Int)
def enX (x : En) : Int := enE x.1 x.2.1 x.2.2
theorem enX_ok {x : En} (h : enX x = 0) : (0 ≤ x.2.1 ∧ x.2.1 ≤ 292193) ∧ x.2.2.length ≤ 12 ∧ ∀ l ∈ x.2.2, -1000000000000 ≤ l.2 ∧ l.2 ≤ 1000000000000 := by
 have h0 := lnChk_ok (enE_ok h)
 refine ⟨?_, h0.2.1, h0.2.2⟩
 unfold enX enE at h
 by_cases h1 : keyOk' x.1 = false
 ·rw [if_pos h1] at h; omega
 rw [if_neg h1] at h
 by_cases h2 : ¬ (0 ≤ x.2.1 ∧ x.2.1 ≤ 292193)
 ·rw [if_pos h2] at h; omega
 ·exact Decidable.not_not.1 h2
/-! ### what an account has -/
theorem sum_bd {α : Type} (g : α → Int) (M : Int) (hM : 0 ≤ M) : ∀ l : List α, (∀ x ∈ l, -M ≤ g x ∧ g x ≤ M) → -(l.length * M) ≤ (l.map g).sum ∧ (l.map g).sum ≤ l.length * M
 | [], _ => by simp
 | x :: l, h => by
  have h1 := h x (by simp)
  have h2 := sum_bd g M hM l fun y hy => h y (by simp [hy])
  simp only [List.map_cons, List.sum_cons, List.length_cons]
  have e : (((l.length + 1 : Nat)) : Int) * M = l.length * M + M := by rw [Int.natCast_add, Int.add_mul]; simp
  rw [e]
  omega
end Go.Acc
end
section
namespace Go.Proofs.YtdmkmbaaemhhhaaGreatDoor
open Go Go.Ev Go.RowKit Go.Acc
set_option maxHeartbeats 4000000
def enW (x : En) : V := .agg [.str x.1, .int .i64 x.2.1, .row 2 (x.2.2.map acV)]
end Go.Proofs.YtdmkmbaaemhhhaaGreatDoor
end
section
namespace Go.Acc
open Go
def pos (n : Int) : Int := if 0 < n then n else 0
def neg (n : Int) : Int := if 0 < n then 0 else -n
/-! ### the map of sums: its keys are accounts, each once -/
/-! ### codes of accounts that may be: each once -/
/-! ### a sum over accounts is one over the map -/
/-! ### entries that a loop over a map has seen -/
end Go.Acc
end
