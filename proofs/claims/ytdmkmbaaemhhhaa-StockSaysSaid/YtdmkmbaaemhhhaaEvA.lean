/-
  The machine's contracts of the smallest functions: within, Money, Rate of talref; errors of fractions.
-/
import Derived.Test.YtdmkmbaaemhhhaaEvT
namespace Go.Proofs.Ytdmkmbaaemhhhaa
open Go Go.Ev
set_option maxHeartbeats 4000000
set_option linter.unusedSimpArgs false
set_option linter.unusedVariables false

/-- a contract at one list of arguments alone -/
noncomputable def at1 (a : List V) (r : V × List Blk) : List V → Option (V × List Blk) := fun x => open Classical in if x = a then some r else none
theorem at1_eq (a : List V) (r : V × List Blk) : at1 a r a = some r := by unfold at1; rw [if_pos rfl]
theorem at1_snd {P : Program} {J : World → Prop} {f : FuncId} {a : List V} {r : V} {bs : List Blk} (h : SoundAt P J f a r bs) : Snd P J f (at1 a (r, bs)) := by
  intro args r' bs' h'
  unfold at1 at h'
  split at h'
  · rename_i he
    obtain ⟨rfl, rfl⟩ := some_pair h'
    rw [he]; exact h
  · cases h'
/-- ints as data -/
def rowI (l : List Int) : V := .row 1 (l.map (V.int .i64))
theorem rowI_eq (l : List Int) : rowI l = .row 1 (l.map (V.int .i64)) := rfl
/-- a row of what is mapped -/
theorem get_map {α : Type} (f : α → V) (l : List α) (k : Nat) (x : α) (h : l[k]? = some x) : (l.map f)[k]? = some (f x) := by simp [h]

def withinF : List V → Option (V × List Blk)
  | [.int .i64 x, .int .i64 lo, .int .i64 hi] => some (.bool (decide (lo ≤ x ∧ x ≤ hi)), [])
  | _ => none
theorem withinF_eq (x lo hi : Int) : withinF [.int .i64 x, .int .i64 lo, .int .i64 hi] = some (.bool (decide (lo ≤ x ∧ x ≤ hi)), []) := rfl
theorem within_snd {J : World → Prop} (hJ : Stable J) : Snd Try.prog J 19 withinF := by
  intro args r bs h
  unfold withinF at h
  split at h
  · rename_i x lo hi
    obtain ⟨rfl, rfl⟩ := some_pair h
    refine evFn (l := []) (nv := nv0) (fz := fz0) (dr := dr19) (dd := dd19) (lam := []) (ms := ms0) trivial hJ trivial ms0_ok Try.func19 rfl rfl (Nat.le_of_ble_eq_true rfl) (Nat.le_of_ble_eq_true rfl) drOk19 ?_
    dsimp only [Try.f19, dr19, dd19, Option.getD_some]
    refine ev_start ?_
    by_cases h1 : lo ≤ x <;> by_cases h2 : x ≤ hi <;> simp (disch := omega) only [h1, h2, and_self, and_true, and_false, go_sem, evP_D, evD_guard, evD_cons, evD_zero, evD_nil]
  · cases h
def moneyF : List V → Option (V × List Blk)
  | [.int .i64 x] => some (.bool (decide (-1000000000000 ≤ x ∧ x ≤ 1000000000000)), [])
  | _ => none
theorem moneyF_eq (x : Int) : moneyF [.int .i64 x] = some (.bool (decide (-1000000000000 ≤ x ∧ x ≤ 1000000000000)), []) := rfl
end Go.Proofs.Ytdmkmbaaemhhhaa
