/-
  Small lemmas for the walks: endings, worlds, bounds as Bools; contracts of the smallest functions (within, Money, Rate).
-/
import Derived.Test.YtdmkmbaaemhhhaaGreatDoorProg
import Derived.Deep.RegionHeld3
import Derived.Deep.DrawnRows
import Derived.Handy
import Derived.WalkKit
import Derived.Below
import Derived.Deep.QuietTactic
import Derived.BigQuiet
import Derived.Lib.Hide
import Derived.WalkLawsBesides
import Derived.WalkSpells
import Derived.Outline
import Derived.Laws.BitsLemmas
namespace Go.Proofs.YtdmkmbaaemhhhaaGreatDoor
open Go.RowKit
theorem ret_int {k : IntKind} {a b : Int} (h : a = b) : Ending.returned (.int k a) = .returned (.int k b) := by rw [h]
theorem ret_bool {a b : Bool} (h : a = b) : Ending.returned (.bool a) = .returned (.bool b) := by rw [h]
theorem below_drewN {B : Nat} {a w : World} (h : Below B a w) (n : Nat) : Below B a (w.drewN n) := ⟨h.os, h.tape, h.output, h.size, h.block⟩
theorem below_via {B : Nat} {w W w1 : World} (h : Below B w W) (hB : B ≤ W.heap.size) (hb : Below W.heap.size W w1) : Below B w w1 := h.trans (hb.mono hB)
theorem quiet_left {P : Program} {f : FuncId} {args : Array Value} {w : World} {n : Nat} {v : Value}
  (h : Calls P f args (w.drewN n) fun e w' => e = .returned v ∧ w.drewN n = w') : Calls P f args (w.drewN n) fun e w'' => e = .returned v ∧ ∃ m, w'' = w.drewN m :=
 h.mono fun _ _ ⟨he, hm⟩ => ⟨he, n, hm.symm⟩
def inB (x lo hi : Int) : Bool := decide (lo ≤ x) && decide (x ≤ hi)
theorem inB_t {x lo hi : Int} (h0 : lo ≤ x) (h1 : x ≤ hi) : inB x lo hi = true := by unfold inB; simp [h0, h1]
theorem inB_f {x lo hi : Int} (h : x < lo ∨ hi < x) : inB x lo hi = false := by unfold inB; simp; omega
theorem rwithin_any (x lo hi : Int) (w : World) :
  Calls Tryz.prog 69 #[.int .i64 x, .int .i64 lo, .int .i64 hi] w fun e w' => e = .returned (.bool (inB x lo hi)) ∧ w = w' := by
 go_enter Tryz.func69, Tryz.ntmps69
 go_wp2
 all_goals
  go_ret
  refine ⟨ret_bool ?_, rfl⟩
  first
   | (symm; exact inB_f (by omega))
   | (unfold inB; simp [*])
end Go.Proofs.YtdmkmbaaemhhhaaGreatDoor
