/-
  Contracts of the references for the calendar: Day, Long, Julian, Date, Of, Last, Add, Months.
-/
import Derived.Test.YtdmkmbaaemhhhaaDoorBase
import Derived.Test.YtdmkmbaaemhhhaaDoorCal
namespace Go.Proofs.YtdmkmbaaemhhhaaDoor
open Go.RowKit
set_option linter.unusedVariables false
/-- Add, where its loops end -/
theorem Cal.add_at (n k Y M : Int) (m1 : 1 ≤ M) (m2 : M ≤ 12) (h : 12 * (Y - 1600) + M - 1 = Cal.mon n + k) :
    Cal.add n k = if 0 ≤ Cal.mon n + k ∧ Cal.mon n + k < 9600 then Cal.num Y M (min (Cal.dD n) (Cal.len Y M)) else -1 := by
  have e1 : 1600 + (Cal.mon n + k) / 12 = Y := by omega
  have e2 : 1 + (Cal.mon n + k) % 12 = M := by omega
  unfold Cal.add Cal.ofMon
  rw [e1, e2]
theorem rday_any (x : Int) (w : World) :
    Calls Tryd.prog 8 #[.int .i64 x] w fun e w' => e = .returned (.bool (inB x 0 292193)) ∧ w = w' := by
  go_enter Tryd.func8, Tryd.ntmps8
  go_wp2_with (go_at_call 27; refine (rwithin_any _ _ _ _).mono ?_; rintro e w' ⟨rfl, rfl⟩)
  go_ret
  exact ⟨rfl, rfl⟩
theorem rlong_any (y m : Int) (w : World) (h0 : 0 ≤ y) (h1 : y ≤ 10000) (h2 : 1 ≤ m) (h3 : m ≤ 12) :
    Calls Tryd.prog 63 #[.int .i64 y, .int .i64 m] w fun e w' => e = .returned (.int .i64 (Cal.len y m)) ∧ w = w' := by
  go_enter Tryd.func63, Tryd.ntmps63
  go_wp2
  all_goals
    go_ret
    refine ⟨ret_int ?_, rfl⟩
    try simp only [beq_iff_eq, beq_eq_false_iff_ne, ne_eq] at *
    unfold Cal.len Cal.lp
    (repeat' split) <;> omega
theorem rjulian_any (y m d : Int) (w : World) (hv : Cal.vld y m d) :
    Calls Tryd.prog 62 #[.int .i64 y, .int .i64 m, .int .i64 d] w fun e w' => e = .returned (.int .i64 (Cal.num y m d)) ∧ w = w' := by
  have J := Lib.hid (Cal.jul_eq y m d hv.2.2.1 hv.2.2.2.1)
  have lb := Cal.len_bd y m
  obtain ⟨y1, y2, m1, m2, d1, d2⟩ := hv
  go_enter Tryd.func62, Tryd.ntmps62
  go_wp2
  go_ret
  refine ⟨ret_int ?_, rfl⟩
  rw [← J.out]
  unfold Cal.jul
  omega
set_option maxHeartbeats 800000 in
theorem rdate_any (n : Int) (w : World) (h0 : 0 ≤ n) (h1 : n ≤ 292193) :
    Calls Tryd.prog 61 #[.int .i64 n] w fun e w' => e = .returned (.agg #[.int .i64 (Cal.dY n), .int .i64 (Cal.dM n), .int .i64 (Cal.dD n)]) ∧ Below w.heap.size w w' := by
  go_enter Tryd.func61, Tryd.ntmps61
  go_wp2
  refine bodyPost_ret (v := .agg #[.int .i64 (Cal.dY n), .int .i64 (Cal.dM n), .int .i64 (Cal.dD n)]) (by simp [results, Tryd.results61, go_sem]; unfold Cal.dY Cal.dM Cal.dD Cal.rM Cal.rE Cal.rD Cal.rC Cal.rB Cal.rA; exact ⟨rfl, rfl, rfl⟩) rfl ⟨rfl, ?_⟩
  exact (Below.refl _ _).alloc (Nat.le_refl _) _
end Go.Proofs.YtdmkmbaaemhhhaaDoor
