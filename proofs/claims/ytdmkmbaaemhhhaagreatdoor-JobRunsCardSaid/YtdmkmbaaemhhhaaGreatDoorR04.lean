/-
  Contracts of the references for the calendar that loop: Add, Months.
-/
import Derived.Test.YtdmkmbaaemhhhaaGreatDoorR03
set_option linter.unusedVariables false
namespace Go.Proofs.YtdmkmbaaemhhhaaGreatDoor
open Go.RowKit
def Blk (w : World) (g : Nat) (t : TypeId) (cs : Array Value) : Prop := w.heap[g]? = some (.cells cs t (0, 0))
theorem Blk.cell {w : World} {g : Nat} {t : TypeId} {cs : Array Value} (h : Blk w g t cs) (i : Nat) : w.cell? ⟨g, i, none⟩ = cs[i]? := cell_of_row w g i cs t (0, 0) h
theorem Blk.frozen {w : World} {g : Nat} {t : TypeId} {cs : Array Value} (h : Blk w g t cs) (i : Nat) : w.frozen? ⟨g, i, none⟩ = false := by
 unfold Blk at h
 simp [World.frozen?, h]
theorem Blk.new (w : World) (t : TypeId) (cs : Array Value) : Blk (w.alloc (.cells cs t)) w.heap.size t cs := heap_alloc_new w _
theorem Blk.drew {w : World} {g : Nat} {t : TypeId} {cs : Array Value} (h : Blk w g t cs) : Blk w.drew g t cs := h
theorem Blk.set_ {w : World} {g : Nat} {t : TypeId} {cs : Array Value} (h : Blk w g t cs) (i : Nat) (u : Value) : Blk (w.setCell ⟨g, i, none⟩ u) g t (cs.setIfInBounds i u) := by
 unfold Blk at h ⊢
 simp [World.setCell, Array.getElem?_modify, h]
def AddRel (w : World) (b : Nat) (D T : Int) (sgn : Int) (k : Int) (wr : World) : Prop :=
 ∃ Y M : Int, 1 ≤ M ∧ M ≤ 12 ∧ 12 * (Y - 1600) + M - 1 + k = T ∧ 0 ≤ sgn * k ∧ k ≤ 9600 ∧ -9600 ≤ k ∧ Blk wr b 188 #[.int .i64 Y, .int .i64 M, .int .i64 D] ∧ Below w.heap.size w wr
set_option maxHeartbeats 3200000 in
theorem radd_pos (n k0 : Int) (w : World) (h0 : 0 ≤ n) (h1 : n ≤ 292193) (h2 : 0 ≤ k0) (h3 : k0 ≤ 9600) :
  Calls Tryz.prog 112 #[.int .i64 n, .int .i64 k0] w fun e w' => e = .returned (.int .i64 (Cal.add n k0)) ∧ Below w.heap.size w w' := by
 obtain ⟨⟨y1, y2, m1, m2, d1, d2⟩, _⟩ := Cal.date_ok n h0 h1
 have lb := Cal.len_bd (Cal.dY n) (Cal.dM n)
 obtain ⟨b1, b2⟩ := Cal.mon_bd n h0 h1
 go_enter Tryz.func112, Tryz.ntmps112
 go_wp2_with (go_at_call 170; refine (rdate_any _ _ h0 h1).mono ?_; rintro e w1 ⟨rfl, hb⟩)
 have hz := hb.size
 go_loopw [1] (fun i wr => ∃ k : Int, i = .int .i64 k ∧ AddRel w w1.heap.size (Cal.dD n) (Cal.mon n + k0) 1 k wr) (fun i _ => (intOf i).toNat)
 case atStart => exact ⟨k0, rfl, Cal.dY n, Cal.dM n, m1, m2, by unfold Cal.mon; omega, by omega, by omega, by omega, Blk.new _ _ _, Below.alloc hb hz _⟩
 case round =>
  obtain ⟨k, rfl, Y, M, a1, a2, a3, a4, a5, a6, a7, a8⟩ := hrel
  have c0 := a7.cell 0
  have c1 := a7.cell 1
  have c2 := a7.cell 2
  have f0 := a7.frozen 0
  have f1 := a7.frozen 1
  simp at c0 c1 c2
  by_cases hk : 0 < k
  ·by_cases hm : 12 < M + 1
   ·go_wp2
    go_roundw
    case rel => exact ⟨k - 1, rfl, Y + 1, 1, by omega, by omega, by omega, by omega, by omega, by omega, by simpa using ((a7.set_ 1 (.int .i64 (M + 1))).set_ 0 (.int .i64 (Y + 1))).set_ 1 (.int .i64 1), ((a8.setCell (by exact hz) _).setCell (by exact hz) _).setCell (by exact hz) _⟩
    case measure => simp [intOf]; omega
   ·go_wp2
    go_roundw
    case rel => exact ⟨k - 1, rfl, Y, M + 1, by omega, by omega, by omega, by omega, by omega, by omega, by simpa using a7.set_ 1 (.int .i64 (M + 1)), a8.setCell (by exact hz) _⟩
    case measure => simp [intOf]; omega
  ·obtain rfl : k = 0 := by omega
   go_wp2
   refine wp_loop_rounds 1 ?_
   rw [rounds_succ]
   have V := Lib.hid (Cal.add_at n k0 Y M a1 a2 (by omega))
   by_cases hT : 0 ≤ Cal.mon n + k0 ∧ Cal.mon n + k0 < 9600
   ·have hY : 1600 ≤ Y ∧ Y ≤ 2399 := by omega
    have e1 := inB_t hY.1 hY.2
    have lb2 := Cal.len_bd Y M
    have vj : Cal.vld Y M (min (Cal.dD n) (Cal.len Y M)) := ⟨hY.1, hY.2, a1, a2, by omega, by omega⟩
    have VJ := Lib.hid vj
    clear vj
    by_cases hd : Cal.dD n ≤ Cal.len Y M
    ·have hmin : min (Cal.dD n) (Cal.len Y M) = Cal.dD n := Int.min_eq_left hd
     rw [hmin] at VJ
     have HM := Lib.hid hmin
     clear hmin
     go_wp2_with (go_at_call 69; refine (rwithin_any _ _ _ _).mono ?_; rintro e w' ⟨rfl, rfl⟩)
     go_quiet ((first | (go_at_call 171; exact quiet_left (rjulian_any _ _ _ _ VJ.out)) | (go_at_call 172; exact quiet_left (rlong_any _ _ _ (by omega) (by omega) (by omega) (by omega)))))
     subst_vars
     go_wp2
     go_ret
     refine ⟨ret_int ?_, below_drewN a8 _⟩
     rw [V.out, if_pos hT, HM.out]
    ·have hmin : min (Cal.dD n) (Cal.len Y M) = Cal.len Y M := Int.min_eq_right (by omega)
     rw [hmin] at VJ
     have HM := Lib.hid hmin
     clear hmin
     go_wp2_with (go_at_call 69; refine (rwithin_any _ _ _ _).mono ?_; rintro e w' ⟨rfl, rfl⟩)
     go_quiet ((first | (go_at_call 171; exact quiet_left (rjulian_any _ _ _ _ VJ.out)) | (go_at_call 172; exact quiet_left (rlong_any _ _ _ (by omega) (by omega) (by omega) (by omega)))))
     subst_vars
     go_wp2
     go_ret
     refine ⟨ret_int ?_, below_drewN a8 _⟩
     rw [V.out, if_pos hT, HM.out]
   ·have e1 : inB Y 1600 2399 = false := inB_f (by omega)
    go_wp2_with (go_at_call 69; refine (rwithin_any _ _ _ _).mono ?_; rintro e w' ⟨rfl, rfl⟩)
    go_ret
    refine ⟨ret_int ?_, a8⟩
    rw [V.out, if_neg hT]
set_option maxHeartbeats 3200000 in
theorem radd_neg (n k0 : Int) (w : World) (h0 : 0 ≤ n) (h1 : n ≤ 292193) (h2 : k0 < 0) (h3 : -9600 ≤ k0) :
  Calls Tryz.prog 112 #[.int .i64 n, .int .i64 k0] w fun e w' => e = .returned (.int .i64 (Cal.add n k0)) ∧ Below w.heap.size w w' := by
 obtain ⟨⟨y1, y2, m1, m2, d1, d2⟩, _⟩ := Cal.date_ok n h0 h1
 have lb := Cal.len_bd (Cal.dY n) (Cal.dM n)
 obtain ⟨b1, b2⟩ := Cal.mon_bd n h0 h1
 go_enter Tryz.func112, Tryz.ntmps112
 go_wp2_with (go_at_call 170; refine (rdate_any _ _ h0 h1).mono ?_; rintro e w1 ⟨rfl, hb⟩)
 have hz := hb.size
 refine wp_loop_rounds 1 ?_
 rw [rounds_succ]
 go_wp2
 go_loopw [1] (fun i wr => ∃ k : Int, i = .int .i64 k ∧ AddRel w w1.heap.size (Cal.dD n) (Cal.mon n + k0) (-1) k wr) (fun i _ => (- intOf i).toNat)
 case atStart => exact ⟨k0, rfl, Cal.dY n, Cal.dM n, m1, m2, by unfold Cal.mon; omega, by omega, by omega, by omega, Blk.new _ _ _, Below.alloc hb hz _⟩
 case round =>
  obtain ⟨k, rfl, Y, M, a1, a2, a3, a4, a5, a6, a7, a8⟩ := hrel
  have c0 := a7.cell 0
  have c1 := a7.cell 1
  have c2 := a7.cell 2
  have f0 := a7.frozen 0
  have f1 := a7.frozen 1
  simp at c0 c1 c2
  by_cases hk : k < 0
  ·by_cases hm : M - 1 < 1
   ·go_wp2
    go_roundw
    case rel => exact ⟨k + 1, rfl, Y - 1, 12, by omega, by omega, by omega, by omega, by omega, by omega, by simpa using ((a7.set_ 1 (.int .i64 (M - 1))).set_ 0 (.int .i64 (Y - 1))).set_ 1 (.int .i64 12), ((a8.setCell (by exact hz) _).setCell (by exact hz) _).setCell (by exact hz) _⟩
    case measure => simp [intOf]; omega
   ·go_wp2
    go_roundw
    case rel => exact ⟨k + 1, rfl, Y, M - 1, by omega, by omega, by omega, by omega, by omega, by omega, by simpa using a7.set_ 1 (.int .i64 (M - 1)), a8.setCell (by exact hz) _⟩
    case measure => simp [intOf]; omega
  ·obtain rfl : k = 0 := by omega
   have V := Lib.hid (Cal.add_at n k0 Y M a1 a2 (by omega))
   by_cases hT : 0 ≤ Cal.mon n + k0 ∧ Cal.mon n + k0 < 9600
   ·have hY : 1600 ≤ Y ∧ Y ≤ 2399 := by omega
    have e1 := inB_t hY.1 hY.2
    have lb2 := Cal.len_bd Y M
    have vj : Cal.vld Y M (min (Cal.dD n) (Cal.len Y M)) := ⟨hY.1, hY.2, a1, a2, by omega, by omega⟩
    have VJ := Lib.hid vj
    clear vj
    by_cases hd : Cal.dD n ≤ Cal.len Y M
    ·have hmin : min (Cal.dD n) (Cal.len Y M) = Cal.dD n := Int.min_eq_left hd
     rw [hmin] at VJ
     have HM := Lib.hid hmin
     clear hmin
     go_wp2_with (go_at_call 69; refine (rwithin_any _ _ _ _).mono ?_; rintro e w' ⟨rfl, rfl⟩)
     go_quiet ((first | (go_at_call 171; exact quiet_left (rjulian_any _ _ _ _ VJ.out)) | (go_at_call 172; exact quiet_left (rlong_any _ _ _ (by omega) (by omega) (by omega) (by omega)))))
     subst_vars
     go_wp2
     go_ret
     refine ⟨ret_int ?_, below_drewN a8 _⟩
     rw [V.out, if_pos hT, HM.out]
    ·have hmin : min (Cal.dD n) (Cal.len Y M) = Cal.len Y M := Int.min_eq_right (by omega)
     rw [hmin] at VJ
     have HM := Lib.hid hmin
     clear hmin
     go_wp2_with (go_at_call 69; refine (rwithin_any _ _ _ _).mono ?_; rintro e w' ⟨rfl, rfl⟩)
     go_quiet ((first | (go_at_call 171; exact quiet_left (rjulian_any _ _ _ _ VJ.out)) | (go_at_call 172; exact quiet_left (rlong_any _ _ _ (by omega) (by omega) (by omega) (by omega)))))
     subst_vars
     go_wp2
     go_ret
     refine ⟨ret_int ?_, below_drewN a8 _⟩
     rw [V.out, if_pos hT, HM.out]
   ·have e1 : inB Y 1600 2399 = false := inB_f (by omega)
    go_wp2_with (go_at_call 69; refine (rwithin_any _ _ _ _).mono ?_; rintro e w' ⟨rfl, rfl⟩)
    go_ret
    refine ⟨ret_int ?_, a8⟩
    rw [V.out, if_neg hT]
theorem radd_any (n k0 : Int) (w : World) (h0 : 0 ≤ n) (h1 : n ≤ 292193) (h2 : -9600 ≤ k0) (h3 : k0 ≤ 9600) :
  Calls Tryz.prog 112 #[.int .i64 n, .int .i64 k0] w fun e w' => e = .returned (.int .i64 (Cal.add n k0)) ∧ Below w.heap.size w w' := by
 by_cases h : 0 ≤ k0
 ·exact radd_pos n k0 w h0 h1 h h3
 ·exact radd_neg n k0 w h0 h1 (by omega) h2
end Go.Proofs.YtdmkmbaaemhhhaaGreatDoor
