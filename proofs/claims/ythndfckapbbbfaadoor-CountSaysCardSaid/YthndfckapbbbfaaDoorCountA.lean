/-
  Contracts: count.Between, talref.Euro. Condition: the table of the months' lengths reads as laid ('Tab').
-/
import Derived.Test.YthndfckapbbbfaaDoorCalA
import Derived.Test.YthndfckapbbbfaaDoorCalR
namespace Go.Proofs.YthndfckapbbbfaaDoor
open Go.RowKit
set_option linter.unusedVariables false
theorem frozen_of_row {w : World} {g : Nat} {t : TypeId} {cs : Array Value} (h : w.heap[g]? = some (.cells cs t (0, 0))) (i : Nat) : w.frozen? ⟨g, i, none⟩ = false := by simp [World.frozen?, h]
theorem keep2 (w w1 w2 : World) (cs : Array Value) {T : TypeId} (h1 : Below (w.alloc (.cells cs T)).heap.size (w.alloc (.cells cs T)) w1) (h2 : Below w1.heap.size w1 w2) (i : Nat) :
    w2.cell? ⟨w.heap.size, i, none⟩ = cs[i]? ∧ w2.frozen? ⟨w.heap.size, i, none⟩ = false := by
  have z := h1.size
  simp only [World.size_alloc] at z
  have c1 := h1.cell (p := ⟨w.heap.size, i, none⟩) (by simp)
  have c2 := h2.cell (p := ⟨w.heap.size, i, none⟩) (by show w.heap.size < _; omega)
  have g1 := h1.frozen (p := ⟨w.heap.size, i, none⟩) (by simp)
  have g2 := h2.frozen (p := ⟨w.heap.size, i, none⟩) (by show w.heap.size < _; omega)
  have hn := heap_alloc_new w (.cells cs T)
  constructor
  · rw [c2, c1]; exact cell_of_row _ _ i cs T (0, 0) hn
  · rw [g2, g1]; exact frozen_of_row hn i
def okC (way a b : Int) : Prop := 0 ≤ way ∧ way ≤ 2 ∧ 0 ≤ a ∧ a ≤ b ∧ b ≤ 292193
/-- P7: what is counted -/
def cnt (way a b : Int) : Int := if way = 2 then Cal.euro b - Cal.euro a else b - a
def den (way : Int) : Int := if way = 1 then 365 else 360
set_option maxHeartbeats 1600000 in
theorem between_ok (way a b : Int) (w : World) (ht : Tab w) (hv : okC way a b) :
    Calls Tryd.prog 7 #[.int .i64 way, .int .i64 a, .int .i64 b] w fun e w' => e = .returned (.tuple #[.agg #[.int .i64 (cnt way a b), .int .i64 (den way)], .int .i64 0]) ∧ Below w.heap.size w w' := by
  obtain ⟨v0, v1, a0, ab, b1⟩ := hv
  have e1 := inB_t a0 (show a ≤ 292193 by omega)
  have e2 := inB_t (show 0 ≤ b by omega) b1
  obtain ⟨⟨y1, y2, m1, m2, d1, d2⟩, _⟩ := Cal.date_ok a a0 (by omega)
  obtain ⟨⟨y3, y4, m3, m4, d3, d4⟩, _⟩ := Cal.date_ok b (by omega) b1
  have la := Cal.len_bd (Cal.dY a) (Cal.dM a)
  have lb := Cal.len_bd (Cal.dY b) (Cal.dM b)
  have T := Lib.hid (ht.alloc (.cells #[.int .i64 0, .int .i64 0] 23))
  clear ht
  have hw : way = 0 ∨ way = 1 ∨ way = 2 := by omega
  rcases hw with rfl | rfl | rfl
  · go_enter Tryd.func7, Tryd.ntmps7
    go_wp2_with (go_at_call 29; refine (is_any _ _).mono ?_; rintro e w' ⟨rfl, rfl⟩)
    refine bodyPost_ret (v := .tuple #[.agg #[.int .i64 (b - a), .int .i64 360], .int .i64 0]) (by simp [results, Tryd.results7, go_sem]) rfl ⟨rfl, ?_⟩
    exact (Below.refl _ _).alloc (Nat.le_refl _) _
  · go_enter Tryd.func7, Tryd.ntmps7
    go_wp2_with (go_at_call 29; refine (is_any _ _).mono ?_; rintro e w' ⟨rfl, rfl⟩)
    refine bodyPost_ret (v := .tuple #[.agg #[.int .i64 (b - a), .int .i64 365], .int .i64 0]) (by simp [results, Tryd.results7, go_sem]) rfl ⟨rfl, ?_⟩
    exact (Below.refl _ _).alloc (Nat.le_refl _) _
  · go_enter Tryd.func7, Tryd.ntmps7
    go_wp2_with (first
      | (go_at_call 29; refine (is_any _ _).mono ?_; rintro e w' ⟨rfl, rfl⟩)
      | (go_at_call_of 30 (Value.int IntKind.i64 a); refine (plain_any _ _ T.out a0 (by omega)).mono ?_; rintro e w1 ⟨rfl, hb1⟩)
      | (go_at_call_of 30 (Value.int IntKind.i64 b); refine (plain_any _ _ (T.out.below hb1) (by omega) b1).mono ?_; rintro e w2 ⟨rfl, hb2⟩
         have z1 := hb1.size
         have z2 := hb2.size
         simp only [World.size_alloc] at z1
         have g0 := keep2 w w1 w2 _ hb1 hb2 0
         have g1 := keep2 w w1 w2 _ hb1 hb2 1
         obtain ⟨k0, f0⟩ := g0
         obtain ⟨k1, f1⟩ := g1
         simp at k0 k1
         have hz : w.heap.size < w2.heap.size := by omega))
    all_goals
      refine bodyPost_ret (v := .tuple #[.agg #[.int .i64 (Cal.euro b - Cal.euro a), .int .i64 360], .int .i64 0]) (by simp [results, Tryd.results7, go_sem, k0, k1, hz]; unfold Cal.euro; omega) rfl ⟨rfl, ?_⟩
      have hB : Below w.heap.size w w2 := below_via (below_via ((Below.refl _ _).alloc (Nat.le_refl _) _) (by simp) hb1) (by omega) hb2
      go_grown
theorem between_bad (way a b : Int) (w : World) (hv : ¬ okC way a b) :
    Calls Tryd.prog 7 #[.int .i64 way, .int .i64 a, .int .i64 b] w fun e w' => e = .returned (.tuple #[.agg #[.int .i64 0, .int .i64 0], .int .i64 1]) ∧ Below w.heap.size w w' := by
  by_cases hw : 0 ≤ way ∧ way ≤ 2
  · by_cases ha : 0 ≤ a ∧ a ≤ 292193
    · have e1 := inB_t ha.1 ha.2
      by_cases hb : 0 ≤ b ∧ b ≤ 292193
      · have e2 := inB_t hb.1 hb.2
        have hl : b < a := by unfold okC at hv; omega
        clear hv
        go_enter Tryd.func7, Tryd.ntmps7
        go_wp2_with (go_at_call 29; refine (is_any _ _).mono ?_; rintro e w' ⟨rfl, rfl⟩)
        refine bodyPost_ret (v := .tuple #[.agg #[.int .i64 0, .int .i64 0], .int .i64 1]) (by simp [results, Tryd.results7, go_sem]) rfl ⟨rfl, ?_⟩
        exact (Below.refl _ _).alloc (Nat.le_refl _) _
      · have e2 : inB b 0 292193 = false := inB_f (by omega)
        clear hv hb
        go_enter Tryd.func7, Tryd.ntmps7
        go_wp2_with (go_at_call 29; refine (is_any _ _).mono ?_; rintro e w' ⟨rfl, rfl⟩)
        refine bodyPost_ret (v := .tuple #[.agg #[.int .i64 0, .int .i64 0], .int .i64 1]) (by simp [results, Tryd.results7, go_sem]) rfl ⟨rfl, ?_⟩
        exact (Below.refl _ _).alloc (Nat.le_refl _) _
    · have e1 : inB a 0 292193 = false := inB_f (by omega)
      clear hv ha
      go_enter Tryd.func7, Tryd.ntmps7
      go_wp2_with (go_at_call 29; refine (is_any _ _).mono ?_; rintro e w' ⟨rfl, rfl⟩)
      refine bodyPost_ret (v := .tuple #[.agg #[.int .i64 0, .int .i64 0], .int .i64 1]) (by simp [results, Tryd.results7, go_sem]) rfl ⟨rfl, ?_⟩
      exact (Below.refl _ _).alloc (Nat.le_refl _) _
  · have hw' : way < 0 ∨ 2 < way := by omega
    clear hv hw
    rcases hw' with hw' | hw'
    all_goals
      go_enter Tryd.func7, Tryd.ntmps7
      go_wp2_with (go_at_call 29; refine (is_any _ _).mono ?_; rintro e w' ⟨rfl, rfl⟩)
      refine bodyPost_ret (v := .tuple #[.agg #[.int .i64 0, .int .i64 0], .int .i64 1]) (by simp [results, Tryd.results7, go_sem]) rfl ⟨rfl, ?_⟩
      exact (Below.refl _ _).alloc (Nat.le_refl _) _
set_option maxHeartbeats 800000 in
/-- Euro's closure: the count of one day -/
theorem euro1_any (n : Int) (w : World) (h0 : 0 ≤ n) (h1 : n ≤ 292193) :
    Calls Tryd.prog 32 #[.int .i64 n] w fun e w' => e = .returned (.int .i64 (Cal.euro n)) ∧ Below w.heap.size w w' := by
  obtain ⟨⟨y1, y2, m1, m2, d1, d2⟩, _⟩ := Cal.date_ok n h0 h1
  have la := Cal.len_bd (Cal.dY n) (Cal.dM n)
  by_cases hd : Cal.dD n = 31
  · have HD := Lib.hid hd
    have b : (Cal.dD n == 31) = true := by simp [hd]
    clear hd
    go_enter Tryd.func32, Tryd.ntmps32
    go_wp2_with (go_at_call 14; refine (rdate_any _ _ h0 h1).mono ?_; rintro e w1 ⟨rfl, hb⟩)
    go_ret
    exact ⟨ret_int (by have := HD.out; unfold Cal.euro; omega), Below.alloc hb hb.size _⟩
  · have b : (Cal.dD n == 31) = false := by simpa using hd
    go_enter Tryd.func32, Tryd.ntmps32
    go_wp2_with (go_at_call 14; refine (rdate_any _ _ h0 h1).mono ?_; rintro e w1 ⟨rfl, hb⟩)
    go_ret
    exact ⟨ret_int (by unfold Cal.euro; omega), Below.alloc hb hb.size _⟩
theorem euro_bd (n : Int) (h0 : 0 ≤ n) (h1 : n ≤ 292193) : 0 ≤ Cal.euro n ∧ Cal.euro n ≤ 1000000 := by
  obtain ⟨⟨y1, y2, m1, m2, d1, d2⟩, _⟩ := Cal.date_ok n h0 h1
  have la := Cal.len_bd (Cal.dY n) (Cal.dM n)
  unfold Cal.euro; omega
theorem euro_any (a b : Int) (w : World) (a0 : 0 ≤ a) (a1 : a ≤ 292193) (b0 : 0 ≤ b) (b1 : b ≤ 292193) :
    Calls Tryd.prog 9 #[.int .i64 a, .int .i64 b] w fun e w' => e = .returned (.int .i64 (Cal.euro b - Cal.euro a)) ∧ Below w.heap.size w w' := by
  obtain ⟨p0, p1⟩ := euro_bd a a0 a1
  obtain ⟨q0, q1⟩ := euro_bd b b0 b1
  go_enter Tryd.func9, Tryd.ntmps9
  go_wp2_with (first
    | (go_at_call_of 32 (Value.int IntKind.i64 b); refine (euro1_any _ _ b0 b1).mono ?_; rintro e v1 ⟨rfl, hw1⟩)
    | (go_at_call_of 32 (Value.int IntKind.i64 a); refine (euro1_any _ _ a0 a1).mono ?_; rintro e v2 ⟨rfl, hw2⟩))
  go_ret
  exact ⟨rfl, below_via hw1 hw1.size hw2⟩
end Go.Proofs.YthndfckapbbbfaaDoor
