/-
  Contracts: line.Straight, Digits; talref.Parts.
-/
import Derived.Test.YthndfckapbbbfaaLineB
namespace Go.Proofs.Ythndfckapbbbfaa
open Go.RowKit
set_option linter.unusedVariables false
theorem own_mono {w : World} {b b' : Nat} {v : Value} {xs : List Int} (h : OwnI w b v xs) (hb : b' ≤ b) : OwnI w b' v xs := by
  rcases h with ⟨h1, h2 | ⟨g, cap, cur, hv, hg, r⟩⟩
  · exact ⟨h1, .inl h2⟩
  · exact ⟨h1, .inr ⟨g, cap, cur, hv, by omega, r⟩⟩
theorem FS_bd (c r : Int) (m : Nat) (h : okL c r m) (k : Nat) (k1 : k ≤ m) : -10000000000000000 ≤ FS (c - r) m k ∧ FS (c - r) m k ≤ 10000000000000000 := by
  obtain ⟨h0, h1, h2, h3, h4, h5⟩ := h
  obtain ⟨a0, a1⟩ := amt_bd (a := c - r) (x := k) (by omega) (by omega) (by omega) (by omega)
  have := rnd_bd (M := 1640000000000000) (x := (c - r) * k) (d := m) 2 h4 (by omega) (by omega) (by omega)
  unfold FS
  omega
theorem FD_bd (c r : Int) (m : Nat) (h : okL c r m) (k : Nat) (k1 : k ≤ m) : -10000000000000000 ≤ FD (c - r) m k ∧ FD (c - r) m k ≤ 10000000000000000 := by
  obtain ⟨h0, h1, h2, h3, h4, h5⟩ := h
  obtain ⟨d0, d1, _⟩ := dg_all m k (by omega) (by omega) h5
  have d2 := (dg_all m m (by omega) (by omega) h5).2.2.2.2.2.2.2.2.2.2 h4
  obtain ⟨a0, a1⟩ := amt_bd (a := c - r) (x := dg m k) (by omega) (by omega) d0 (by omega)
  have := rnd_bd (M := 1640000000000000) (x := (c - r) * dg m k) (d := dg m m) 2 d2 (by omega) (by omega) (by omega)
  unfold FD
  omega
theorem cellN {w : World} {b : Nat} (v : Value) (t : TypeId) (h : b = w.heap.size) : (w.alloc (.cells #[v] t)).cell? ⟨b, 0, none⟩ = some v := by
  subst h
  simp
theorem cellO {w : World} {b : Nat} (o : Obj) {i : Nat} (h : b < w.heap.size) : (w.alloc o).cell? ⟨b, i, none⟩ = w.cell? ⟨b, i, none⟩ := ((Below.refl w.heap.size w).alloc (Nat.le_refl _) o).cell (p := ⟨b, i, none⟩) h
theorem cell3 {w : World} {a b c : Value} {t t' t'' : TypeId} :
    (((w.alloc (.cells #[a] t)).alloc (.cells #[b] t')).alloc (.cells #[c] t'')).cell? ⟨w.heap.size, 0, none⟩ = some a ∧
    (((w.alloc (.cells #[a] t)).alloc (.cells #[b] t')).alloc (.cells #[c] t'')).cell? ⟨w.heap.size + 1, 0, none⟩ = some b ∧
    (((w.alloc (.cells #[a] t)).alloc (.cells #[b] t')).alloc (.cells #[c] t'')).cell? ⟨w.heap.size + 2, 0, none⟩ = some c := by
  refine ⟨?_, ?_, ?_⟩
  · rw [cellO _ (by simp; omega), cellO _ (by simp), cellN _ _ rfl]
  · rw [cellO _ (by simp), cellN _ _ (by simp)]
  · exact cellN _ _ (by simp)
theorem hmf_ : ∀ (fn : Fn) (first cap : Array Value) (w : World), (Instr.makeFunc fn first cap).run Try.prog w = .ok (.func fn first cap) w := fun _ _ _ _ => rfl
theorem eg_straight1 : ∀ args w, (callFunc 68 args).run Try.prog w = .ok (.enter 68 args) w := enters_of Try.func68 (by kernel_rfl) rfl
set_option maxHeartbeats 800000 in
theorem straight_ok (c r : Int) (m : Nat) (w : World) (h : okL c r m) :
    Calls Try.prog 22 #[.int .i64 c, .int .i64 r, .int .i64 m] w fun e w' => ∃ v, e = .returned (.tuple #[v, .int .i64 0]) ∧ OwnI w' w.heap.size v (steps (FS (c - r) m) m) ∧ Below w.heap.size w w' := by
  have L := lookE_t h
  have lk := look_any c r m
  rw [L] at lk
  have LK := Lib.hid lk
  have OK := Lib.hid h
  clear lk L h
  have hmf := hmf_
  go_enter Try.func22, Try.ntmps22
  go_wp2_with (go_at_call 66; refine (LK.out _).mono ?_; rintro e w' ⟨rfl, rfl⟩)
  refine (parts_any m 68 _ (FS (c - r) m) _ (by have := OK.out.2.2.2.2.1; omega) (by have := OK.out.2.2.2.2.2; omega) (fun k hk => FS_bd c r m OK.out k hk) eg_straight1 (fun k w' k0 k1 hb => ?_)).mono ?_
  · obtain ⟨c0, c1, c2⟩ := cell3 (w := w) (a := .int .i64 c) (b := .int .i64 r) (c := .int .i64 m) (t := 3) (t' := 3) (t'' := 3)
    refine straight1_any c r m k w.heap.size w' OK.out k0 k1 ?_ ?_ ?_
    · rw [hb.cell (p := ⟨w.heap.size, 0, none⟩) (by simp; omega)]; exact c0
    · rw [hb.cell (p := ⟨w.heap.size + 1, 0, none⟩) (by simp)]; exact c1
    · rw [hb.cell (p := ⟨w.heap.size + 2, 0, none⟩) (by simp)]; exact c2
  · rintro e w1 ⟨v, rfl, hown, hB⟩
    have HO := Lib.hid hown
    have BB := Lib.hid hB
    clear hown hB
    go_wp2
    go_ret2
    refine ⟨v, rfl, own_mono HO.out (by simp; omega), below_via ?_ (by simp; omega) BB.out⟩
    go_grown
theorem straight_bad (c r n : Int) (w : World) (h : ¬ okL c r n) :
    Calls Try.prog 22 #[.int .i64 c, .int .i64 r, .int .i64 n] w fun e w' => e = .returned (.tuple #[.slice none 0 0, .int .i64 1]) ∧ Below w.heap.size w w' := by
  have lk := look_any c r n
  rw [lookE_f h] at lk
  have LK := Lib.hid lk
  clear lk h
  go_enter Try.func22, Try.ntmps22
  go_wp2_with (go_at_call 66; refine (LK.out _).mono ?_; rintro e w' ⟨rfl, rfl⟩)
  go_ret2
  refine ⟨rfl, ?_⟩
  go_grown
theorem eg_digits1 : ∀ args w, (callFunc 69 args).run Try.prog w = .ok (.enter 69 args) w := enters_of Try.func69 (by kernel_rfl) rfl
set_option maxHeartbeats 800000 in
theorem digits_ok (c r : Int) (m : Nat) (w : World) (h : okL c r m) :
    Calls Try.prog 23 #[.int .i64 c, .int .i64 r, .int .i64 m] w fun e w' => ∃ v, e = .returned (.tuple #[v, .int .i64 0]) ∧ OwnI w' w.heap.size v (steps (FD (c - r) m) m) ∧ Below w.heap.size w w' := by
  have L := lookE_t h
  have lk := look_any c r m
  rw [L] at lk
  have LK := Lib.hid lk
  have OK := Lib.hid h
  obtain ⟨h0, h1, h2, h3, h4, h5⟩ := h
  have n0 : 0 ≤ (m : Int) * ((m : Int) + 1) := Int.mul_nonneg (by omega) (by omega)
  have n1 : (m : Int) * ((m : Int) + 1) ≤ 1640 := (dg_all m m (by omega) (by omega) h5).2.2.2.2.2.2.2.2.2.1
  have E := Lib.hid (dg_all m m (by omega) (by omega) h5).2.2.2.2.1
  clear lk L
  have hmf := hmf_
  go_enter Try.func23, Try.ntmps23
  go_wp2_with (go_at_call 66; refine (LK.out _).mono ?_; rintro e w' ⟨rfl, rfl⟩)
  refine (parts_any m 69 _ (FD (c - r) m) _ (by have := OK.out.2.2.2.2.1; omega) (by have := OK.out.2.2.2.2.2; omega) (fun k hk => FD_bd c r m OK.out k hk) eg_digits1 (fun k w' k0 k1 hb => ?_)).mono ?_
  · obtain ⟨c0, c1, c2⟩ := cell3 (w := w) (a := .int .i64 c) (b := .int .i64 r) (c := .int .i64 m) (t := 3) (t' := 3) (t'' := 3)
    refine digits1_any c r m k w.heap.size w' OK.out k0 k1 ?_ ?_ ?_ (w.heap.size + 1 + 1 + 1) ?_
    · rw [hb.cell (p := ⟨w.heap.size, 0, none⟩) (by simp; omega), cellO _ (by simp; omega)]; exact c0
    · rw [hb.cell (p := ⟨w.heap.size + 1, 0, none⟩) (by go_size), cellO _ (by simp)]; exact c1
    · rw [hb.cell (p := ⟨w.heap.size + 2, 0, none⟩) (by go_size), cellO _ (by simp)]; exact c2
    · rw [hb.cell (p := ⟨w.heap.size + 1 + 1 + 1, 0, none⟩) (by simp), cellN _ _ (by simp), E.out]
  · rintro e w1 ⟨v, rfl, hown, hB⟩
    have HO := Lib.hid hown
    have BB := Lib.hid hB
    clear hown hB
    go_wp2
    go_ret2
    refine ⟨v, rfl, own_mono HO.out (by simp; omega), below_via ?_ (by simp; omega) BB.out⟩
    go_grown
theorem digits_bad (c r n : Int) (w : World) (h : ¬ okL c r n) :
    Calls Try.prog 23 #[.int .i64 c, .int .i64 r, .int .i64 n] w fun e w' => e = .returned (.tuple #[.slice none 0 0, .int .i64 1]) ∧ Below w.heap.size w w' := by
  have lk := look_any c r n
  rw [lookE_f h] at lk
  have LK := Lib.hid lk
  clear lk h
  go_enter Try.func23, Try.ntmps23
  go_wp2_with (go_at_call 66; refine (LK.out _).mono ?_; rintro e w' ⟨rfl, rfl⟩)
  go_ret2
  refine ⟨rfl, ?_⟩
  go_grown
end Go.Proofs.Ythndfckapbbbfaa
