/-
  The place of an entry in a book, run by the machine: slices.BinarySearchFunc.
-/
import Derived.Test.YtdmkmbaaemhhhaaGreatDoorPoE
namespace Go.Acc
open Go
theorem posE_mid {x : En} {E : List En} (hs : srtE E) {h : Nat} {y : En} (hy : E[h]? = some y) : (ltB y x = true → ∀ (k : Nat) z, k ≤ h → E[k]? = some z → ltB z x = true) ∧ (ltB y x = false → ∀ (k : Nat) z, h ≤ k → E[k]? = some z → ltB z x = false) := by
  constructor
  · intro hl k z hk hz
    rcases Nat.lt_or_ge k h with hkh | hkh
    · exact ltB_trans (hs k h z y hkh hz hy) hl
    · have e : k = h := by omega
      subst e
      rw [hy] at hz
      cases hz
      exact hl
  · intro hl k z hk hz
    rcases Nat.lt_or_ge h k with hkh | hkh
    · cases hzx : ltB z x with
      | false => rfl
      | true =>
        have := ltB_trans (hs h k y z hkh hy hz) hzx
        rw [hl] at this
        cases this
    · have e : k = h := by omega
      subst e
      rw [hy] at hz
      cases hz
      exact hl
end Go.Acc
namespace Go.Proofs.YtdmkmbaaemhhhaaGreatDoor
open Go Go.Ev Go.RowKit Go.Acc
set_option maxHeartbeats 4000000
set_option linter.unusedSimpArgs false
set_option linter.unusedVariables false

theorem half_shr (n : Nat) : binV .shr (.int .u64 ((n : Nat) : Int)) (.int .u64 1) = some (.int .u64 ((n / 2 : Nat) : Int)) := by
  have h : (2 ^ (min (Int.toNat 1) IntKind.u64.bits) : Int) = 2 := rfl
  have e : binV .shr (.int .u64 ((n : Nat) : Int)) (.int .u64 1) = some (.int .u64 (Int.fdiv ((n : Nat) : Int) (2 ^ (min (Int.toNat 1) IntKind.u64.bits)))) := by unfold binV; simp
  rw [e, h, Int.fdiv_eq_ediv_of_nonneg _ (by omega)]
  rfl
set_option maxHeartbeats 4000000 in
theorem bse_sound {J : World → Prop} (hJ : Stable J) (E : List En) (x : En) (hs : srtE E) (hE : ∀ y ∈ E, 0 ≤ y.2.1 ∧ y.2.1 ≤ 292193) (hx : 0 ≤ x.2.1 ∧ x.2.1 ≤ 292193) (hl : E.length ≤ 60) :
    SoundAt Tryz.prog J 35 [.row 3 (E.map enW), enW x, .fn 36 []] (.tup [.int .i64 (posE x E), .bool (bsB x E)]) [] := by
  obtain ⟨xk, xd, xl⟩ := x
  simp only at hx
  unfold enW
  refine evFn (l := [(36, cmpF)]) (nv := nv0) (fz := fz0) (dr := dr35) (dd := dd35) (lam := []) (ms := ms0) ⟨cmp_snd hJ, trivial⟩ hJ trivial ms0_ok Tryz.func35 rfl rfl (Nat.le_of_ble_eq_true rfl) (Nat.le_of_ble_eq_true rfl) drOk35 ?_
  dsimp only [Tryz.f35, dr35, dd35, Option.getD_some]
  refine ev_start ?_
  simp (disch := omega) only [List.length_map, go_sem, evP_D, evD_guard, evD_cons, evD_zero, evD_nil]
  refine evQ_loop [0, 2, 4, 8, 9, 10] [32] (fun σ => ∃ i j : Nat, (i ≤ j ∧ j ≤ E.length ∧ (∀ (k : Nat) y, k < i → E[k]? = some y → ltB y (xk, xd, xl) = true) ∧ (∀ (k : Nat) y, j ≤ k → E[k]? = some y → ltB y (xk, xd, xl) = false)) ∧
      σ = ⟨[(0, .row 3 (E.map enW)), (2, .fn 36 []), (4, .ptr 32 0), (8, .int .i64 E.length), (9, .int .i64 i), (10, .int .i64 j)], [(32, .box (.agg [.str xk, .int .i64 xd, .row 2 (xl.map acV)]))]⟩)
    (fun σ => (match Ev.look 10 σ.env with | some (.int _ n) => n.toNat | _ => 0) - (match Ev.look 9 σ.env with | some (.int _ n) => n.toNat | _ => 0)) ?_ ?_
  · simp only [go_sem, evP_D, evD_guard, evD_cons, evD_zero, evD_nil]
    exact ⟨0, E.length, ⟨Nat.zero_le _, Nat.le_refl _, fun _ _ h => by omega, fun k y hk hy => by have := (List.getElem?_eq_some_iff.1 hy).1; omega⟩, rfl⟩
  · rintro σ ⟨i, j, ⟨hij, hj, h1, h2⟩, rfl⟩
    by_cases hlt : i < j
    · have hlt' : (i : Int) < j := by omega
      have hlt1 : (i + j) / 2 < E.length := by omega
      obtain ⟨⟨c, d, l⟩, hcn⟩ : ∃ p, E[(i + j) / 2]? = some p := ⟨_, List.getElem?_eq_getElem hlt1⟩
      have hg := enW_get hcn
      have hdd := hE _ (List.mem_of_getElem? hcn)
      simp only at hdd
      have hc := cmpF_eq (a := c) (b := xk) (d := d) (e := xd) (l := l) (m := xl) hdd hx
      have w1 : IntKind.i64.wrap ((i : Int) + (j : Int)) = ((i + j : Nat) : Int) := by rw [IntKind.wrap_i64]; omega
      have w2 : IntKind.u64.wrap ((i + j : Nat) : Int) = ((i + j : Nat) : Int) := by simp [IntKind.wrap, IntKind.bits, IntKind.signed]; omega
      have w3 : IntKind.i64.wrap (((i + j) / 2 : Nat) : Int) = (((i + j) / 2 : Nat) : Int) := by rw [IntKind.wrap_i64]; omega
      have hm := posE_mid (x := (xk, xd, xl)) hs hcn
      cases hb : ltB (c, d, l) (xk, xd, xl) with
      | true =>
        have hneg : cmpE (c, d, l) (xk, xd, xl) < 0 := by
          have := (cmpE_ge (c, d, l) (xk, xd, xl))
          rw [hb] at this
          simp only [reduceCtorEq, iff_false] at this
          omega
        simp (disch := (first | omega | assumption)) only [hlt', w1, w2, w3, half_shr, idx_nat, List.length_map, hg, hc, hneg, go_sem, evP_D, evD_guard, evD_cons, evD_zero, evD_nil]
        refine ⟨⟨(i + j) / 2 + 1, j, ⟨by omega, hj, fun k y hk hy => hm.1 hb k y (by omega) hy, h2⟩, rfl⟩, ?_⟩
        have e3 : ((((i + j) / 2 : Nat) : Int) + 1).toNat = (i + j) / 2 + 1 := by omega
        rw [e3, Int.toNat_natCast, Int.toNat_natCast]
        omega
      | false =>
        have hneg : ¬ cmpE (c, d, l) (xk, xd, xl) < 0 := by
          have := (cmpE_ge (c, d, l) (xk, xd, xl)).2 hb
          omega
        simp (disch := (first | omega | assumption)) only [hlt', w1, w2, w3, half_shr, idx_nat, List.length_map, hg, hc, hneg, go_sem, evP_D, evD_guard, evD_cons, evD_zero, evD_nil]
        refine ⟨⟨i, (i + j) / 2, ⟨by omega, by omega, h1, fun k y hk hy => hm.2 hb k y hk hy⟩, rfl⟩, ?_⟩
        rw [Int.toNat_natCast, Int.toNat_natCast, Int.toNat_natCast]
        omega
    · have hij' : i = j := by omega
      subst hij'
      have hlt' : ¬ ((i : Int) < (i : Int)) := by omega
      have hp := posE_uniq (xk, xd, xl) E i hj h1 h2
      rw [hp]
      by_cases hi : i < E.length
      · have hi' : (i : Int) < E.length := by omega
        obtain ⟨⟨c, d, l⟩, hcn⟩ : ∃ p, E[i]? = some p := ⟨_, List.getElem?_eq_getElem hi⟩
        have hg := enW_get hcn
        have hdd := hE _ (List.mem_of_getElem? hcn)
        simp only at hdd
        have hc := cmpF_eq (a := c) (b := xk) (d := d) (e := xd) (l := l) (m := xl) hdd hx
        have hbs : bsB (xk, xd, xl) E = decide (cmpE (c, d, l) (xk, xd, xl) = 0) := by unfold bsB; rw [hp, hcn]
        by_cases h0 : cmpE (c, d, l) (xk, xd, xl) = 0
        · have h0' := decide_eq_true h0
          simp (disch := (first | omega | assumption)) only [hlt', hi', idx_nat, List.length_map, hg, hc, hbs, h0, go_sem, evP_D, evD_guard, evD_cons, evD_zero, evD_nil]
        · have h0' := decide_eq_false h0
          simp (disch := (first | omega | assumption)) only [hlt', hi', idx_nat, List.length_map, hg, hc, hbs, h0, go_sem, evP_D, evD_guard, evD_cons, evD_zero, evD_nil]
      · have hi' : ¬ ((i : Int) < E.length) := by omega
        have hbs : bsB (xk, xd, xl) E = false := by unfold bsB; rw [hp, List.getElem?_eq_none (by omega)]
        simp (disch := (first | omega | assumption)) only [hlt', hi', hbs, go_sem, evP_D, evD_guard, evD_cons, evD_zero, evD_nil]
end Go.Proofs.YtdmkmbaaemhhhaaGreatDoor
