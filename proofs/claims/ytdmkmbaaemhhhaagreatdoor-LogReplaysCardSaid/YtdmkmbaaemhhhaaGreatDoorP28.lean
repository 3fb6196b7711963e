/-
  The document's Get, Same and copies of rows of entries, run by the machine.
-/
import Derived.Test.YtdmkmbaaemhhhaaGreatDoorP27
import Derived.Test.YtdmkmbaaemhhhaaGreatDoorP20
set_option linter.unusedVariables false
set_option linter.unusedSimpArgs false
namespace Go.Acc
open Go Go.Ev
theorem getE_at {key : ByteArray} : ∀ {E : List En} {k : Nat} {y : En}, E[k]? = some y → y.1 = key → (∀ i z, i < k → E[i]? = some z → z.1 ≠ key) → getE key E = some y
 | [], k, y, h, _, _ => by simp at h
 | x :: r, 0, y, h, hk, _ => by
  simp at h
  subst h
  unfold getE
  rw [List.find?_cons, decide_eq_true hk]
 | x :: r, k + 1, y, h, hk, hn => by
  have h0 := hn 0 x (Nat.succ_pos _) rfl
  have ih := getE_at (E := r) (k := k) (y := y) (by simpa using h) hk fun i z hi hz => hn (i + 1) z (by omega) (by simpa using hz)
  unfold getE at ih ⊢
  rw [List.find?_cons, decide_eq_false h0]
  exact ih
theorem getE_no {key : ByteArray} {E : List En} (h : ∀ (i : Nat) (z : En), E[i]? = some z → z.1 ≠ key) : getE key E = none := by
 unfold getE
 rw [List.find?_eq_none]
 intro x hx
 obtain ⟨i, hi⟩ := List.mem_iff_getElem?.1 hx
 simpa using h i x hi
end Go.Acc
namespace Go.Ev
open Go Go.RowKit
theorem own_empty {P : Program} {J : World → Prop} {f : FuncId} {args : List V} {T : TypeId} {sz : Nat} {r : V} (hpos : 0 < sz) (h : SoundAt P J f args r []) (hd : V.data r = true) (hr : ∀ (w : World) (ok : Nat → Prop) val, RelD w ok r val → ∃ ad, val = .slice ad 0 0) : SoundAt P J f args (.vec 0) [.vec T sz []] := by
 refine ⟨h.1, fun w ok us hJ hok hlen hrel => (h.2 w ok us hJ hok hlen hrel).mono ?_⟩
 rintro e w' ⟨val, ρr, he, hb, hi, hrr⟩
 obtain ⟨ad, rfl⟩ := hr _ _ _ (hrr.toD hd)
 have key : ∀ b sv, one 0 (Value.slice ad 0 0) b = some sv → b = 0 ∧ sv = .slice ad 0 0 := by
  intro b sv hs
  unfold Ev.one at hs
  split at hs
  ·rename_i e; simp at hs; exact ⟨e, hs.symm⟩
  ·cases hs
 refine ⟨.slice ad 0 0, one 0 (.slice ad 0 0), he, hb, ⟨hb.size, ?_, ?_, ?_⟩, .vec 0 _ (by simp [one]) rfl⟩
 ·intro b k hk
  match b with
  | 0 =>
   simp at hk
   subst hk
   exact ⟨.slice ad 0 0, by simp [one], hpos, [], rfl, (by simp), (by simp), (by simp), .inl ⟨ad, rfl, rfl⟩⟩
  | b + 1 => simp at hk
 ·intro b sv hs
  obtain ⟨rfl, rfl⟩ := key b sv hs
  exact ⟨_, rfl⟩
 ·intro b b' sv s2 g h1 h2 _ _
  rw [(key b sv h1).1, (key b' s2 h2).1]
end Go.Ev
namespace Go.Proofs.YtdmkmbaaemhhhaaGreatDoor
open Go Go.Ev Go.RowKit Go.Acc
set_option maxHeartbeats 4000000
theorem cloneE_sound {J : World → Prop} (hJ : Stable J) (E : List En) (hl : E.length ≤ 1000) : SoundAt Tryz.prog J 44 [.row 3 (E.map enW)] (.vec 0) [.vec 28 3 (E.map enW)] := by
 cases E with
 | nil =>
  refine sound_empty ?_ (fun a c => ?_)
  ·refine own_empty (r := .zero) (by decide) ?_ rfl (fun w ok val hv => by cases hv; exact ⟨_, rfl⟩)
   refine evFn (l := []) (nv := nv0) (fz := fz0) (dr := dr44) (dd := dd44) (lam := []) (ms := ms0) trivial hJ trivial ms0_ok Tryz.func44 rfl rfl (Nat.le_of_ble_eq_true rfl) (Nat.le_of_ble_eq_true rfl) drOk44 ?_
   dsimp only [Tryz.f44, dr44, dd44, Option.getD_some]
   refine ev_start ?_
   simp (disch := omega) only [bin_eql_rawz, go_sem, evP_D, evD_guard, evD_cons, evD_zero, evD_nil]
  ·skip
   refine evFn (l := []) (nv := nv0) (fz := fz0) (dr := dr44) (dd := dd44) (lam := []) (ms := ms0) trivial hJ trivial ms0_ok Tryz.func44 rfl rfl (Nat.le_of_ble_eq_true rfl) (Nat.le_of_ble_eq_true rfl) drOk44 ?_
   dsimp only [Tryz.f44, dr44, dd44, Option.getD_some]
   refine ev_start ?_
   simp (disch := omega) only [bin_eql_rawz, go_sem, evP_D, evD_guard, evD_cons, evD_zero, evD_nil]
 | cons p l =>
  refine evFn (l := []) (nv := nv0) (fz := fz0) (dr := dr44) (dd := dd44) (lam := []) (ms := ms0) trivial hJ trivial ms0_ok Tryz.func44 rfl rfl (Nat.le_of_ble_eq_true rfl) (Nat.le_of_ble_eq_true rfl) drOk44 ?_
  dsimp only [Tryz.f44, dr44, dd44, Option.getD_some]
  refine ev_start ?_
  have h1 : 0 < l.length + 1 := by omega
  rw [List.length_cons] at hl
  simp (disch := omega) only [h1, List.length_map, List.length_cons, go_sem, evP_D, evD_guard, evD_cons, evD_zero, evD_nil]
theorem rsame_sound {J : World → Prop} (hJ : Stable J) (x y : En) : SoundAt Tryz.prog J 13 [enW x, enW y] (.bool (decide (x = y))) [] := by
 obtain ⟨k, d, l⟩ := x
 obtain ⟨k', d', l'⟩ := y
 unfold enW
 by_cases hk : k = k'
 ·subst hk
  by_cases hd : d = d'
  ·subst hd
   have e : decide ((k, d, l) = (k, d, l')) = decide (l = l') := by simp
   refine evFn (l := [(43, eqLF)]) (nv := nv0) (fz := fz0) (dr := dr13) (dd := dd13) (lam := []) (ms := ms0) ⟨eqL_snd hJ, trivial⟩ hJ trivial ms0_ok Tryz.func13 rfl rfl (Nat.le_of_ble_eq_true rfl) (Nat.le_of_ble_eq_true rfl) drOk13 ?_
   dsimp only [Tryz.f13, dr13, dd13, Option.getD_some]
   refine ev_start ?_
   simp (disch := omega) only [eqLF_rows, bin_eql_str, decide_true, e, go_sem, evP_D, evD_guard, evD_cons, evD_zero, evD_nil]
  ·have e : decide ((k, d, l) = (k, d', l')) = false := by simp [hd]
   refine evFn (l := [(43, eqLF)]) (nv := nv0) (fz := fz0) (dr := dr13) (dd := dd13) (lam := []) (ms := ms0) ⟨eqL_snd hJ, trivial⟩ hJ trivial ms0_ok Tryz.func13 rfl rfl (Nat.le_of_ble_eq_true rfl) (Nat.le_of_ble_eq_true rfl) drOk13 ?_
   dsimp only [Tryz.f13, dr13, dd13, Option.getD_some]
   refine ev_start ?_
   simp (disch := omega) only [eqLF_rows, bin_eql_str, decide_true, hd, e, go_sem, evP_D, evD_guard, evD_cons, evD_zero, evD_nil]
 ·have e : decide ((k, d, l) = (k', d', l')) = false := by simp [hk]
  have hk' := decide_eq_false hk
  refine evFn (l := [(43, eqLF)]) (nv := nv0) (fz := fz0) (dr := dr13) (dd := dd13) (lam := []) (ms := ms0) ⟨eqL_snd hJ, trivial⟩ hJ trivial ms0_ok Tryz.func13 rfl rfl (Nat.le_of_ble_eq_true rfl) (Nat.le_of_ble_eq_true rfl) drOk13 ?_
  dsimp only [Tryz.f13, dr13, dd13, Option.getD_some]
  refine ev_start ?_
  simp (disch := omega) only [eqLF_rows, bin_eql_str, hk', e, go_sem, evP_D, evD_guard, evD_cons, evD_zero, evD_nil]
def rgV (E : List En) (key : ByteArray) : V := match getE key E with
 | some y => .tup [enW y, .bool true]
 | none => .tup [.agg [.str ByteArray.empty, .int .i64 0, .zero], .bool false]
set_option maxHeartbeats 4000000 in
theorem rget_sound {J : World → Prop} (hJ : Stable J) (A : List (ByteArray × Int)) (E : List En) (s : Int) (key : ByteArray) (hE : E.length ≤ maxLen) : SoundAt Tryz.prog J 15 [bkV A E s, .str key] (rgV E key) [] := by
 simp only [maxLen] at hE
 unfold bkV
 obtain ⟨R, hR⟩ : ∃ R, R = rgV E key := ⟨_, rfl⟩
 rw [← hR]
 refine evFn (l := []) (nv := nv0) (fz := fz0) (dr := dr15) (dd := dd15) (lam := []) (ms := ms0) trivial hJ trivial ms0_ok Tryz.func15 rfl rfl (Nat.le_of_ble_eq_true rfl) (Nat.le_of_ble_eq_true rfl) drOk15 ?_
 dsimp only [Tryz.f15, dr15, dd15, Option.getD_some]
 refine ev_start ?_
 simp (disch := omega) only [List.length_map, go_sem, evP_D, evD_guard, evD_cons, evD_zero, evD_nil]
 refine evQ_loop [1, 4, 9, 10, 11] [32] (fun σ => ∃ k : Nat, (k ≤ E.length ∧ ∀ i z, i < k → E[i]? = some z → z.1 ≠ key) ∧ σ = ⟨[(1, .str key), (4, .ptr 32 0), (9, .row 3 (E.map enW)), (10, .int .i64 E.length), (11, .int .i64 k)], [(32, .box (.agg [.str ByteArray.empty, .int .i64 0, .zero]))]⟩)
  (fun σ => E.length - (match Ev.look 11 σ.env with | some (.int _ n) => n.toNat | _ => 0)) ?_ ?_
 ·simp only [go_sem, evP_D, evD_guard, evD_cons, evD_zero, evD_nil]
  exact ⟨0, ⟨Nat.zero_le _, fun _ _ h => by omega⟩, rfl⟩
 ·rintro σ ⟨k, ⟨hk, hall⟩, rfl⟩
  by_cases hlt : k < E.length
  ·have hlt' : (k : Int) < E.length := by omega
   obtain ⟨⟨c, d, l⟩, hcn⟩ : ∃ p, E[k]? = some p := ⟨_, List.getElem?_eq_getElem hlt⟩
   have hg := enW_get hcn
   by_cases hc : c = key
   ·have hge := getE_at hcn hc hall
    have hc' := decide_eq_true hc
    have e : R = .tup [.agg [.str c, .int .i64 d, .row 2 (l.map acV)], .bool true] := by rw [hR]; unfold rgV; rw [hge]; rfl
    subst e
    clear hR
    simp (disch := (first | omega | assumption)) only [hlt', idx_nat, List.length_map, hg, bin_eql_str, hc', go_sem, evP_D, evD_guard, evD_cons, evD_zero, evD_nil]
   ·have hc' := decide_eq_false hc
    simp (disch := (first | omega | assumption)) only [hlt', idx_nat, List.length_map, hg, bin_eql_str, hc', go_sem, evP_D, evD_guard, evD_cons, evD_zero, evD_nil]
    refine ⟨⟨k + 1, ⟨hlt, fun i z hi hz => ?_⟩, rfl⟩, ?_⟩
    ·by_cases hik : i = k
     ·subst hik
      rw [hcn] at hz
      cases hz
      exact hc
     ·exact hall i z (by omega) hz
    ·have e3 : ((k : Int) + 1).toNat = k + 1 := by omega
     rw [e3, Int.toNat_natCast]; exact Nat.sub_lt_sub_left hlt (Nat.lt_succ_self k)
  ·have hk' : k = E.length := by omega
   have hlt' : ¬ ((k : Int) < E.length) := by omega
   have hge := getE_no (key := key) (E := E) fun i z hz => hall i z (by have := (List.getElem?_eq_some_iff.1 hz).1; omega) hz
   have e : R = .tup [.agg [.str ByteArray.empty, .int .i64 0, .zero], .bool false] := by rw [hR]; unfold rgV; rw [hge]
   subst e
   clear hR
   simp (disch := (first | omega | assumption)) only [hlt', go_sem, evP_D, evD_guard, evD_cons, evD_zero, evD_nil]
end Go.Proofs.YtdmkmbaaemhhhaaGreatDoor
