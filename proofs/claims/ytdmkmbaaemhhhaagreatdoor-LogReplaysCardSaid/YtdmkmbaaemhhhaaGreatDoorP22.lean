/-
  Steps of the proof of LogReplays: PoE PoF.
-/
import Derived.Test.YtdmkmbaaemhhhaaGreatDoorP18
import Derived.Test.YtdmkmbaaemhhhaaGreatDoorP17
import Derived.Test.YtdmkmbaaemhhhaaGreatDoorP21
set_option linter.unusedVariables false
set_option linter.unusedSimpArgs false
section
namespace Go.Acc
open Go
def isK (k : ByteArray) (y : En) : Bool := decide (y.1 = k)
def fiE (k : ByteArray) (E : List En) : Int := if E.any (isK k) = true then ((E.findIdx (isK k) : Nat) : Int) else -1
theorem find_idx {α : Type} (p : α → Bool) : ∀ (E : List α) (y : α), E.find? p = some y → E.any p = true ∧ E[E.findIdx p]? = some y
 | [], _, h => by simp at h
 | x :: r, y, h => by
  rw [List.find?_cons] at h
  rw [List.findIdx_cons, List.any_cons]
  cases hp : p x with
  | true => rw [hp] at h; simp at h; subst h; exact ⟨rfl, rfl⟩
  | false =>
   rw [hp] at h
   obtain ⟨h1, h2⟩ := find_idx p r y h
   exact ⟨by rw [h1]; rfl, h2⟩
theorem fiE_some {k : ByteArray} {E : List En} {y : En} (h : getE k E = some y) : ∃ i : Nat, fiE k E = (i : Int) ∧ E[i]? = some y := by
 obtain ⟨h1, h2⟩ := find_idx (isK k) E y h
 exact ⟨_, by unfold fiE; rw [if_pos h1], h2⟩
theorem fiE_none {k : ByteArray} {E : List En} (h : getE k E = none) : fiE k E = -1 := by
 unfold fiE
 rw [if_neg]
 intro ha
 obtain ⟨y, hy, hp⟩ := List.any_eq_true.1 ha
 exact getE_none h y hy (of_decide_eq_true hp)
def bsB (x : En) (E : List En) : Bool := match E[posE x E]? with
 | some y => decide (cmpE y x = 0)
 | none => false
end Go.Acc
namespace Go.Proofs.YtdmkmbaaemhhhaaGreatDoor
open Go Go.Ev Go.RowKit Go.Acc
set_option maxHeartbeats 4000000
theorem indexE_sound {J : World → Prop} (hJ : Stable J) (g : FuncId) (cs : List V) (G : List V → Option (V × List Ev.Blk)) (hG : Snd Tryz.prog J g G) (hd : V.dataL cs = true) (p : En → Bool) (l : List En) (hp : ∀ n ∈ l, G (enW n :: cs) = some (.bool (p n), [])) :
  SoundAt Tryz.prog J 76 [.row 3 (l.map enW), .fn g cs] (.int .i64 (if l.any p = true then ((l.findIdx p : Nat) : Int) else -1)) [] := by
 refine SoundAt.row 0 rfl (callOk Tryz.func76 rfl rfl) fun hlen => ?_
 simp only [maxLen, List.length_map] at hlen
 refine evFn (l := [(g, G)]) (nv := nv0) (fz := fz0) (dr := dr76) (dd := dd76) (lam := []) (ms := ms0) ⟨hG, trivial⟩ hJ trivial ms0_ok Tryz.func76 rfl rfl (Nat.le_of_ble_eq_true rfl) (Nat.le_of_ble_eq_true rfl) drOk76 ?_
 dsimp only [Tryz.f76, dr76, dd76, Option.getD_some]
 refine ev_start ?_
 simp (disch := omega) only [go_sem, evP_D, evD_guard, evD_cons, evD_zero, evD_nil]
 refine evQ_loop [0, 1, 7, 8] [] (fun σ => ∃ k : Nat, (k ≤ l.length ∧ ∀ i (h : i < l.length), i < k → p l[i] = false) ∧ σ = ⟨[(0, .row 3 (l.map enW)), (1, .fn g cs), (7, .int .i64 l.length), (8, .int .i64 k)], []⟩) (fun σ => l.length - (match Ev.look 8 σ.env with | some (.int _ n) => n.toNat | _ => 0)) ?_ ?_
 ·simp only [go_sem, evP_D, evD_guard, evD_cons, evD_zero, evD_nil]
  exact ⟨refsInL_data hd, 0, ⟨Nat.zero_le _, fun _ _ h => by omega⟩, rfl⟩
 ·rintro σ ⟨k, ⟨hk, hall⟩, rfl⟩
  by_cases hlt : k < l.length
  ·have hlt' : (k : Int) < l.length := by omega
   have hg : (l.map enW)[k]? = some (.agg [.str l[k].1, .int .i64 l[k].2.1, .row 2 (l[k].2.2.map acV)]) := enW_get (c := l[k].1) (d := l[k].2.1) (l := l[k].2.2) (List.getElem?_eq_getElem hlt)
   have hpk := hp l[k] (List.getElem_mem hlt)
   simp only [enW] at hpk
   cases hb : p l[k] with
   | true =>
    rw [hb] at hpk
    have hany : l.any p = true := List.any_eq_true.2 ⟨l[k], List.getElem_mem hlt, hb⟩
    have hidx : l.findIdx p = k := (List.findIdx_eq hlt).2 ⟨hb, fun j hj => hall j (by omega) hj⟩
    simp (disch := (first | omega | assumption)) only [hlt', idx_nat, List.length_map, hg, hpk, hd, V.dataL, V.data, hany, hidx, go_sem, evP_D, evD_guard, evD_cons, evD_zero, evD_nil]
   | false =>
    rw [hb] at hpk
    simp (disch := (first | omega | assumption)) only [hlt', idx_nat, List.length_map, hg, hpk, hd, refsInL_data hd, scrubL_data hd, V.dataL, V.data, go_sem, evP_D, evD_guard, evD_cons, evD_zero, evD_nil]
    exact ⟨⟨k + 1, ⟨hlt, fun i hi hik => by
     by_cases e : i = k
     ·subst e; exact hb
     ·exact hall i hi (by omega)⟩, rfl⟩, by show l.length - ((k : Int) + 1).toNat < l.length - (k : Int).toNat; omega⟩
  ·have hk' : k = l.length := by omega
   subst hk'
   have hlt' : ¬ ((l.length : Int) < l.length) := by omega
   have hany : l.any p = false := by
    rw [List.any_eq_false]
    intro x hx
    obtain ⟨i, hi, rfl⟩ := List.mem_iff_getElem.1 hx
    simp [hall i hi hi]
   simp (disch := (first | omega | assumption)) only [hlt', hany, go_sem, evP_D, evD_guard, evD_cons, evD_zero, evD_nil]
def bfind1F : List V → Option (V × List Ev.Blk)
 | [.agg [.str c, .int .i64 n, .row 2 ls], .rd (.str k) 0] => (unAc ls).map fun _ => (.bool (decide (c = k)), [])
 | _ => none
theorem bfind1_snd {J : World → Prop} (hJ : Stable J) : Snd Tryz.prog J 77 bfind1F := by
 intro args r bs h
 unfold bfind1F at h
 split at h
 ·rename_i c n ls k
  simp only [Option.map_eq_some_iff] at h
  obtain ⟨l, hl, h⟩ := h
  obtain ⟨rfl, rfl⟩ := some_pair (congrArg some h)
  rw [unAc_eq hl]
  refine evFn (l := []) (nv := nv0) (fz := fz0) (dr := dr77) (dd := dd77) (lam := []) (ms := ms0) trivial hJ trivial ms0_ok Tryz.func77 rfl rfl (Nat.le_of_ble_eq_true rfl) (Nat.le_of_ble_eq_true rfl) drOk77 ?_
  dsimp only [Tryz.f77, dr77, dd77, Option.getD_some]
  refine ev_start ?_
  simp (disch := omega) only [bin_eql_str, go_sem, evP_D, evD_guard, evD_cons, evD_zero, evD_nil]
 ·cases h
theorem bfind_sound {J : World → Prop} (hJ : Stable J) (A : List (ByteArray × Int)) (E : List En) (s : Int) (k : ByteArray) : SoundAt Tryz.prog J 30 [bkV A E s, .str k] (.int .i64 (fiE k E)) [] := by
 have hI := indexE_sound hJ 77 [.rd (.str k) 0] bfind1F (bfind1_snd hJ) rfl (isK k) E fun n _ => by simp only [bfind1F, enW, unAc_map, Option.map_some]; rfl
 unfold bkV
 refine evFn (l := [(76, at1 [.row 3 (E.map enW), .fn 77 [.rd (.str k) 0]] (.int .i64 (fiE k E), []))]) (nv := nv0) (fz := fz0) (dr := dr30) (dd := dd30) (lam := []) (ms := ms0) ⟨at1_snd hI, trivial⟩ hJ trivial ms0_ok Tryz.func30 rfl rfl (Nat.le_of_ble_eq_true rfl) (Nat.le_of_ble_eq_true rfl) drOk30 ?_
 dsimp only [Tryz.f30, dr30, dd30, Option.getD_some]
 refine ev_start ?_
 simp (disch := omega) only [at1_eq, List.mapM_cons, List.mapM_nil, Option.bind_eq_bind, Option.pure_def, Option.bind_some, go_sem, evP_D, evD_guard, evD_cons, evD_zero, evD_nil]
theorem esame_sound {J : World → Prop} (hJ : Stable J) (x y : En) : SoundAt Tryz.prog J 31 [enW x, enW y] (.bool (decide (x = y))) [] := by
 obtain ⟨k, d, l⟩ := x
 obtain ⟨k', d', l'⟩ := y
 unfold enW
 by_cases hk : k = k'
 ·subst hk
  by_cases hd : d = d'
  ·subst hd
   have e : decide ((k, d, l) = (k, d, l')) = decide (l = l') := by simp
   refine evFn (l := [(43, eqLF)]) (nv := nv0) (fz := fz0) (dr := dr31) (dd := dd31) (lam := []) (ms := ms0) ⟨eqL_snd hJ, trivial⟩ hJ trivial ms0_ok Tryz.func31 rfl rfl (Nat.le_of_ble_eq_true rfl) (Nat.le_of_ble_eq_true rfl) drOk31 ?_
   dsimp only [Tryz.f31, dr31, dd31, Option.getD_some]
   refine ev_start ?_
   simp (disch := omega) only [eqLF_rows, bin_eql_str, decide_true, e, go_sem, evP_D, evD_guard, evD_cons, evD_zero, evD_nil]
  ·have e : decide ((k, d, l) = (k, d', l')) = false := by simp [hd]
   refine evFn (l := [(43, eqLF)]) (nv := nv0) (fz := fz0) (dr := dr31) (dd := dd31) (lam := []) (ms := ms0) ⟨eqL_snd hJ, trivial⟩ hJ trivial ms0_ok Tryz.func31 rfl rfl (Nat.le_of_ble_eq_true rfl) (Nat.le_of_ble_eq_true rfl) drOk31 ?_
   dsimp only [Tryz.f31, dr31, dd31, Option.getD_some]
   refine ev_start ?_
   simp (disch := omega) only [eqLF_rows, bin_eql_str, decide_true, hd, e, go_sem, evP_D, evD_guard, evD_cons, evD_zero, evD_nil]
 ·have e : decide ((k, d, l) = (k', d', l')) = false := by simp [hk]
  have hk' := decide_eq_false hk
  refine evFn (l := [(43, eqLF)]) (nv := nv0) (fz := fz0) (dr := dr31) (dd := dd31) (lam := []) (ms := ms0) ⟨eqL_snd hJ, trivial⟩ hJ trivial ms0_ok Tryz.func31 rfl rfl (Nat.le_of_ble_eq_true rfl) (Nat.le_of_ble_eq_true rfl) drOk31 ?_
  dsimp only [Tryz.f31, dr31, dd31, Option.getD_some]
  refine ev_start ?_
  simp (disch := omega) only [eqLF_rows, bin_eql_str, hk', e, go_sem, evP_D, evD_guard, evD_cons, evD_zero, evD_nil]
end Go.Proofs.YtdmkmbaaemhhhaaGreatDoor
end
section
namespace Go.Acc
open Go
theorem posE_mid {x : En} {E : List En} (hs : srtE E) {h : Nat} {y : En} (hy : E[h]? = some y) : (ltB y x = true → ∀ (k : Nat) z, k ≤ h → E[k]? = some z → ltB z x = true) ∧ (ltB y x = false → ∀ (k : Nat) z, h ≤ k → E[k]? = some z → ltB z x = false) := by
 constructor
 ·intro hl k z hk hz
  rcases Nat.lt_or_ge k h with hkh | hkh
  ·exact ltB_trans (hs k h z y hkh hz hy) hl
  ·have e : k = h := by omega
   subst e
   rw [hy] at hz
   cases hz
   exact hl
 ·intro hl k z hk hz
  rcases Nat.lt_or_ge h k with hkh | hkh
  ·cases hzx : ltB z x with
   | false => rfl
   | true =>
    have := ltB_trans (hs h k y z hkh hy hz) hzx
    rw [hl] at this
    cases this
  ·have e : k = h := by omega
   subst e
   rw [hy] at hz
   cases hz
   exact hl
end Go.Acc
namespace Go.Proofs.YtdmkmbaaemhhhaaGreatDoor
open Go Go.Ev Go.RowKit Go.Acc
set_option maxHeartbeats 4000000
theorem half_shr (n : Nat) : binV .shr (.int .u64 ((n : Nat) : Int)) (.int .u64 1) = some (.int .u64 ((n / 2 : Nat) : Int)) := by
 have h : (2 ^ (min (Int.toNat 1) IntKind.u64.bits) : Int) = 2 := rfl
 have e : binV .shr (.int .u64 ((n : Nat) : Int)) (.int .u64 1) = some (.int .u64 (Int.fdiv ((n : Nat) : Int) (2 ^ (min (Int.toNat 1) IntKind.u64.bits)))) := by unfold binV; simp
 rw [e, h, Int.fdiv_eq_ediv_of_nonneg _ (by omega)]
 rfl
set_option maxHeartbeats 4000000 in
theorem bse_sound {J : World → Prop} (hJ : Stable J) (E : List En) (x : En) (hs : srtE E) (hE : ∀ y ∈ E, 0 ≤ y.2.1 ∧ y.2.1 ≤ 292193) (hx : 0 ≤ x.2.1 ∧ x.2.1 ≤ 292193) (hl : E.length ≤ 60) :
  SoundAt Tryz.prog J 35 [.row 3 (E.map enW), enW x, .fn 36 []] (.tup [.int .i64 (posE x E), .bool (bsB x E)]) [] := by
 obtain ⟨xk, xd, xl⟩ := x
 simp only at hx
 unfold enW
 refine evFn (l := [(36, cmpF)]) (nv := nv0) (fz := fz0) (dr := dr35) (dd := dd35) (lam := []) (ms := ms0) ⟨cmp_snd hJ, trivial⟩ hJ trivial ms0_ok Tryz.func35 rfl rfl (Nat.le_of_ble_eq_true rfl) (Nat.le_of_ble_eq_true rfl) drOk35 ?_
 dsimp only [Tryz.f35, dr35, dd35, Option.getD_some]
 refine ev_start ?_
 simp (disch := omega) only [List.length_map, go_sem, evP_D, evD_guard, evD_cons, evD_zero, evD_nil]
 refine evQ_loop [0, 2, 4, 8, 9, 10] [32] (fun σ => ∃ i j : Nat, (i ≤ j ∧ j ≤ E.length ∧ (∀ (k : Nat) y, k < i → E[k]? = some y → ltB y (xk, xd, xl) = true) ∧ (∀ (k : Nat) y, j ≤ k → E[k]? = some y → ltB y (xk, xd, xl) = false)) ∧
   σ = ⟨[(0, .row 3 (E.map enW)), (2, .fn 36 []), (4, .ptr 32 0), (8, .int .i64 E.length), (9, .int .i64 i), (10, .int .i64 j)], [(32, .box (.agg [.str xk, .int .i64 xd, .row 2 (xl.map acV)]))]⟩)
  (fun σ => (match Ev.look 10 σ.env with | some (.int _ n) => n.toNat | _ => 0) - (match Ev.look 9 σ.env with | some (.int _ n) => n.toNat | _ => 0)) ?_ ?_
 ·simp only [go_sem, evP_D, evD_guard, evD_cons, evD_zero, evD_nil]
  exact ⟨0, E.length, ⟨Nat.zero_le _, Nat.le_refl _, fun _ _ h => by omega, fun k y hk hy => by have := (List.getElem?_eq_some_iff.1 hy).1; omega⟩, rfl⟩
 ·rintro σ ⟨i, j, ⟨hij, hj, h1, h2⟩, rfl⟩
  by_cases hlt : i < j
  ·have hlt' : (i : Int) < j := by omega
   have hlt1 : (i + j) / 2 < E.length := by omega
   obtain ⟨⟨c, d, l⟩, hcn⟩ : ∃ p, E[(i + j) / 2]? = some p := ⟨_, List.getElem?_eq_getElem hlt1⟩
   have hg := enW_get hcn
   have hdd := hE _ (List.mem_of_getElem? hcn)
   simp only at hdd
   have hc := cmpF_eq (a := c) (b := xk) (d := d) (e := xd) (l := l) (m := xl) hdd hx
   have w1 : IntKind.i64.wrap ((i : Int) + (j : Int)) = ((i + j : Nat) : Int) := by rw [IntKind.wrap_i64]; omega
   have w2 : IntKind.u64.wrap ((i + j : Nat) : Int) = ((i + j : Nat) : Int) := by simp [IntKind.wrap, IntKind.bits, IntKind.signed]; omega
   have w3 : IntKind.i64.wrap (((i + j) / 2 : Nat) : Int) = (((i + j) / 2 : Nat) : Int) := by rw [IntKind.wrap_i64]; omega
   have hm := posE_mid (x := (xk, xd, xl)) hs hcn
   cases hb : ltB (c, d, l) (xk, xd, xl) with
   | true =>
    have hneg : cmpE (c, d, l) (xk, xd, xl) < 0 := by
     have := (cmpE_ge (c, d, l) (xk, xd, xl))
     rw [hb] at this
     simp only [reduceCtorEq, iff_false] at this
     omega
    simp (disch := (first | omega | assumption)) only [hlt', w1, w2, w3, half_shr, idx_nat, List.length_map, hg, hc, hneg, go_sem, evP_D, evD_guard, evD_cons, evD_zero, evD_nil]
    refine ⟨⟨(i + j) / 2 + 1, j, ⟨by omega, hj, fun k y hk hy => hm.1 hb k y (by omega) hy, h2⟩, rfl⟩, ?_⟩
    have e3 : ((((i + j) / 2 : Nat) : Int) + 1).toNat = (i + j) / 2 + 1 := by omega
    rw [e3, Int.toNat_natCast, Int.toNat_natCast]
    omega
   | false =>
    have hneg : ¬ cmpE (c, d, l) (xk, xd, xl) < 0 := by
     have := (cmpE_ge (c, d, l) (xk, xd, xl)).2 hb
     omega
    simp (disch := (first | omega | assumption)) only [hlt', w1, w2, w3, half_shr, idx_nat, List.length_map, hg, hc, hneg, go_sem, evP_D, evD_guard, evD_cons, evD_zero, evD_nil]
    refine ⟨⟨i, (i + j) / 2, ⟨by omega, by omega, h1, fun k y hk hy => hm.2 hb k y hk hy⟩, rfl⟩, ?_⟩
    rw [Int.toNat_natCast, Int.toNat_natCast, Int.toNat_natCast]
    omega
  ·have hij' : i = j := by omega
   subst hij'
   have hlt' : ¬ ((i : Int) < (i : Int)) := by omega
   have hp := posE_uniq (xk, xd, xl) E i hj h1 h2
   rw [hp]
   by_cases hi : i < E.length
   ·have hi' : (i : Int) < E.length := by omega
    obtain ⟨⟨c, d, l⟩, hcn⟩ : ∃ p, E[i]? = some p := ⟨_, List.getElem?_eq_getElem hi⟩
    have hg := enW_get hcn
    have hdd := hE _ (List.mem_of_getElem? hcn)
    simp only at hdd
    have hc := cmpF_eq (a := c) (b := xk) (d := d) (e := xd) (l := l) (m := xl) hdd hx
    have hbs : bsB (xk, xd, xl) E = decide (cmpE (c, d, l) (xk, xd, xl) = 0) := by unfold bsB; rw [hp, hcn]
    by_cases h0 : cmpE (c, d, l) (xk, xd, xl) = 0
    ·have h0' := decide_eq_true h0
     simp (disch := (first | omega | assumption)) only [hlt', hi', idx_nat, List.length_map, hg, hc, hbs, h0, go_sem, evP_D, evD_guard, evD_cons, evD_zero, evD_nil]
    ·have h0' := decide_eq_false h0
     simp (disch := (first | omega | assumption)) only [hlt', hi', idx_nat, List.length_map, hg, hc, hbs, h0, go_sem, evP_D, evD_guard, evD_cons, evD_zero, evD_nil]
   ·have hi' : ¬ ((i : Int) < E.length) := by omega
    have hbs : bsB (xk, xd, xl) E = false := by unfold bsB; rw [hp, List.getElem?_eq_none (by omega)]
    simp (disch := (first | omega | assumption)) only [hlt', hi', hbs, go_sem, evP_D, evD_guard, evD_cons, evD_zero, evD_nil]
end Go.Proofs.YtdmkmbaaemhhhaaGreatDoor
end
