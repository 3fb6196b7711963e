/-
  Books, run by the machine: copies, Balance, Shut.
-/
import Derived.Test.YtdmkmbaaemhhhaaGreatDoorC17
set_option linter.unusedVariables false
set_option linter.unusedSimpArgs false
namespace Go.Proofs.YtdmkmbaaemhhhaaGreatDoor
open Go Go.Ev Go.RowKit Go.Acc
set_option maxHeartbeats 4000000
theorem sound_res {P : Program} {J : World → Prop} {f : FuncId} {args : List V} {r r' : V} (h : SoundAt P J f args r []) (hd : V.data r = true) (hr : ∀ (w : World) (ok : Nat → Prop) val, RelD w ok r val → RelD w ok r' val) : SoundAt P J f args r' [] := by
 refine ⟨h.1, fun w ok us hJ hok hlen hrel => (h.2 w ok us hJ hok hlen hrel).mono ?_⟩
 rintro e w' ⟨val, ρr, he, hb, hi, hrr⟩
 exact ⟨val, ρr, he, hb, hi, .ro (hr _ _ _ (hrr.toD hd))⟩
theorem zero_row (sz : Nat) (w : World) (ok : Nat → Prop) (val : Value) (h : RelD w ok .zero val) : RelD w ok (.row sz []) val := by
 cases h
 exact .nil _ _
theorem bin_eql_rawz (v : Value) : binV .eql (.raw v) .zero = none := rfl
theorem sound_empty {P : Program} {J : World → Prop} {f : FuncId} {sz : Nat} {r : V} {bs : List Blk} (h0 : SoundAt P J f [.zero] r bs) (h1 : ∀ a c, SoundAt P J f [.raw (.slice (some a) 0 c)] r bs) : SoundAt P J f [.row sz []] r bs := by
 refine ⟨h0.1, fun w ok us hJ hok hlen hrel => ?_⟩
 match us, hlen with
 | [u], _ =>
  have hu := hrel 0 _ u rfl rfl
  cases hu with
  | nil _ a =>
   cases a with
   | none =>
    exact h0.2 w ok _ hJ hok rfl fun j c v hc hv => by
     match j with
     | 0 => simp at hc hv; subst hc; subst hv; exact .zero
     | j + 1 => simp at hc
   | some a =>
    exact (h1 a 0).2 w ok _ hJ hok rfl fun j c v hc hv => by
     match j with
     | 0 => simp at hc hv; subst hc; subst hv; exact .raw _
     | j + 1 => simp at hc
  | row _ _ g o cap vs =>
   exact (h1 ⟨g, o, none⟩ cap).2 w ok _ hJ hok rfl fun j c v hc hv => by
     match j with
     | 0 => simp at hc hv; subst hc; subst hv; exact .raw _
     | j + 1 => simp at hc
def cloneF : List V → Option (V × List Blk)
 | [.row 2 es] => if es.length ≤ 1000 then (unAc es).map fun l => (.row 2 (l.map acV), []) else none
 | _ => none
theorem cloneF_eq (l : List (ByteArray × Int)) (hl : l.length ≤ 1000) : cloneF [.row 2 (l.map acV)] = some (.row 2 (l.map acV), []) := by
 simp only [cloneF, unAc_map, Option.map_some]
 exact if_pos (by rw [List.length_map]; exact hl)
theorem cloneL_sound {J : World → Prop} (hJ : Stable J) (l : List (ByteArray × Int)) (hl : l.length ≤ 1000) : SoundAt Tryz.prog J 34 [.row 2 (l.map acV)] (.row 2 (l.map acV)) [] := by
 cases l with
 | nil =>
  refine sound_empty ?_ (fun a c => ?_)
  ·refine sound_res (r := .zero) ?_ rfl (zero_row 2)
   refine evFn (l := []) (nv := nv0) (fz := fzL [(2, [40])]) (dr := dr34) (dd := dd34) (lam := []) (ms := ms0) trivial hJ trivial ms0_ok Tryz.func34 rfl rfl (Nat.le_of_ble_eq_true rfl) (Nat.le_of_ble_eq_true rfl) drOk34 ?_
   dsimp only [Tryz.f34, dr34, dd34, Option.getD_some]
   refine ev_start ?_
   simp (disch := omega) only [bin_eql_rawz, freezeL, St.freeze, List.filter_cons, List.filter_nil, bne, go_sem, evP_D, evD_guard, evD_cons, evD_zero, evD_nil]
  ·skip
   refine evFn (l := []) (nv := nv0) (fz := fzL [(2, [40])]) (dr := dr34) (dd := dd34) (lam := []) (ms := ms0) trivial hJ trivial ms0_ok Tryz.func34 rfl rfl (Nat.le_of_ble_eq_true rfl) (Nat.le_of_ble_eq_true rfl) drOk34 ?_
   dsimp only [Tryz.f34, dr34, dd34, Option.getD_some]
   refine ev_start ?_
   simp (disch := omega) only [bin_eql_rawz, freezeL, St.freeze, List.filter_cons, List.filter_nil, bne, go_sem, evP_D, evD_guard, evD_cons, evD_zero, evD_nil]
 | cons p l =>
  refine evFn (l := []) (nv := nv0) (fz := fzL [(2, [40])]) (dr := dr34) (dd := dd34) (lam := []) (ms := ms0) trivial hJ trivial ms0_ok Tryz.func34 rfl rfl (Nat.le_of_ble_eq_true rfl) (Nat.le_of_ble_eq_true rfl) drOk34 ?_
  dsimp only [Tryz.f34, dr34, dd34, Option.getD_some]
  refine ev_start ?_
  have h1 : 0 < l.length + 1 := by omega
  rw [List.length_cons] at hl
  simp (disch := omega) only [h1, List.length_map, List.length_cons, freezeL, St.freeze, List.filter_cons, List.filter_nil, bne, go_sem, evP_D, evD_guard, evD_cons, evD_zero, evD_nil]
theorem cloneL_snd {J : World → Prop} (hJ : Stable J) : Snd Tryz.prog J 34 cloneF := by
 intro args r bs h
 unfold cloneF at h
 split at h
 ·rename_i es
  split at h
  ·rename_i hc
   simp only [Option.map_eq_some_iff] at h
   obtain ⟨l, hl, h⟩ := h
   obtain ⟨rfl, rfl⟩ := some_pair (congrArg some h)
   have e := unAc_eq hl
   subst e
   exact cloneL_sound hJ l (by simpa using hc)
  ·cases h
 ·cases h
theorem cloneA_sound {J : World → Prop} (hJ : Stable J) (l : List (ByteArray × Int)) (hl : l.length ≤ 1000) : SoundAt Tryz.prog J 78 [.row 2 (l.map acV)] (.row 2 (l.map acV)) [] := by
 cases l with
 | nil =>
  refine sound_empty ?_ (fun a c => ?_)
  ·refine sound_res (r := .zero) ?_ rfl (zero_row 2)
   refine evFn (l := []) (nv := nv0) (fz := fzL [(2, [40])]) (dr := dr78) (dd := dd78) (lam := []) (ms := ms0) trivial hJ trivial ms0_ok Tryz.func78 rfl rfl (Nat.le_of_ble_eq_true rfl) (Nat.le_of_ble_eq_true rfl) drOk78 ?_
   dsimp only [Tryz.f78, dr78, dd78, Option.getD_some]
   refine ev_start ?_
   simp (disch := omega) only [bin_eql_rawz, freezeL, St.freeze, List.filter_cons, List.filter_nil, bne, go_sem, evP_D, evD_guard, evD_cons, evD_zero, evD_nil]
  ·skip
   refine evFn (l := []) (nv := nv0) (fz := fzL [(2, [40])]) (dr := dr78) (dd := dd78) (lam := []) (ms := ms0) trivial hJ trivial ms0_ok Tryz.func78 rfl rfl (Nat.le_of_ble_eq_true rfl) (Nat.le_of_ble_eq_true rfl) drOk78 ?_
   dsimp only [Tryz.f78, dr78, dd78, Option.getD_some]
   refine ev_start ?_
   simp (disch := omega) only [bin_eql_rawz, freezeL, St.freeze, List.filter_cons, List.filter_nil, bne, go_sem, evP_D, evD_guard, evD_cons, evD_zero, evD_nil]
 | cons p l =>
  refine evFn (l := []) (nv := nv0) (fz := fzL [(2, [40])]) (dr := dr78) (dd := dd78) (lam := []) (ms := ms0) trivial hJ trivial ms0_ok Tryz.func78 rfl rfl (Nat.le_of_ble_eq_true rfl) (Nat.le_of_ble_eq_true rfl) drOk78 ?_
  dsimp only [Tryz.f78, dr78, dd78, Option.getD_some]
  refine ev_start ?_
  have h1 : 0 < l.length + 1 := by omega
  rw [List.length_cons] at hl
  simp (disch := omega) only [h1, List.length_map, List.length_cons, freezeL, St.freeze, List.filter_cons, List.filter_nil, bne, go_sem, evP_D, evD_guard, evD_cons, evD_zero, evD_nil]
theorem cloneA_snd {J : World → Prop} (hJ : Stable J) : Snd Tryz.prog J 78 cloneF := by
 intro args r bs h
 unfold cloneF at h
 split at h
 ·rename_i es
  split at h
  ·rename_i hc
   simp only [Option.map_eq_some_iff] at h
   obtain ⟨l, hl, h⟩ := h
   obtain ⟨rfl, rfl⟩ := some_pair (congrArg some h)
   have e := unAc_eq hl
   subst e
   exact cloneA_sound hJ l (by simpa using hc)
  ·cases h
 ·cases h
def cpS (A : List (ByteArray × Int)) (E : List En) (s : Int) : Nat → St
 | 0 => ⟨[(2, .ptr 16 0), (3, .ptr 24 0), (13, .row 3 (E.map enW)), (14, .int .i64 E.length), (15, .int .i64 0)], [(16, .box (.agg [.zero, .zero, .int .i64 0])), (24, .box (.agg [.row 2 (A.map acV), .zero, .int .i64 s]))]⟩
 | k + 1 => ⟨[(2, .ptr 16 0), (3, .ptr 24 0), (13, .row 3 (E.map enW)), (14, .int .i64 E.length), (15, .int .i64 ((k + 1 : Nat) : Int))], [(16, .box (.agg [.zero, .zero, .int .i64 0])), (24, .box (.agg [.row 2 (A.map acV), .vec 216, .int .i64 s])), (216, .vec 28 3 ((E.take (k + 1)).map enW))]⟩
theorem take_enW {E : List En} {k : Nat} {x : En} (h : E[k]? = some x) : (E.take (k + 1)).map enW = (E.take k).map enW ++ [enW x] := by
 have hlt : k < E.length := (List.getElem?_eq_some_iff.1 h).1
 have he : E[k] = x := (List.getElem?_eq_some_iff.1 h).2
 rw [List.take_succ_eq_append_getElem hlt, he, List.map_append]
 rfl
set_option maxHeartbeats 4000000 in
theorem copied_raw {J : World → Prop} (hJ : Stable J) (A : List (ByteArray × Int)) (E : List En) (s : Int) (hA : A.length ≤ 24) (hE : ∀ x ∈ E, x.2.2.length ≤ 12) (hl : E.length ≤ 60) : SoundAt Tryz.prog J 32 [bkV A E s] (.agg [.row 2 (A.map acV), if E = [] then .zero else .row 3 (E.map enW), .int .i64 s]) [] := by
 unfold bkV
 refine evFn (l := [(34, cloneF), (78, cloneF)]) (nv := nv0) (fz := fzL [(30, [216])]) (dr := dr32) (dd := dd32) (lam := []) (ms := ms0) ⟨cloneL_snd hJ, cloneA_snd hJ, trivial⟩ hJ trivial ms0_ok Tryz.func32 rfl rfl (Nat.le_of_ble_eq_true rfl) (Nat.le_of_ble_eq_true rfl) drOk32 ?_
 dsimp only [Tryz.f32, dr32, dd32, Option.getD_some]
 refine ev_start ?_
 have hcA := cloneF_eq A (by omega)
 simp (disch := omega) only [List.length_map, hcA, freezeL, go_sem, evP_D, evD_guard, evD_cons, evD_zero, evD_nil]
 refine evQ_loop [2, 3, 13, 14, 15] [16, 24, 216] (fun σ => ∃ (k : Nat), k ≤ E.length ∧ σ = cpS A E s k)
  (fun σ => E.length - (match Ev.look 15 σ.env with | some (.int _ n) => n.toNat | _ => 0)) ?_ ?_
 ·simp only [go_sem, evP_D, evD_guard, evD_cons, evD_zero, evD_nil]
  exact ⟨0, Nat.zero_le _, rfl⟩
 ·rintro σ ⟨k, hkl, rfl⟩
  by_cases hlt : k < E.length
  ·have hlt' : (k : Int) < E.length := by omega
   obtain ⟨⟨c, d, l⟩, hcn⟩ : ∃ p, E[k]? = some p := ⟨_, List.getElem?_eq_getElem hlt⟩
   have hcl := cloneF_eq l (by have := hE _ (List.mem_of_getElem? hcn); simp only at this; omega)
   have hg := enW_get hcn
   have ht := take_enW hcn
   have hms : E.length - ((k : Int) + 1).toNat < E.length - (k : Int).toNat := by
    have e3 : ((k : Int) + 1).toNat = k + 1 := by omega
    rw [e3, Int.toNat_natCast]; exact Nat.sub_lt_sub_left hlt (Nat.lt_succ_self k)
   cases k with
   | zero =>
    have z0 : ((0 : Nat) : Int) = 0 := rfl
    have hi0 := idx_nat E.length 0 hlt
    rw [z0] at hlt' hi0 hms
    unfold cpS
    simp (disch := (first | omega | assumption)) only [hlt', hi0, List.length_map, hg, hcl, freezeL, go_sem, evP_D, evD_guard, evD_cons, evD_zero, evD_nil]
    exact ⟨⟨1, hlt, by simp only [cpS, ht]; rfl⟩, hms⟩
   | succ k =>
    have hlk : (E.take (k + 1)).length = k + 1 := by rw [List.length_take]; omega
    unfold cpS
    simp (disch := (first | omega | assumption)) only [hlt', idx_nat, List.length_map, hlk, List.length_append, List.length_cons, List.length_nil, hg, hcl, freezeL, go_sem, evP_D, evD_guard, evD_cons, evD_zero, evD_nil]
    exact ⟨⟨k + 2, hlt, by simp only [cpS, ht]; rfl⟩, hms⟩
  ·have hk' : k = E.length := by omega
   subst hk'
   have hlt' : ¬ ((E.length : Int) < E.length) := by omega
   cases hE0 : E with
   | nil =>
    have hlt'' : ¬ ((0 : Int) < 0) := by omega
    unfold cpS
    simp (disch := (first | omega | assumption)) only [List.length_nil, hlt'', freezeL, St.freeze, List.filter_cons, List.filter_nil, bne, if_true, go_sem, evP_D, evD_guard, evD_cons, evD_zero, evD_nil]
   | cons x r =>
    have hlt'' : ¬ (((r.length + 1 : Nat) : Int) < ((r.length + 1 : Nat) : Int)) := by omega
    have htk : (x :: r).take (r.length + 1) = x :: r := List.take_length (l := x :: r)
    simp only [List.length_cons, cpS]
    simp (disch := (first | omega | assumption)) only [hlt'', htk, freezeL, St.freeze, List.filter_cons, List.filter_nil, bne, reduceCtorEq, if_false, go_sem, evP_D, evD_guard, evD_cons, evD_zero, evD_nil]
theorem copied_sound {J : World → Prop} (hJ : Stable J) (A : List (ByteArray × Int)) (E : List En) (s : Int) (hA : A.length ≤ 24) (hE : ∀ x ∈ E, x.2.2.length ≤ 12) (hl : E.length ≤ 60) : SoundAt Tryz.prog J 32 [bkV A E s] (bkV A E s) [] := by
 refine sound_res (copied_raw hJ A E s hA hE hl) ?_ fun w ok val hv => ?_
 ·split <;> rfl
 ·by_cases h0 : E = []
  ·subst h0
   rw [if_pos rfl] at hv
   cases hv with
   | agg cs vs hlen h1 hh =>
    refine .agg _ vs (by simpa using hlen) h1 fun j c v hc hv => ?_
    match j with
    | 0 => exact hh 0 c v hc hv
    | 1 => simp at hc; subst hc; exact zero_row 3 _ _ _ (hh 1 .zero v rfl hv)
    | 2 => exact hh 2 c v hc hv
    | j + 3 => simp at hc
  ·rw [if_neg h0] at hv
   exact hv
theorem acChk_len {A : List (ByteArray × Int)} (h : acChk A = 0) : A.length ≤ 24 := by
 unfold acChk at h
 by_cases h1 : 24 < A.length
 ·rw [if_pos h1] at h; omega
 ·omega
def shutE (A : List (ByteArray × Int)) (E : List En) (s : Int) (day : Int) : Int := if bkChk A E s ≠ 0 then bkChk A E s else if ¬ (0 ≤ day ∧ day ≤ 292193) then 1 else if day < s then 9 else 0
def zbV : V := .agg [.zero, .zero, .int .i64 0]
theorem shut_sound {J : World → Prop} (hJ : Stable J) (A : List (ByteArray × Int)) (E : List En) (s : Int) (day : Int) (hE : E.length ≤ maxLen) : SoundAt Tryz.prog J 50 [bkV A E s, .int .i64 day] (.tup [if shutE A E s day = 0 then bkV A E day else zbV, .int .i64 (shutE A E s day)]) [] := by
 have hB := bcheck_sound hJ A E s hE
 by_cases hz : bkChk A E s = 0
 ·have hk := bkChk_ok hz
  have hC := copied_sound hJ A E s (acChk_len hk.1) (fun x hx => (enX_ok (hk.2.2.2 x hx).1).2.1) hk.2.2.1
  unfold bkV at hB hC ⊢
  refine evFn (l := [(11, at1 _ (.int .i64 (bkChk A E s), [])), (47, dayF), (32, at1 _ (.agg [.row 2 (A.map acV), .row 3 (E.map enW), .int .i64 s], []))]) (nv := nv0) (fz := fz0) (dr := dr50) (dd := dd50) (lam := []) (ms := ms0) ⟨at1_snd hB, is_snd hJ, at1_snd hC, trivial⟩ hJ trivial ms0_ok Tryz.func50 rfl rfl (Nat.le_of_ble_eq_true rfl) (Nat.le_of_ble_eq_true rfl) drOk50 ?_
  dsimp only [Tryz.f50, dr50, dd50, Option.getD_some]
  refine ev_start ?_
  by_cases hd : 0 ≤ day ∧ day ≤ 292193
  ·have hd' := decide_eq_true hd
   by_cases hs : day < s
   ·have e1 : shutE A E s day = 9 := by unfold shutE; rw [if_neg (fun h => h hz), if_neg (fun h => h hd), if_pos hs]
    have e0 : ¬ (9 : Int) = 0 := by omega
    simp (disch := omega) only [at1_eq, dayF_eq, hz, hd', hs, e1, e0, if_false, zbV, go_sem, evP_D, evD_guard, evD_cons, evD_zero, evD_nil]
   ·have e1 : shutE A E s day = 0 := by unfold shutE; rw [if_neg (fun h => h hz), if_neg (fun h => h hd), if_neg hs]
    simp (disch := omega) only [at1_eq, dayF_eq, hz, hd', hs, e1, if_true, go_sem, evP_D, evD_guard, evD_cons, evD_zero, evD_nil]
  ·have hd' := decide_eq_false hd
   have e1 : shutE A E s day = 1 := by unfold shutE; rw [if_neg (fun h => h hz), if_pos hd]
   have e0 : ¬ (1 : Int) = 0 := by omega
   simp (disch := omega) only [at1_eq, dayF_eq, hz, hd', e1, e0, if_false, zbV, go_sem, evP_D, evD_guard, evD_cons, evD_zero, evD_nil]
 ·have e1 : shutE A E s day = bkChk A E s := by unfold shutE; rw [if_pos hz]
  unfold bkV at hB ⊢
  refine evFn (l := [(11, at1 _ (.int .i64 (bkChk A E s), []))]) (nv := nv0) (fz := fz0) (dr := dr50) (dd := dd50) (lam := []) (ms := ms0) ⟨at1_snd hB, trivial⟩ hJ trivial ms0_ok Tryz.func50 rfl rfl (Nat.le_of_ble_eq_true rfl) (Nat.le_of_ble_eq_true rfl) drOk50 ?_
  dsimp only [Tryz.f50, dr50, dd50, Option.getD_some]
  refine ev_start ?_
  simp (disch := omega) only [at1_eq, hz, e1, if_false, zbV, go_sem, evP_D, evD_guard, evD_cons, evD_zero, evD_nil]
end Go.Proofs.YtdmkmbaaemhhhaaGreatDoor
