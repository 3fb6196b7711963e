/-
  Steps of the proof of TopDesk: BkI PoP TsP.
-/
import Derived.Test.YtcmpjagpggjfiaaGreatDoorT19
set_option linter.unusedVariables false
set_option linter.unusedSimpArgs false
section
namespace Go.Proofs.YtcmpjagpggjfiaaGreatDoor
open Go Go.Ev Go.RowKit Go.Acc
set_option maxHeartbeats 4000000
theorem sound_res {P : Program} {J : World → Prop} {f : FuncId} {args : List V} {r r' : V} (h : SoundAt P J f args r []) (hd : V.data r = true) (hr : ∀ (w : World) (ok : Nat → Prop) val, RelD w ok r val → RelD w ok r' val) : SoundAt P J f args r' [] := by
 refine ⟨h.1, fun w ok us hJ hok hlen hrel => (h.2 w ok us hJ hok hlen hrel).mono ?_⟩
 rintro e w' ⟨val, ρr, he, hb, hi, hrr⟩
 exact ⟨val, ρr, he, hb, hi, .ro (hr _ _ _ (hrr.toD hd))⟩
theorem zero_row (sz : Nat) (w : World) (ok : Nat → Prop) (val : Value) (h : RelD w ok .zero val) : RelD w ok (.row sz []) val := by
 cases h
 exact .nil _ _
theorem bin_eql_rawz (v : Value) : binV .eql (.raw v) .zero = none := rfl
theorem sound_empty {P : Program} {J : World → Prop} {f : FuncId} {sz : Nat} {r : V} {bs : List Ev.Blk} (h0 : SoundAt P J f [.zero] r bs) (h1 : ∀ a c, SoundAt P J f [.raw (.slice (some a) 0 c)] r bs) : SoundAt P J f [.row sz []] r bs := by
 refine ⟨h0.1, fun w ok us hJ hok hlen hrel => ?_⟩
 match us, hlen with
 | [u], _ =>
  have hu := hrel 0 _ u rfl rfl
  cases hu with
  | nil _ a =>
   cases a with
   | none =>
    exact h0.2 w ok _ hJ hok rfl fun j c v hc hv => by
     match j with
     | 0 => simp at hc hv; subst hc; subst hv; exact .zero
     | j + 1 => simp at hc
   | some a =>
    exact (h1 a 0).2 w ok _ hJ hok rfl fun j c v hc hv => by
     match j with
     | 0 => simp at hc hv; subst hc; subst hv; exact .raw _
     | j + 1 => simp at hc
  | row _ _ g o cap vs =>
   exact (h1 ⟨g, o, none⟩ cap).2 w ok _ hJ hok rfl fun j c v hc hv => by
     match j with
     | 0 => simp at hc hv; subst hc; subst hv; exact .raw _
     | j + 1 => simp at hc
def cloneF : List V → Option (V × List Ev.Blk)
 | [.row 2 es] => if es.length ≤ 1000 then (unAc es).map fun l => (.row 2 (l.map acV), []) else none
 | _ => none
theorem cloneF_eq (l : List (ByteArray × Int)) (hl : l.length ≤ 1000) : cloneF [.row 2 (l.map acV)] = some (.row 2 (l.map acV), []) := by
 simp only [cloneF, unAc_map, Option.map_some]
 exact if_pos (by rw [List.length_map]; exact hl)
theorem cloneL_sound {J : World → Prop} (hJ : Stable J) (l : List (ByteArray × Int)) (hl : l.length ≤ 1000) : SoundAt Tryz.prog J 32 [.row 2 (l.map acV)] (.row 2 (l.map acV)) [] := by
 cases l with
 | nil =>
  refine sound_empty ?_ (fun a c => ?_)
  ·refine sound_res (r := .zero) ?_ rfl (zero_row 2)
   refine evFn (l := []) (nv := nv0) (fz := fzL [(2, [40])]) (dr := dr32) (dd := dd32) (lam := []) (ms := ms0) trivial hJ trivial ms0_ok Tryz.func32 rfl rfl (Nat.le_of_ble_eq_true rfl) (Nat.le_of_ble_eq_true rfl) drOk32 ?_
   dsimp only [Tryz.f32, dr32, dd32, Option.getD_some]
   refine ev_start ?_
   simp (disch := omega) only [bin_eql_rawz, freezeL, St.freeze, List.filter_cons, List.filter_nil, bne, go_sem, evP_D, evD_guard, evD_cons, evD_zero, evD_nil]
  ·skip
   refine evFn (l := []) (nv := nv0) (fz := fzL [(2, [40])]) (dr := dr32) (dd := dd32) (lam := []) (ms := ms0) trivial hJ trivial ms0_ok Tryz.func32 rfl rfl (Nat.le_of_ble_eq_true rfl) (Nat.le_of_ble_eq_true rfl) drOk32 ?_
   dsimp only [Tryz.f32, dr32, dd32, Option.getD_some]
   refine ev_start ?_
   simp (disch := omega) only [bin_eql_rawz, freezeL, St.freeze, List.filter_cons, List.filter_nil, bne, go_sem, evP_D, evD_guard, evD_cons, evD_zero, evD_nil]
 | cons p l =>
  refine evFn (l := []) (nv := nv0) (fz := fzL [(2, [40])]) (dr := dr32) (dd := dd32) (lam := []) (ms := ms0) trivial hJ trivial ms0_ok Tryz.func32 rfl rfl (Nat.le_of_ble_eq_true rfl) (Nat.le_of_ble_eq_true rfl) drOk32 ?_
  dsimp only [Tryz.f32, dr32, dd32, Option.getD_some]
  refine ev_start ?_
  have h1 : 0 < l.length + 1 := by omega
  rw [List.length_cons] at hl
  simp (disch := omega) only [h1, List.length_map, List.length_cons, freezeL, St.freeze, List.filter_cons, List.filter_nil, bne, go_sem, evP_D, evD_guard, evD_cons, evD_zero, evD_nil]
theorem cloneL_snd {J : World → Prop} (hJ : Stable J) : Snd Tryz.prog J 32 cloneF := by
 intro args r bs h
 unfold cloneF at h
 split at h
 ·rename_i es
  split at h
  ·rename_i hc
   simp only [Option.map_eq_some_iff] at h
   obtain ⟨l, hl, h⟩ := h
   obtain ⟨rfl, rfl⟩ := some_pair (congrArg some h)
   have e := unAc_eq hl
   subst e
   exact cloneL_sound hJ l (by simpa using hc)
  ·cases h
 ·cases h
theorem cloneA_sound {J : World → Prop} (hJ : Stable J) (l : List (ByteArray × Int)) (hl : l.length ≤ 1000) : SoundAt Tryz.prog J 100 [.row 2 (l.map acV)] (.row 2 (l.map acV)) [] := by
 cases l with
 | nil =>
  refine sound_empty ?_ (fun a c => ?_)
  ·refine sound_res (r := .zero) ?_ rfl (zero_row 2)
   refine evFn (l := []) (nv := nv0) (fz := fzL [(2, [40])]) (dr := dr100) (dd := dd100) (lam := []) (ms := ms0) trivial hJ trivial ms0_ok Tryz.func100 rfl rfl (Nat.le_of_ble_eq_true rfl) (Nat.le_of_ble_eq_true rfl) drOk100 ?_
   dsimp only [Tryz.f100, dr100, dd100, Option.getD_some]
   refine ev_start ?_
   simp (disch := omega) only [bin_eql_rawz, freezeL, St.freeze, List.filter_cons, List.filter_nil, bne, go_sem, evP_D, evD_guard, evD_cons, evD_zero, evD_nil]
  ·skip
   refine evFn (l := []) (nv := nv0) (fz := fzL [(2, [40])]) (dr := dr100) (dd := dd100) (lam := []) (ms := ms0) trivial hJ trivial ms0_ok Tryz.func100 rfl rfl (Nat.le_of_ble_eq_true rfl) (Nat.le_of_ble_eq_true rfl) drOk100 ?_
   dsimp only [Tryz.f100, dr100, dd100, Option.getD_some]
   refine ev_start ?_
   simp (disch := omega) only [bin_eql_rawz, freezeL, St.freeze, List.filter_cons, List.filter_nil, bne, go_sem, evP_D, evD_guard, evD_cons, evD_zero, evD_nil]
 | cons p l =>
  refine evFn (l := []) (nv := nv0) (fz := fzL [(2, [40])]) (dr := dr100) (dd := dd100) (lam := []) (ms := ms0) trivial hJ trivial ms0_ok Tryz.func100 rfl rfl (Nat.le_of_ble_eq_true rfl) (Nat.le_of_ble_eq_true rfl) drOk100 ?_
  dsimp only [Tryz.f100, dr100, dd100, Option.getD_some]
  refine ev_start ?_
  have h1 : 0 < l.length + 1 := by omega
  rw [List.length_cons] at hl
  simp (disch := omega) only [h1, List.length_map, List.length_cons, freezeL, St.freeze, List.filter_cons, List.filter_nil, bne, go_sem, evP_D, evD_guard, evD_cons, evD_zero, evD_nil]
theorem cloneA_snd {J : World → Prop} (hJ : Stable J) : Snd Tryz.prog J 100 cloneF := by
 intro args r bs h
 unfold cloneF at h
 split at h
 ·rename_i es
  split at h
  ·rename_i hc
   simp only [Option.map_eq_some_iff] at h
   obtain ⟨l, hl, h⟩ := h
   obtain ⟨rfl, rfl⟩ := some_pair (congrArg some h)
   have e := unAc_eq hl
   subst e
   exact cloneA_sound hJ l (by simpa using hc)
  ·cases h
 ·cases h
def cpS (A : List (ByteArray × Int)) (E : List En) (s : Int) : Nat → St
 | 0 => ⟨[(2, .ptr 16 0), (3, .ptr 24 0), (13, .row 3 (E.map enW)), (14, .int .i64 E.length), (15, .int .i64 0)], [(16, .box (.agg [.zero, .zero, .int .i64 0])), (24, .box (.agg [.row 2 (A.map acV), .zero, .int .i64 s]))]⟩
 | k + 1 => ⟨[(2, .ptr 16 0), (3, .ptr 24 0), (13, .row 3 (E.map enW)), (14, .int .i64 E.length), (15, .int .i64 ((k + 1 : Nat) : Int))], [(16, .box (.agg [.zero, .zero, .int .i64 0])), (24, .box (.agg [.row 2 (A.map acV), .vec 216, .int .i64 s])), (216, .vec 55 3 ((E.take (k + 1)).map enW))]⟩
theorem take_enW {E : List En} {k : Nat} {x : En} (h : E[k]? = some x) : (E.take (k + 1)).map enW = (E.take k).map enW ++ [enW x] := by
 have hlt : k < E.length := (List.getElem?_eq_some_iff.1 h).1
 have he : E[k] = x := (List.getElem?_eq_some_iff.1 h).2
 rw [List.take_succ_eq_append_getElem hlt, he, List.map_append]
 rfl
set_option maxHeartbeats 4000000 in
theorem copied_raw {J : World → Prop} (hJ : Stable J) (A : List (ByteArray × Int)) (E : List En) (s : Int) (hA : A.length ≤ 24) (hE : ∀ x ∈ E, x.2.2.length ≤ 12) (hl : E.length ≤ 60) : SoundAt Tryz.prog J 30 [bkV A E s] (.agg [.row 2 (A.map acV), if E = [] then .zero else .row 3 (E.map enW), .int .i64 s]) [] := by
 unfold bkV
 refine evFn (l := [(32, cloneF), (100, cloneF)]) (nv := nv0) (fz := fzL [(30, [216])]) (dr := dr30) (dd := dd30) (lam := []) (ms := ms0) ⟨cloneL_snd hJ, cloneA_snd hJ, trivial⟩ hJ trivial ms0_ok Tryz.func30 rfl rfl (Nat.le_of_ble_eq_true rfl) (Nat.le_of_ble_eq_true rfl) drOk30 ?_
 dsimp only [Tryz.f30, dr30, dd30, Option.getD_some]
 refine ev_start ?_
 have hcA := cloneF_eq A (by omega)
 simp (disch := omega) only [List.length_map, hcA, freezeL, go_sem, evP_D, evD_guard, evD_cons, evD_zero, evD_nil]
 refine evQ_loop [2, 3, 13, 14, 15] [16, 24, 216] (fun σ => ∃ (k : Nat), k ≤ E.length ∧ σ = cpS A E s k)
  (fun σ => E.length - (match Ev.look 15 σ.env with | some (.int _ n) => n.toNat | _ => 0)) ?_ ?_
 ·simp only [go_sem, evP_D, evD_guard, evD_cons, evD_zero, evD_nil]
  exact ⟨0, Nat.zero_le _, rfl⟩
 ·rintro σ ⟨k, hkl, rfl⟩
  by_cases hlt : k < E.length
  ·have hlt' : (k : Int) < E.length := by omega
   obtain ⟨⟨c, d, l⟩, hcn⟩ : ∃ p, E[k]? = some p := ⟨_, List.getElem?_eq_getElem hlt⟩
   have hcl := cloneF_eq l (by have := hE _ (List.mem_of_getElem? hcn); simp only at this; omega)
   have hg := enW_get hcn
   have ht := take_enW hcn
   have hms : E.length - ((k : Int) + 1).toNat < E.length - (k : Int).toNat := by
    have e3 : ((k : Int) + 1).toNat = k + 1 := by omega
    rw [e3, Int.toNat_natCast]; exact Nat.sub_lt_sub_left hlt (Nat.lt_succ_self k)
   cases k with
   | zero =>
    have z0 : ((0 : Nat) : Int) = 0 := rfl
    have hi0 := idx_nat E.length 0 hlt
    rw [z0] at hlt' hi0 hms
    unfold cpS
    simp (disch := (first | omega | assumption)) only [hlt', hi0, List.length_map, hg, hcl, freezeL, go_sem, evP_D, evD_guard, evD_cons, evD_zero, evD_nil]
    exact ⟨⟨1, hlt, by simp only [cpS, ht]; rfl⟩, hms⟩
   | succ k =>
    have hlk : (E.take (k + 1)).length = k + 1 := by rw [List.length_take]; omega
    unfold cpS
    simp (disch := (first | omega | assumption)) only [hlt', idx_nat, List.length_map, hlk, List.length_append, List.length_cons, List.length_nil, hg, hcl, freezeL, go_sem, evP_D, evD_guard, evD_cons, evD_zero, evD_nil]
    exact ⟨⟨k + 2, hlt, by simp only [cpS, ht]; rfl⟩, hms⟩
  ·have hk' : k = E.length := by omega
   subst hk'
   have hlt' : ¬ ((E.length : Int) < E.length) := by omega
   cases hE0 : E with
   | nil =>
    have hlt'' : ¬ ((0 : Int) < 0) := by omega
    unfold cpS
    simp (disch := (first | omega | assumption)) only [List.length_nil, hlt'', freezeL, St.freeze, List.filter_cons, List.filter_nil, bne, if_true, go_sem, evP_D, evD_guard, evD_cons, evD_zero, evD_nil]
   | cons x r =>
    have hlt'' : ¬ (((r.length + 1 : Nat) : Int) < ((r.length + 1 : Nat) : Int)) := by omega
    have htk : (x :: r).take (r.length + 1) = x :: r := List.take_length (l := x :: r)
    simp only [List.length_cons, cpS]
    simp (disch := (first | omega | assumption)) only [hlt'', htk, freezeL, St.freeze, List.filter_cons, List.filter_nil, bne, reduceCtorEq, if_false, go_sem, evP_D, evD_guard, evD_cons, evD_zero, evD_nil]
theorem copied_sound {J : World → Prop} (hJ : Stable J) (A : List (ByteArray × Int)) (E : List En) (s : Int) (hA : A.length ≤ 24) (hE : ∀ x ∈ E, x.2.2.length ≤ 12) (hl : E.length ≤ 60) : SoundAt Tryz.prog J 30 [bkV A E s] (bkV A E s) [] := by
 refine sound_res (copied_raw hJ A E s hA hE hl) ?_ fun w ok val hv => ?_
 ·split <;> rfl
 ·by_cases h0 : E = []
  ·subst h0
   rw [if_pos rfl] at hv
   cases hv with
   | agg cs vs hlen h1 hh =>
    refine .agg _ vs (by simpa using hlen) h1 fun j c v hc hv => ?_
    match j with
    | 0 => exact hh 0 c v hc hv
    | 1 => simp at hc; subst hc; exact zero_row 3 _ _ _ (hh 1 .zero v rfl hv)
    | 2 => exact hh 2 c v hc hv
    | j + 3 => simp at hc
  ·rw [if_neg h0] at hv
   exact hv
theorem acChk_len {A : List (ByteArray × Int)} (h : acChk A = 0) : A.length ≤ 24 := by
 unfold acChk at h
 by_cases h1 : 24 < A.length
 ·rw [if_pos h1] at h; omega
 ·omega
def balE (A : List (ByteArray × Int)) (E : List En) (s : Int) (c : ByteArray) (day : Int) : Int := if bkChk A E s ≠ 0 then bkChk A E s else if hasA A c = false then 4 else if ¬ (0 ≤ day ∧ day ≤ 292193) then 1 else 0
def balN (A : List (ByteArray × Int)) (E : List En) (s : Int) (c : ByteArray) (day : Int) : Int := if balE A E s c day = 0 then ofB c 0 day E else 0
theorem balance_sound {J : World → Prop} (hJ : Stable J) (A : List (ByteArray × Int)) (E : List En) (s : Int) (c : ByteArray) (day : Int) (hE : E.length ≤ maxLen) : SoundAt Tryz.prog J 16 [bkV A E s, .str c, .int .i64 day] (.tup [.int .i64 (balN A E s c day), .int .i64 (balE A E s c day)]) [] := by
 have hB := bcheck_sound hJ A E s hE
 by_cases hz : bkChk A E s = 0
 ·have hk := bkChk_ok hz
  have hO := of_sound hJ A E s c 0 day (fun x hx => (hk.2.2.2 x hx).1) hk.2.2.1
  unfold bkV at hB hO ⊢
  refine evFn (l := [(26, at1 _ (.int .i64 (bkChk A E s), [])), (37, findF), (38, dayF), (39, at1 _ (.int .i64 (ofB c 0 day E), []))]) (nv := nv0) (fz := fz0) (dr := dr16) (dd := dd16) (lam := []) (ms := ms0) ⟨at1_snd hB, find_snd hJ, is_snd hJ, at1_snd hO, trivial⟩ hJ trivial ms0_ok Tryz.func16 rfl rfl (Nat.le_of_ble_eq_true rfl) (Nat.le_of_ble_eq_true rfl) drOk16 ?_
  dsimp only [Tryz.f16, dr16, dd16, Option.getD_some]
  refine ev_start ?_
  have hf := fidx_neg c A
  cases hh : hasA A c with
  | false =>
   rw [hh] at hf
   have hf' : fidx c A < 0 := of_decide_eq_true hf
   have e1 : balE A E s c day = 4 := by unfold balE; rw [if_neg (fun h => h hz), if_pos hh]
   have e2 : balN A E s c day = 0 := by unfold balN; rw [e1]; rfl
   simp (disch := omega) only [at1_eq, findF_eq, hz, hf', e1, e2, go_sem, evP_D, evD_guard, evD_cons, evD_zero, evD_nil]
  | true =>
   rw [hh] at hf
   have hf' : ¬ fidx c A < 0 := of_decide_eq_false hf
   by_cases hd : 0 ≤ day ∧ day ≤ 292193
   ·have hd' := decide_eq_true hd
    have e1 : balE A E s c day = 0 := by unfold balE; rw [if_neg (fun h => h hz), if_neg (by rw [hh]; simp), if_neg (fun h => h hd)]
    have e2 : balN A E s c day = ofB c 0 day E := by unfold balN; rw [e1]; rfl
    simp (disch := omega) only [at1_eq, findF_eq, dayF_eq, hz, hf', hd', e1, e2, go_sem, evP_D, evD_guard, evD_cons, evD_zero, evD_nil]
   ·have hd' := decide_eq_false hd
    have e1 : balE A E s c day = 1 := by unfold balE; rw [if_neg (fun h => h hz), if_neg (by rw [hh]; simp), if_pos hd]
    have e2 : balN A E s c day = 0 := by unfold balN; rw [e1]; rfl
    simp (disch := omega) only [at1_eq, findF_eq, dayF_eq, hz, hf', hd', e1, e2, go_sem, evP_D, evD_guard, evD_cons, evD_zero, evD_nil]
 ·have e1 : balE A E s c day = bkChk A E s := by unfold balE; rw [if_pos hz]
  have e2 : balN A E s c day = 0 := by unfold balN; rw [e1, if_neg hz]
  unfold bkV at hB ⊢
  refine evFn (l := [(26, at1 _ (.int .i64 (bkChk A E s), []))]) (nv := nv0) (fz := fz0) (dr := dr16) (dd := dd16) (lam := []) (ms := ms0) ⟨at1_snd hB, trivial⟩ hJ trivial ms0_ok Tryz.func16 rfl rfl (Nat.le_of_ble_eq_true rfl) (Nat.le_of_ble_eq_true rfl) drOk16 ?_
  dsimp only [Tryz.f16, dr16, dd16, Option.getD_some]
  refine ev_start ?_
  simp (disch := omega) only [at1_eq, hz, e1, e2, go_sem, evP_D, evD_guard, evD_cons, evD_zero, evD_nil]
def shutE (A : List (ByteArray × Int)) (E : List En) (s : Int) (day : Int) : Int := if bkChk A E s ≠ 0 then bkChk A E s else if ¬ (0 ≤ day ∧ day ≤ 292193) then 1 else if day < s then 9 else 0
def zbV : V := .agg [.zero, .zero, .int .i64 0]
theorem shut_sound {J : World → Prop} (hJ : Stable J) (A : List (ByteArray × Int)) (E : List En) (s : Int) (day : Int) (hE : E.length ≤ maxLen) : SoundAt Tryz.prog J 83 [bkV A E s, .int .i64 day] (.tup [if shutE A E s day = 0 then bkV A E day else zbV, .int .i64 (shutE A E s day)]) [] := by
 have hB := bcheck_sound hJ A E s hE
 by_cases hz : bkChk A E s = 0
 ·have hk := bkChk_ok hz
  have hC := copied_sound hJ A E s (acChk_len hk.1) (fun x hx => (enX_ok (hk.2.2.2 x hx).1).2.1) hk.2.2.1
  unfold bkV at hB hC ⊢
  refine evFn (l := [(26, at1 _ (.int .i64 (bkChk A E s), [])), (38, dayF), (30, at1 _ (.agg [.row 2 (A.map acV), .row 3 (E.map enW), .int .i64 s], []))]) (nv := nv0) (fz := fz0) (dr := dr83) (dd := dd83) (lam := []) (ms := ms0) ⟨at1_snd hB, is_snd hJ, at1_snd hC, trivial⟩ hJ trivial ms0_ok Tryz.func83 rfl rfl (Nat.le_of_ble_eq_true rfl) (Nat.le_of_ble_eq_true rfl) drOk83 ?_
  dsimp only [Tryz.f83, dr83, dd83, Option.getD_some]
  refine ev_start ?_
  by_cases hd : 0 ≤ day ∧ day ≤ 292193
  ·have hd' := decide_eq_true hd
   by_cases hs : day < s
   ·have e1 : shutE A E s day = 9 := by unfold shutE; rw [if_neg (fun h => h hz), if_neg (fun h => h hd), if_pos hs]
    have e0 : ¬ (9 : Int) = 0 := by omega
    simp (disch := omega) only [at1_eq, dayF_eq, hz, hd', hs, e1, e0, if_false, zbV, go_sem, evP_D, evD_guard, evD_cons, evD_zero, evD_nil]
   ·have e1 : shutE A E s day = 0 := by unfold shutE; rw [if_neg (fun h => h hz), if_neg (fun h => h hd), if_neg hs]
    simp (disch := omega) only [at1_eq, dayF_eq, hz, hd', hs, e1, if_true, go_sem, evP_D, evD_guard, evD_cons, evD_zero, evD_nil]
  ·have hd' := decide_eq_false hd
   have e1 : shutE A E s day = 1 := by unfold shutE; rw [if_neg (fun h => h hz), if_pos hd]
   have e0 : ¬ (1 : Int) = 0 := by omega
   simp (disch := omega) only [at1_eq, dayF_eq, hz, hd', e1, e0, if_false, zbV, go_sem, evP_D, evD_guard, evD_cons, evD_zero, evD_nil]
 ·have e1 : shutE A E s day = bkChk A E s := by unfold shutE; rw [if_pos hz]
  unfold bkV at hB ⊢
  refine evFn (l := [(26, at1 _ (.int .i64 (bkChk A E s), []))]) (nv := nv0) (fz := fz0) (dr := dr83) (dd := dd83) (lam := []) (ms := ms0) ⟨at1_snd hB, trivial⟩ hJ trivial ms0_ok Tryz.func83 rfl rfl (Nat.le_of_ble_eq_true rfl) (Nat.le_of_ble_eq_true rfl) drOk83 ?_
  dsimp only [Tryz.f83, dr83, dd83, Option.getD_some]
  refine ev_start ?_
  simp (disch := omega) only [at1_eq, hz, e1, if_false, zbV, go_sem, evP_D, evD_guard, evD_cons, evD_zero, evD_nil]
end Go.Proofs.YtcmpjagpggjfiaaGreatDoor
end
section
namespace Go.Acc
open Go
theorem lessB_irrefl : ∀ a : List UInt8, Op.bytesLess a a = false
 | [] => rfl
 | x :: a => by
  unfold Op.bytesLess
  rw [lessB_irrefl a, decide_eq_false (fun h => by rw [UInt8.lt_iff_toNat_lt] at h; omega)]; simp
theorem lessB_trans : ∀ {a b c : List UInt8}, Op.bytesLess a b = true → Op.bytesLess b c = true → Op.bytesLess a c = true
 | _, _, [], _, h2 => by simp [Op.bytesLess] at h2
 | _, [], z :: c, h1, _ => by simp [Op.bytesLess] at h1
 | [], y :: b, z :: c, _, _ => rfl
 | x :: a, y :: b, z :: c, h1, h2 => by
  simp only [Op.bytesLess, Bool.or_eq_true, decide_eq_true_eq, Bool.and_eq_true, beq_iff_eq, UInt8.lt_iff_toNat_lt] at h1 h2 ⊢
  rcases h1 with h1 | ⟨rfl, h1⟩ <;> rcases h2 with h2 | ⟨rfl, h2⟩
  ·left; omega
  ·left; exact h1
  ·left; exact h2
  ·right; exact ⟨rfl, lessB_trans h1 h2⟩
theorem lessB_tri : ∀ {a b : List UInt8}, Op.bytesLess a b = false → Op.bytesLess b a = false → a = b
 | [], [], _, _ => rfl
 | [], y :: b, h1, _ => by simp [Op.bytesLess] at h1
 | x :: a, [], _, h2 => by simp [Op.bytesLess] at h2
 | x :: a, y :: b, h1, h2 => by
  simp only [Op.bytesLess, Bool.or_eq_false_iff, decide_eq_false_iff_not, Bool.and_eq_false_iff, beq_eq_false_iff_ne, UInt8.lt_iff_toNat_lt] at h1 h2
  have e : x = y := UInt8.toNat_inj.1 (by omega)
  subst e
  rcases h1.2 with h | h
  ·exact absurd rfl h
  rcases h2.2 with h' | h'
  ·exact absurd rfl h'
  rw [lessB_tri h h']
theorem ltB_iff (x y : En) : ltB x y = true ↔ x.2.1 < y.2.1 ∨ (x.2.1 = y.2.1 ∧ Op.bytesLess x.1.toList y.1.toList = true) := by
 unfold ltB
 rw [Bool.or_eq_true, decide_eq_true_eq, Bool.and_eq_true, decide_eq_true_eq]
theorem ltB_trans {x y z : En} (h1 : ltB x y = true) (h2 : ltB y z = true) : ltB x z = true := by
 rw [ltB_iff] at h1 h2 ⊢
 rcases h1 with h1 | ⟨h1, g1⟩ <;> rcases h2 with h2 | ⟨h2, g2⟩
 ·left; omega
 ·left; omega
 ·left; omega
 ·right; exact ⟨by omega, lessB_trans g1 g2⟩
theorem toList_inj {a b : ByteArray} (h : a.toList = b.toList) : a = b := by
 rw [ByteArray.toList_eq, ByteArray.toList_eq] at h
 cases a; cases b
 simp only at h
 rw [Array.toList_inj] at h
 rw [h]
theorem ltB_tri {x y : En} (hne : x.1 ≠ y.1) (h : ltB x y = false) : ltB y x = true := by
 cases h2 : ltB y x with
 | true => rfl
 | false =>
  exfalso
  have h1' : ¬ ltB x y = true := by rw [h]; simp
  have h2' : ¬ ltB y x = true := by rw [h2]; simp
  rw [ltB_iff] at h1' h2'
  have hd : x.2.1 = y.2.1 := by omega
  refine hne (toList_inj (lessB_tri ?_ ?_))
  ·cases hb : Op.bytesLess x.1.toList y.1.toList with
   | false => rfl
   | true => exact absurd (.inr ⟨hd, hb⟩) h1'
  ·cases hb : Op.bytesLess y.1.toList x.1.toList with
   | false => rfl
   | true => exact absurd (.inr ⟨hd.symm, hb⟩) h2'
def posE (x : En) : List En → Nat
 | [] => 0
 | y :: r => if ltB y x = true then posE x r + 1 else 0
theorem posE_le (x : En) : ∀ E, posE x E ≤ E.length
 | [] => Nat.le_refl _
 | y :: r => by
  unfold posE
  split
  ·exact Nat.succ_le_succ (posE_le x r)
  ·exact Nat.zero_le _
theorem posE_uniq (x : En) : ∀ (E : List En) (i : Nat), i ≤ E.length → (∀ k y, k < i → E[k]? = some y → ltB y x = true) → (∀ k y, i ≤ k → E[k]? = some y → ltB y x = false) → posE x E = i
 | [], i, hi, _, _ => by simp at hi; subst hi; rfl
 | y :: r, 0, _, _, h2 => by
  unfold posE
  rw [if_neg (by rw [h2 0 y (Nat.le_refl _) rfl]; simp)]
 | y :: r, i + 1, hi, h1, h2 => by
  unfold posE
  rw [if_pos (h1 0 y (Nat.succ_pos _) rfl), posE_uniq x r i (by simpa using hi) (fun k z hk hz => h1 (k + 1) z (by omega) (by simpa using hz)) (fun k z hk hz => h2 (k + 1) z (by omega) (by simpa using hz))]
def srtE (E : List En) : Prop := ∀ (i k : Nat) (y z : En), i < k → E[i]? = some y → E[k]? = some z → ltB y z = true
theorem srtE_cons {x : En} {r : List En} : srtE (x :: r) ↔ (∀ y ∈ r, ltB x y = true) ∧ srtE r := by
 constructor
 ·intro h
  refine ⟨fun y hy => ?_, fun i k y z hik hy hz => h (i + 1) (k + 1) y z (by omega) (by simpa using hy) (by simpa using hz)⟩
  obtain ⟨k, hk⟩ := List.mem_iff_getElem?.1 hy
  exact h 0 (k + 1) x y (by omega) rfl (by simpa using hk)
 ·rintro ⟨h1, h2⟩ i k y z hik hy hz
  cases k with
  | zero => omega
  | succ k =>
   cases i with
   | zero => simp at hy hz; subst hy; exact h1 z (List.mem_of_getElem? hz)
   | succ i => exact h2 i k y z (by omega) (by simpa using hy) (by simpa using hz)
def insE (x : En) (E : List En) : List En := E.take (posE x E) ++ x :: E.drop (posE x E)
theorem insE_cons (x y : En) (r : List En) : insE x (y :: r) = if ltB y x = true then y :: insE x r else x :: y :: r := by
 unfold insE
 rw [posE]
 split
 ·rw [List.take_succ_cons, List.drop_succ_cons, List.cons_append]
 ·rfl
theorem mem_insE {x y : En} {E : List En} : y ∈ insE x E ↔ y = x ∨ y ∈ E := by
 unfold insE
 rw [List.mem_append, List.mem_cons]
 have : y ∈ E ↔ y ∈ E.take (posE x E) ∨ y ∈ E.drop (posE x E) := by rw [← List.mem_append, List.take_append_drop]
 rw [this]
 constructor
 ·rintro (h | h | h)
  ·exact .inr (.inl h)
  ·exact .inl h
  ·exact .inr (.inr h)
 ·rintro (h | h | h)
  ·exact .inr (.inl h)
  ·exact .inl h
  ·exact .inr (.inr h)
theorem insE_srt {x : En} : ∀ {E : List En}, srtE E → (∀ y ∈ E, y.1 ≠ x.1) → srtE (insE x E)
 | [], _, _ => by
  intro i k y z hik hy hz
  have hk : k < (insE x []).length := (List.getElem?_eq_some_iff.1 hz).1
  simp [insE] at hk
  omega
 | w :: r, h, hk => by
  have h' := srtE_cons.1 h
  rw [insE_cons]
  split
  ·rename_i hlt
   refine srtE_cons.2 ⟨fun y hy => ?_, insE_srt h'.2 fun y hy => hk y (List.mem_cons_of_mem _ hy)⟩
   rcases mem_insE.1 hy with rfl | hy
   ·exact hlt
   ·exact h'.1 y hy
  ·rename_i hlt
   have hwx : ltB x w = true := ltB_tri (hk w List.mem_cons_self) (by simpa using hlt)
   refine srtE_cons.2 ⟨fun y hy => ?_, h⟩
   rcases List.mem_cons.1 hy with rfl | hy
   ·exact hwx
   ·exact ltB_trans hwx (h'.1 y hy)
theorem hasC_iff {c : ByteArray} {ks : List ByteArray} : hasC c ks = true ↔ c ∈ ks := by
 unfold hasC
 simp
def keysE (E : List En) : List ByteArray := E.map (·.1)
theorem bkE_iff {A : List (ByteArray × Int)} : ∀ (E : List En) (ks : List ByteArray) (p : Option En), (∀ y, p = some y → ∀ z, z ∈ E → True) → (bkE A ks p E = 0 ↔ (∀ x ∈ E, enX x = 0 ∧ knownB A x = true) ∧ (keysE E).Nodup ∧ (∀ x ∈ E, x.1 ∉ ks) ∧ srtE E ∧ ∀ y, p = some y → ∀ z, E.head? = some z → ltB y z = true)
 | [], ks, p, _ => by
  refine ⟨fun _ => ⟨by simp, by simp [keysE], by simp, fun i k y z _ hy => by simp at hy, by simp⟩, fun _ => rfl⟩
 | x :: r, ks, p, _ => by
  unfold bkE
  have ih := bkE_iff (A := A) r (ks ++ [x.1]) (some x) (fun _ _ _ _ => trivial)
  by_cases h1 : enX x = 0
  ·rw [if_neg (fun hh => hh h1)]
   cases h2 : knownB A x with
   | false =>
    rw [if_pos rfl]
    refine ⟨fun h => by omega, fun h => ?_⟩
    have := (h.1 x List.mem_cons_self).2
    rw [h2] at this; cases this
   | true =>
    rw [if_neg (by simp)]
    by_cases h3 : hasC x.1 ks = true
    ·rw [if_pos h3]
     exact ⟨fun h => by omega, fun h => absurd (hasC_iff.1 h3) (h.2.2.1 x List.mem_cons_self)⟩
    rw [if_neg h3]
    by_cases h4 : badO p x = true
    ·rw [if_pos h4]
     refine ⟨fun h => by omega, fun h => ?_⟩
     cases p with
     | none => cases h4
     | some y =>
      have := h.2.2.2.2 y rfl x rfl
      simp [badO, this] at h4
    ·rw [if_neg h4, ih]
     constructor
     ·rintro ⟨g1, g2, g3, g4, g5⟩
      refine ⟨fun y hy => ?_, ?_, fun y hy => ?_, srtE_cons.2 ⟨?_, g4⟩, fun y hy z hz => ?_⟩
      ·rcases List.mem_cons.1 hy with rfl | hy
       ·exact ⟨h1, h2⟩
       ·exact g1 y hy
      ·refine List.nodup_cons.2 ⟨fun hm => ?_, g2⟩
       obtain ⟨y, hy, he⟩ := List.mem_map.1 hm
       exact g3 y hy (by rw [he]; simp)
      ·rcases List.mem_cons.1 hy with rfl | hy
       ·exact fun hm => h3 (hasC_iff.2 hm)
       ·exact fun hm => g3 y hy (List.mem_append_left _ hm)
      ·intro y hy
       cases r with
       | nil => simp at hy
       | cons z r' =>
        have hz := g5 x rfl z rfl
        rcases List.mem_cons.1 hy with rfl | hy
        ·exact hz
        ·exact ltB_trans hz ((srtE_cons.1 g4).1 y hy)
      ·simp at hz
       subst hz
       subst hy
       simpa [badO] using h4
     ·rintro ⟨g1, g2, g3, g4, g5⟩
      have g2' := List.nodup_cons.1 g2
      refine ⟨fun y hy => g1 y (List.mem_cons_of_mem _ hy), g2'.2, fun y hy hm => ?_, (srtE_cons.1 g4).2, fun y hy z hz => ?_⟩
      ·rcases List.mem_append.1 hm with hm | hm
       ·exact g3 y (List.mem_cons_of_mem _ hy) hm
       ·simp at hm
        exact g2'.1 (List.mem_map.2 ⟨y, hy, hm⟩)
      ·simp at hy
       subst hy
       exact (srtE_cons.1 g4).1 z (List.mem_of_head? hz)
  ·rw [if_pos h1]
   exact ⟨fun h => absurd h h1, fun h => absurd (h.1 x List.mem_cons_self).1 h1⟩
theorem bkChk_iff {A : List (ByteArray × Int)} {E : List En} {s : Int} : bkChk A E s = 0 ↔ acChk A = 0 ∧ (-1 ≤ s ∧ s ≤ 292193) ∧ E.length ≤ 60 ∧ (∀ x ∈ E, enX x = 0 ∧ knownB A x = true) ∧ (keysE E).Nodup ∧ srtE E := by
 unfold bkChk
 by_cases h1 : acChk A = 0
 ·rw [if_neg (fun hh => hh h1)]
  by_cases h2 : -1 ≤ s ∧ s ≤ 292193
  ·rw [if_neg (fun hh => hh h2)]
   by_cases h3 : 60 < E.length
   ·rw [if_pos h3]
    exact ⟨fun h => by omega, fun h => by omega⟩
   ·rw [if_neg h3, bkE_iff E [] none (fun _ _ _ _ => trivial)]
    constructor
    ·rintro ⟨g1, g2, _, g4, _⟩
     exact ⟨h1, h2, by omega, g1, g2, g4⟩
    ·rintro ⟨_, _, _, g1, g2, g4⟩
     exact ⟨g1, g2, by simp, g4, by simp⟩
  ·rw [if_pos h2]
   exact ⟨fun h => by omega, fun h => absurd h.2.1 h2⟩
 ·rw [if_pos h1]
  exact ⟨fun h => absurd h h1, fun h => absurd h.1 h1⟩
/-! ### posted -/
def getE (k : ByteArray) (E : List En) : Option En := E.find? fun y => decide (y.1 = k)
theorem getE_none {k : ByteArray} {E : List En} (h : getE k E = none) : ∀ y ∈ E, y.1 ≠ k := fun y hy => by
 have := List.find?_eq_none.1 h y hy
 simpa using this
theorem getE_some {k : ByteArray} {E : List En} {y : En} (h : getE k E = some y) : y ∈ E ∧ y.1 = k := by
 refine ⟨List.mem_of_find?_eq_some h, ?_⟩
 have := List.find?_some h
 simpa using this
def postE (A : List (ByteArray × Int)) (E : List En) (s : Int) (x : En) : Int :=
 if bkChk A E s ≠ 0 then bkChk A E s else if enX x ≠ 0 then enX x else match getE x.1 E with
 | some y => if y = x then 0 else 5
 | none => if knownB A x = false then 4 else if x.2.1 ≤ s then 9 else if E.length = 60 then 2 else 0
def postB (E : List En) (x : En) : List En := match getE x.1 E with
 | some _ => E
 | none => insE x E
theorem insE_len (x : En) (E : List En) : (insE x E).length = E.length + 1 := by
 have := posE_le x E
 unfold insE
 simp only [List.length_append, List.length_cons, List.length_take, List.length_drop]
 omega
theorem insE_perm (x : En) (E : List En) : (insE x E).Perm (x :: E) := by
 unfold insE
 refine List.perm_middle.trans ?_
 rw [List.take_append_drop]
theorem postE_ok {A : List (ByteArray × Int)} {E : List En} {s : Int} {x : En} (h : postE A E s x = 0) : bkChk A E s = 0 ∧ enX x = 0 ∧ bkChk A (postB E x) s = 0 := by
 unfold postE at h
 by_cases h1 : bkChk A E s = 0
 ·rw [if_neg (fun hh => hh h1)] at h
  by_cases h2 : enX x = 0
  ·rw [if_neg (fun hh => hh h2)] at h
   refine ⟨h1, h2, ?_⟩
   unfold postB
   split at h
   ·rename_i y hy
    exact h1
   ·rename_i hn
    cases h3 : knownB A x with
    | false => rw [if_pos h3] at h; omega
    | true =>
     rw [if_neg (by rw [h3]; simp)] at h
     by_cases h4 : x.2.1 ≤ s
     ·rw [if_pos h4] at h; omega
     rw [if_neg h4] at h
     by_cases h5 : E.length = 60
     ·rw [if_pos h5] at h; omega
     obtain ⟨g1, g2, g3, g4, g5, g6⟩ := bkChk_iff.1 h1
     have hno := getE_none hn
     refine bkChk_iff.2 ⟨g1, g2, by show (insE x E).length ≤ 60; rw [insE_len]; omega, fun y hy => ?_, ?_, insE_srt g6 hno⟩
     ·rcases mem_insE.1 hy with rfl | hy
      ·exact ⟨h2, h3⟩
      ·exact g4 y hy
     ·have hp : (keysE (insE x E)).Perm (x.1 :: keysE E) := (insE_perm x E).map (fun y : En => y.1)
      rw [hp.nodup_iff]
      refine List.nodup_cons.2 ⟨fun hm => ?_, g5⟩
      obtain ⟨y, hy, he⟩ := List.mem_map.1 hm
      exact hno y hy he
  ·rw [if_pos h2] at h; exact absurd h h2
 ·rw [if_pos h1] at h; exact absurd h h1
theorem ofB_ins (c : ByteArray) (f t : Int) (x : En) (E : List En) : ofB c f t (insE x E) = ofX c f t x + ofB c f t E := by
 unfold ofB insE
 have h : (E.map (ofX c f t)).sum = ((E.take (posE x E)).map (ofX c f t)).sum + ((E.drop (posE x E)).map (ofX c f t)).sum := by
  rw [← List.sum_append, ← List.map_append, List.take_append_drop]
 rw [List.map_append, List.map_cons, List.sum_append, List.sum_cons, h]
 omega
end Go.Acc
end
section
namespace Go.Acc
open Go
def pos (n : Int) : Int := if 0 < n then n else 0
def neg (n : Int) : Int := if 0 < n then 0 else -n
def trD (E : List En) (day : Int) (A : List (ByteArray × Int)) : Int := (A.map fun a => pos (ofB a.1 0 day E)).sum
def trC (E : List En) (day : Int) (A : List (ByteArray × Int)) : Int := (A.map fun a => neg (ofB a.1 0 day E)).sum
def kdS (E : List En) (f t k : Int) (A : List (ByteArray × Int)) : Int := (A.map fun a => if a.2 = k then ofB a.1 f t E else 0).sum
theorem sum_take {α : Type} (g : α → Int) {l : List α} {k : Nat} {x : α} (h : l[k]? = some x) : ((l.take (k + 1)).map g).sum = ((l.take k).map g).sum + g x := by
 have hlt : k < l.length := (List.getElem?_eq_some_iff.1 h).1
 have he : l[k] = x := (List.getElem?_eq_some_iff.1 h).2
 rw [List.take_succ_eq_append_getElem hlt, he, List.map_append, List.sum_append]
 simp
theorem sum_bdk {α : Type} (g : α → Int) (M : Int) (hM : 0 ≤ M) {l : List α} (h : ∀ x, -M ≤ g x ∧ g x ≤ M) (n : Nat) (hl : l.length ≤ n) (k : Nat) : -(n * M) ≤ ((l.take k).map g).sum ∧ ((l.take k).map g).sum ≤ n * M := by
 have h1 := sum_bd g M hM (l.take k) fun x _ => h x
 have h2 : ((l.take k).length : Int) * M ≤ n * M := Int.mul_le_mul_of_nonneg_right (by rw [List.length_take]; omega) hM
 omega
theorem trD_bd {E : List En} (hE : ∀ x ∈ E, enX x = 0) (hl : E.length ≤ 60) (day : Int) {A : List (ByteArray × Int)} (hA : A.length ≤ 24) (k : Nat) : -17280000000000000 ≤ trD E day (A.take k) ∧ trD E day (A.take k) ≤ 17280000000000000 := by
 have := sum_bdk (fun a : ByteArray × Int => pos (ofB a.1 0 day E)) 720000000000000 (by omega) (l := A) (fun a => by have := ofB_bd a.1 0 day hE hl; unfold pos; split <;> omega) 24 hA k
 exact this
theorem trC_bd {E : List En} (hE : ∀ x ∈ E, enX x = 0) (hl : E.length ≤ 60) (day : Int) {A : List (ByteArray × Int)} (hA : A.length ≤ 24) (k : Nat) : -17280000000000000 ≤ trC E day (A.take k) ∧ trC E day (A.take k) ≤ 17280000000000000 := by
 have := sum_bdk (fun a : ByteArray × Int => neg (ofB a.1 0 day E)) 720000000000000 (by omega) (l := A) (fun a => by have := ofB_bd a.1 0 day hE hl; unfold neg; split <;> omega) 24 hA k
 exact this
theorem kdS_bd {E : List En} (hE : ∀ x ∈ E, enX x = 0) (hl : E.length ≤ 60) (f t i : Int) {A : List (ByteArray × Int)} (hA : A.length ≤ 24) (k : Nat) : -17280000000000000 ≤ kdS E f t i (A.take k) ∧ kdS E f t i (A.take k) ≤ 17280000000000000 := by
 have := sum_bdk (fun a : ByteArray × Int => if a.2 = i then ofB a.1 f t E else 0) 720000000000000 (by omega) (l := A) (fun a => by have := ofB_bd a.1 f t hE hl; split <;> omega) 24 hA k
 exact this
/-! ### the map of sums: its keys are accounts, each once -/
/-! ### codes of accounts that may be: each once -/
theorem acE_codes : ∀ (A : List (ByteArray × Int)) (p : Option ByteArray), acE p A = 0 → (∀ a ∈ A, 0 ≤ a.2 ∧ a.2 ≤ 4) ∧ (A.map (·.1)).Nodup ∧ ∀ c, p = some c → ∀ a ∈ A, Op.bytesLess c.toList a.1.toList = true
 | [], _, _ => ⟨by simp, by simp, by simp⟩
 | (c, k) :: A, p, h => by
  unfold acE at h
  by_cases h1 : codeOk c = false
  ·rw [if_pos h1] at h; omega
  rw [if_neg h1] at h
  by_cases h2 : ¬ (0 ≤ k ∧ k ≤ 4)
  ·rw [if_pos h2] at h; omega
  rw [if_neg h2] at h
  obtain ⟨h, h3⟩ : acE (some c) A = 0 ∧ ∀ d, p = some d → Op.bytesLess d.toList c.toList = true := by
   cases p with
   | none => exact ⟨by simpa using h, fun d hd => by cases hd⟩
   | some d =>
    cases hb : Op.bytesLess d.toList c.toList with
    | true => exact ⟨by simpa [hb] using h, fun d' hd => by cases hd; exact hb⟩
    | false => simp [hb] at h
  obtain ⟨g1, g2, g3⟩ := acE_codes A (some c) h
  refine ⟨fun a ha => ?_, ?_, fun d hd a ha => ?_⟩
  ·rcases List.mem_cons.1 ha with rfl | ha
   ·exact Decidable.not_not.1 h2
   ·exact g1 a ha
  ·rw [List.map_cons, List.nodup_cons]
   refine ⟨fun hm => ?_, g2⟩
   obtain ⟨a, ha, he⟩ := List.mem_map.1 hm
   have := g3 c rfl a ha
   rw [he, lessB_irrefl] at this
   cases this
  ·subst hd
   have hdc : Op.bytesLess d.toList c.toList = true := h3 d rfl
   rcases List.mem_cons.1 ha with rfl | ha
   ·exact hdc
   ·exact lessB_trans hdc (g3 c rfl a ha)
theorem acChk_codes {A : List (ByteArray × Int)} (h : acChk A = 0) : A.length ≤ 24 ∧ (∀ a ∈ A, 0 ≤ a.2 ∧ a.2 ≤ 4) ∧ (A.map (·.1)).Nodup := by
 unfold acChk at h
 by_cases h1 : 24 < A.length
 ·rw [if_pos h1] at h; omega
 ·rw [if_neg h1] at h
  obtain ⟨g1, g2, _⟩ := acE_codes A none h
  exact ⟨by omega, g1, g2⟩
/-! ### a sum over accounts is one over the map -/
/-! ### entries that a loop over a map has seen -/
end Go.Acc
end
