/-
  Steps of the proof of LogReplays: BkI BkJ.
-/
import Derived.Test.YtdmkmbaaemhhhaaGreatDoorP19
set_option linter.unusedVariables false
set_option linter.unusedSimpArgs false
section
namespace Go.Proofs.YtdmkmbaaemhhhaaGreatDoor
open Go Go.Ev Go.RowKit Go.Acc
set_option maxHeartbeats 4000000
theorem sound_res {P : Program} {J : World → Prop} {f : FuncId} {args : List V} {r r' : V} (h : SoundAt P J f args r []) (hd : V.data r = true) (hr : ∀ (w : World) (ok : Nat → Prop) val, RelD w ok r val → RelD w ok r' val) : SoundAt P J f args r' [] := by
 refine ⟨h.1, fun w ok us hJ hok hlen hrel => (h.2 w ok us hJ hok hlen hrel).mono ?_⟩
 rintro e w' ⟨val, ρr, he, hb, hi, hrr⟩
 exact ⟨val, ρr, he, hb, hi, .ro (hr _ _ _ (hrr.toD hd))⟩
theorem zero_row (sz : Nat) (w : World) (ok : Nat → Prop) (val : Value) (h : RelD w ok .zero val) : RelD w ok (.row sz []) val := by
 cases h
 exact .nil _ _
theorem bin_eql_rawz (v : Value) : binV .eql (.raw v) .zero = none := rfl
theorem sound_empty {P : Program} {J : World → Prop} {f : FuncId} {sz : Nat} {r : V} {bs : List Ev.Blk} (h0 : SoundAt P J f [.zero] r bs) (h1 : ∀ a c, SoundAt P J f [.raw (.slice (some a) 0 c)] r bs) : SoundAt P J f [.row sz []] r bs := by
 refine ⟨h0.1, fun w ok us hJ hok hlen hrel => ?_⟩
 match us, hlen with
 | [u], _ =>
  have hu := hrel 0 _ u rfl rfl
  cases hu with
  | nil _ a =>
   cases a with
   | none =>
    exact h0.2 w ok _ hJ hok rfl fun j c v hc hv => by
     match j with
     | 0 => simp at hc hv; subst hc; subst hv; exact .zero
     | j + 1 => simp at hc
   | some a =>
    exact (h1 a 0).2 w ok _ hJ hok rfl fun j c v hc hv => by
     match j with
     | 0 => simp at hc hv; subst hc; subst hv; exact .raw _
     | j + 1 => simp at hc
  | row _ _ g o cap vs =>
   exact (h1 ⟨g, o, none⟩ cap).2 w ok _ hJ hok rfl fun j c v hc hv => by
     match j with
     | 0 => simp at hc hv; subst hc; subst hv; exact .raw _
     | j + 1 => simp at hc
def cloneF : List V → Option (V × List Ev.Blk)
 | [.row 2 es] => if es.length ≤ 1000 then (unAc es).map fun l => (.row 2 (l.map acV), []) else none
 | _ => none
theorem cloneF_eq (l : List (ByteArray × Int)) (hl : l.length ≤ 1000) : cloneF [.row 2 (l.map acV)] = some (.row 2 (l.map acV), []) := by
 simp only [cloneF, unAc_map, Option.map_some]
 exact if_pos (by rw [List.length_map]; exact hl)
theorem cloneL_sound {J : World → Prop} (hJ : Stable J) (l : List (ByteArray × Int)) (hl : l.length ≤ 1000) : SoundAt Tryz.prog J 34 [.row 2 (l.map acV)] (.row 2 (l.map acV)) [] := by
 cases l with
 | nil =>
  refine sound_empty ?_ (fun a c => ?_)
  ·refine sound_res (r := .zero) ?_ rfl (zero_row 2)
   refine evFn (l := []) (nv := nv0) (fz := fzL [(2, [40])]) (dr := dr34) (dd := dd34) (lam := []) (ms := ms0) trivial hJ trivial ms0_ok Tryz.func34 rfl rfl (Nat.le_of_ble_eq_true rfl) (Nat.le_of_ble_eq_true rfl) drOk34 ?_
   dsimp only [Tryz.f34, dr34, dd34, Option.getD_some]
   refine ev_start ?_
   simp (disch := omega) only [bin_eql_rawz, freezeL, St.freeze, List.filter_cons, List.filter_nil, bne, go_sem, evP_D, evD_guard, evD_cons, evD_zero, evD_nil]
  ·skip
   refine evFn (l := []) (nv := nv0) (fz := fzL [(2, [40])]) (dr := dr34) (dd := dd34) (lam := []) (ms := ms0) trivial hJ trivial ms0_ok Tryz.func34 rfl rfl (Nat.le_of_ble_eq_true rfl) (Nat.le_of_ble_eq_true rfl) drOk34 ?_
   dsimp only [Tryz.f34, dr34, dd34, Option.getD_some]
   refine ev_start ?_
   simp (disch := omega) only [bin_eql_rawz, freezeL, St.freeze, List.filter_cons, List.filter_nil, bne, go_sem, evP_D, evD_guard, evD_cons, evD_zero, evD_nil]
 | cons p l =>
  refine evFn (l := []) (nv := nv0) (fz := fzL [(2, [40])]) (dr := dr34) (dd := dd34) (lam := []) (ms := ms0) trivial hJ trivial ms0_ok Tryz.func34 rfl rfl (Nat.le_of_ble_eq_true rfl) (Nat.le_of_ble_eq_true rfl) drOk34 ?_
  dsimp only [Tryz.f34, dr34, dd34, Option.getD_some]
  refine ev_start ?_
  have h1 : 0 < l.length + 1 := by omega
  rw [List.length_cons] at hl
  simp (disch := omega) only [h1, List.length_map, List.length_cons, freezeL, St.freeze, List.filter_cons, List.filter_nil, bne, go_sem, evP_D, evD_guard, evD_cons, evD_zero, evD_nil]
theorem cloneL_snd {J : World → Prop} (hJ : Stable J) : Snd Tryz.prog J 34 cloneF := by
 intro args r bs h
 unfold cloneF at h
 split at h
 ·rename_i es
  split at h
  ·rename_i hc
   simp only [Option.map_eq_some_iff] at h
   obtain ⟨l, hl, h⟩ := h
   obtain ⟨rfl, rfl⟩ := some_pair (congrArg some h)
   have e := unAc_eq hl
   subst e
   exact cloneL_sound hJ l (by simpa using hc)
  ·cases h
 ·cases h
theorem cloneA_sound {J : World → Prop} (hJ : Stable J) (l : List (ByteArray × Int)) (hl : l.length ≤ 1000) : SoundAt Tryz.prog J 78 [.row 2 (l.map acV)] (.row 2 (l.map acV)) [] := by
 cases l with
 | nil =>
  refine sound_empty ?_ (fun a c => ?_)
  ·refine sound_res (r := .zero) ?_ rfl (zero_row 2)
   refine evFn (l := []) (nv := nv0) (fz := fzL [(2, [40])]) (dr := dr78) (dd := dd78) (lam := []) (ms := ms0) trivial hJ trivial ms0_ok Tryz.func78 rfl rfl (Nat.le_of_ble_eq_true rfl) (Nat.le_of_ble_eq_true rfl) drOk78 ?_
   dsimp only [Tryz.f78, dr78, dd78, Option.getD_some]
   refine ev_start ?_
   simp (disch := omega) only [bin_eql_rawz, freezeL, St.freeze, List.filter_cons, List.filter_nil, bne, go_sem, evP_D, evD_guard, evD_cons, evD_zero, evD_nil]
  ·skip
   refine evFn (l := []) (nv := nv0) (fz := fzL [(2, [40])]) (dr := dr78) (dd := dd78) (lam := []) (ms := ms0) trivial hJ trivial ms0_ok Tryz.func78 rfl rfl (Nat.le_of_ble_eq_true rfl) (Nat.le_of_ble_eq_true rfl) drOk78 ?_
   dsimp only [Tryz.f78, dr78, dd78, Option.getD_some]
   refine ev_start ?_
   simp (disch := omega) only [bin_eql_rawz, freezeL, St.freeze, List.filter_cons, List.filter_nil, bne, go_sem, evP_D, evD_guard, evD_cons, evD_zero, evD_nil]
 | cons p l =>
  refine evFn (l := []) (nv := nv0) (fz := fzL [(2, [40])]) (dr := dr78) (dd := dd78) (lam := []) (ms := ms0) trivial hJ trivial ms0_ok Tryz.func78 rfl rfl (Nat.le_of_ble_eq_true rfl) (Nat.le_of_ble_eq_true rfl) drOk78 ?_
  dsimp only [Tryz.f78, dr78, dd78, Option.getD_some]
  refine ev_start ?_
  have h1 : 0 < l.length + 1 := by omega
  rw [List.length_cons] at hl
  simp (disch := omega) only [h1, List.length_map, List.length_cons, freezeL, St.freeze, List.filter_cons, List.filter_nil, bne, go_sem, evP_D, evD_guard, evD_cons, evD_zero, evD_nil]
theorem cloneA_snd {J : World → Prop} (hJ : Stable J) : Snd Tryz.prog J 78 cloneF := by
 intro args r bs h
 unfold cloneF at h
 split at h
 ·rename_i es
  split at h
  ·rename_i hc
   simp only [Option.map_eq_some_iff] at h
   obtain ⟨l, hl, h⟩ := h
   obtain ⟨rfl, rfl⟩ := some_pair (congrArg some h)
   have e := unAc_eq hl
   subst e
   exact cloneA_sound hJ l (by simpa using hc)
  ·cases h
 ·cases h
def cpS (A : List (ByteArray × Int)) (E : List En) (s : Int) : Nat → St
 | 0 => ⟨[(2, .ptr 16 0), (3, .ptr 24 0), (13, .row 3 (E.map enW)), (14, .int .i64 E.length), (15, .int .i64 0)], [(16, .box (.agg [.zero, .zero, .int .i64 0])), (24, .box (.agg [.row 2 (A.map acV), .zero, .int .i64 s]))]⟩
 | k + 1 => ⟨[(2, .ptr 16 0), (3, .ptr 24 0), (13, .row 3 (E.map enW)), (14, .int .i64 E.length), (15, .int .i64 ((k + 1 : Nat) : Int))], [(16, .box (.agg [.zero, .zero, .int .i64 0])), (24, .box (.agg [.row 2 (A.map acV), .vec 216, .int .i64 s])), (216, .vec 28 3 ((E.take (k + 1)).map enW))]⟩
theorem take_enW {E : List En} {k : Nat} {x : En} (h : E[k]? = some x) : (E.take (k + 1)).map enW = (E.take k).map enW ++ [enW x] := by
 have hlt : k < E.length := (List.getElem?_eq_some_iff.1 h).1
 have he : E[k] = x := (List.getElem?_eq_some_iff.1 h).2
 rw [List.take_succ_eq_append_getElem hlt, he, List.map_append]
 rfl
set_option maxHeartbeats 4000000 in
theorem copied_raw {J : World → Prop} (hJ : Stable J) (A : List (ByteArray × Int)) (E : List En) (s : Int) (hA : A.length ≤ 24) (hE : ∀ x ∈ E, x.2.2.length ≤ 12) (hl : E.length ≤ 60) : SoundAt Tryz.prog J 32 [bkV A E s] (.agg [.row 2 (A.map acV), if E = [] then .zero else .row 3 (E.map enW), .int .i64 s]) [] := by
 unfold bkV
 refine evFn (l := [(34, cloneF), (78, cloneF)]) (nv := nv0) (fz := fzL [(30, [216])]) (dr := dr32) (dd := dd32) (lam := []) (ms := ms0) ⟨cloneL_snd hJ, cloneA_snd hJ, trivial⟩ hJ trivial ms0_ok Tryz.func32 rfl rfl (Nat.le_of_ble_eq_true rfl) (Nat.le_of_ble_eq_true rfl) drOk32 ?_
 dsimp only [Tryz.f32, dr32, dd32, Option.getD_some]
 refine ev_start ?_
 have hcA := cloneF_eq A (by omega)
 simp (disch := omega) only [List.length_map, hcA, freezeL, go_sem, evP_D, evD_guard, evD_cons, evD_zero, evD_nil]
 refine evQ_loop [2, 3, 13, 14, 15] [16, 24, 216] (fun σ => ∃ (k : Nat), k ≤ E.length ∧ σ = cpS A E s k)
  (fun σ => E.length - (match Ev.look 15 σ.env with | some (.int _ n) => n.toNat | _ => 0)) ?_ ?_
 ·simp only [go_sem, evP_D, evD_guard, evD_cons, evD_zero, evD_nil]
  exact ⟨0, Nat.zero_le _, rfl⟩
 ·rintro σ ⟨k, hkl, rfl⟩
  by_cases hlt : k < E.length
  ·have hlt' : (k : Int) < E.length := by omega
   obtain ⟨⟨c, d, l⟩, hcn⟩ : ∃ p, E[k]? = some p := ⟨_, List.getElem?_eq_getElem hlt⟩
   have hcl := cloneF_eq l (by have := hE _ (List.mem_of_getElem? hcn); simp only at this; omega)
   have hg := enW_get hcn
   have ht := take_enW hcn
   have hms : E.length - ((k : Int) + 1).toNat < E.length - (k : Int).toNat := by
    have e3 : ((k : Int) + 1).toNat = k + 1 := by omega
    rw [e3, Int.toNat_natCast]; exact Nat.sub_lt_sub_left hlt (Nat.lt_succ_self k)
   cases k with
   | zero =>
    have z0 : ((0 : Nat) : Int) = 0 := rfl
    have hi0 := idx_nat E.length 0 hlt
    rw [z0] at hlt' hi0 hms
    unfold cpS
    simp (disch := (first | omega | assumption)) only [hlt', hi0, List.length_map, hg, hcl, freezeL, go_sem, evP_D, evD_guard, evD_cons, evD_zero, evD_nil]
    exact ⟨⟨1, hlt, by simp only [cpS, ht]; rfl⟩, hms⟩
   | succ k =>
    have hlk : (E.take (k + 1)).length = k + 1 := by rw [List.length_take]; omega
    unfold cpS
    simp (disch := (first | omega | assumption)) only [hlt', idx_nat, List.length_map, hlk, List.length_append, List.length_cons, List.length_nil, hg, hcl, freezeL, go_sem, evP_D, evD_guard, evD_cons, evD_zero, evD_nil]
    exact ⟨⟨k + 2, hlt, by simp only [cpS, ht]; rfl⟩, hms⟩
  ·have hk' : k = E.length := by omega
   subst hk'
   have hlt' : ¬ ((E.length : Int) < E.length) := by omega
   cases hE0 : E with
   | nil =>
    have hlt'' : ¬ ((0 : Int) < 0) := by omega
    unfold cpS
    simp (disch := (first | omega | assumption)) only [List.length_nil, hlt'', freezeL, St.freeze, List.filter_cons, List.filter_nil, bne, if_true, go_sem, evP_D, evD_guard, evD_cons, evD_zero, evD_nil]
   | cons x r =>
    have hlt'' : ¬ (((r.length + 1 : Nat) : Int) < ((r.length + 1 : Nat) : Int)) := by omega
    have htk : (x :: r).take (r.length + 1) = x :: r := List.take_length (l := x :: r)
    simp only [List.length_cons, cpS]
    simp (disch := (first | omega | assumption)) only [hlt'', htk, freezeL, St.freeze, List.filter_cons, List.filter_nil, bne, reduceCtorEq, if_false, go_sem, evP_D, evD_guard, evD_cons, evD_zero, evD_nil]
theorem copied_sound {J : World → Prop} (hJ : Stable J) (A : List (ByteArray × Int)) (E : List En) (s : Int) (hA : A.length ≤ 24) (hE : ∀ x ∈ E, x.2.2.length ≤ 12) (hl : E.length ≤ 60) : SoundAt Tryz.prog J 32 [bkV A E s] (bkV A E s) [] := by
 refine sound_res (copied_raw hJ A E s hA hE hl) ?_ fun w ok val hv => ?_
 ·split <;> rfl
 ·by_cases h0 : E = []
  ·subst h0
   rw [if_pos rfl] at hv
   cases hv with
   | agg cs vs hlen h1 hh =>
    refine .agg _ vs (by simpa using hlen) h1 fun j c v hc hv => ?_
    match j with
    | 0 => exact hh 0 c v hc hv
    | 1 => simp at hc; subst hc; exact zero_row 3 _ _ _ (hh 1 .zero v rfl hv)
    | 2 => exact hh 2 c v hc hv
    | j + 3 => simp at hc
  ·rw [if_neg h0] at hv
   exact hv
theorem acChk_len {A : List (ByteArray × Int)} (h : acChk A = 0) : A.length ≤ 24 := by
 unfold acChk at h
 by_cases h1 : 24 < A.length
 ·rw [if_pos h1] at h; omega
 ·omega
def zbV : V := .agg [.zero, .zero, .int .i64 0]
end Go.Proofs.YtdmkmbaaemhhhaaGreatDoor
end
section
namespace Go.Proofs.YtdmkmbaaemhhhaaGreatDoor
open Go Go.Ev Go.RowKit Go.Acc
set_option maxHeartbeats 4000000
def unEn : List V → Option (List En)
 | [] => some []
 | .agg [.str k, .int .i64 d, .row 2 es] :: r => match unAc es, unEn r with
  | some l, some E => some ((k, d, l) :: E)
  | _, _ => none
 | _ => none
theorem unEn_map : ∀ E : List En, unEn (E.map enW) = some E
 | [] => rfl
 | (k, d, l) :: E => by simp only [List.map_cons, enW, unEn, unAc_map]; rw [show unEn (List.map enW E) = some E from unEn_map E]
theorem unEn_eq : ∀ {es : List V} {E : List En}, unEn es = some E → es = E.map enW
 | [], E, h => by simp only [unEn, Option.some.injEq] at h; subst h; rfl
 | v :: es, E, h => by
  unfold unEn at h
  split at h
  ·rename_i heq; cases heq
  ·rename_i k d fs r heq
   cases heq
   split at h
   ·rename_i l E' h1 h2
    simp only [Option.some.injEq] at h
    subst h
    rw [unEn_eq h2, unAc_eq h1]
    rfl
   ·cases h
  ·cases h
def rowEn : V → Option (List En)
 | .row 3 es => unEn es
 | .zero => some []
 | _ => none
theorem rowEn_row (E : List En) : rowEn (.row 3 (E.map enW)) = some E := unEn_map E
theorem rowEn_rel {L : V} {E : List En} (h : rowEn L = some E) {w : World} {ok : Nat → Prop} {val : Value} (hv : RelD w ok L val) : RelD w ok (.row 3 (E.map enW)) val := by
 unfold rowEn at h
 split at h
 ·rw [← unEn_eq h]; exact hv
 ·simp only [Option.some.injEq] at h
  subst h
  cases hv
  exact .nil _ _
 ·cases h
theorem eqA_sound {J : World → Prop} (hJ : Stable J) (xs : List (ByteArray × Int)) : SoundAt Tryz.prog J 86 [.row 2 (xs.map acV), .row 2 (xs.map acV)] (.bool true) [] := by
 refine SoundAt.row 0 rfl (callOk Tryz.func86 rfl rfl) fun hx => ?_
 simp only [maxLen, List.length_map] at hx
 refine evFn (l := []) (nv := nv0) (fz := fz0) (dr := dr86) (dd := dd86) (lam := []) (ms := ms0) trivial hJ trivial ms0_ok Tryz.func86 rfl rfl (Nat.le_of_ble_eq_true rfl) (Nat.le_of_ble_eq_true rfl) drOk86 ?_
 dsimp only [Tryz.f86, dr86, dd86, Option.getD_some]
 refine ev_start ?_
 simp (disch := omega) only [go_sem, evP_D, evD_guard, evD_cons, evD_zero, evD_nil]
 refine evQ_loop [0, 1, 12, 13] [] (fun σ => ∃ k : Nat, k ≤ xs.length ∧ σ = ⟨[(0, .row 2 (xs.map acV)), (1, .row 2 (xs.map acV)), (12, .int .i64 xs.length), (13, .int .i64 k)], []⟩) (fun σ => xs.length - (match Ev.look 13 σ.env with | some (.int _ n) => n.toNat | _ => 0)) ?_ ?_
 ·simp only [go_sem, evP_D, evD_guard, evD_cons, evD_zero, evD_nil]
  exact ⟨0, Nat.zero_le _, rfl⟩
 ·rintro σ ⟨k, hk, rfl⟩
  by_cases hlt : k < xs.length
  ·have hlt' : (k : Int) < xs.length := by omega
   obtain ⟨⟨c, n⟩, hcn⟩ : ∃ p, xs[k]? = some p := ⟨_, List.getElem?_eq_getElem hlt⟩
   have g1 := acV_get hcn
   simp (disch := (first | omega | assumption)) only [hlt', idx_nat, List.length_map, g1, str_eq, decide_true, go_sem, evP_D, evD_guard, evD_cons, evD_zero, evD_nil]
   exact ⟨⟨k + 1, hlt, rfl⟩, by
    have e3 : ((k : Int) + 1).toNat = k + 1 := by omega
    rw [e3, Int.toNat_natCast]; exact Nat.sub_lt_sub_left hlt (Nat.lt_succ_self k)⟩
  ·have hlt' : ¬ ((k : Int) < xs.length) := by omega
   simp (disch := (first | omega | assumption)) only [hlt', go_sem, evP_D, evD_guard, evD_cons, evD_zero, evD_nil]
def eqAF : List V → Option (V × List Ev.Blk)
 | [x, y] => match rowAc x, rowAc y with
  | some xs, some ys => if xs = ys then some (.bool true, []) else none
  | _, _ => none
 | _ => none
theorem eqAF_eq {x y : V} {l : List (ByteArray × Int)} (hx : rowAc x = some l) (hy : rowAc y = some l) : eqAF [x, y] = some (.bool true, []) := by
 simp only [eqAF, hx, hy, if_true]
theorem eqA_snd {J : World → Prop} (hJ : Stable J) : Snd Tryz.prog J 86 eqAF := by
 intro args r bs h
 unfold eqAF at h
 split at h
 ·rename_i x y
  split at h
  ·rename_i xs ys hx hy
   split at h
   ·rename_i hxy
    subst hxy
    obtain ⟨rfl, rfl⟩ := some_pair h
    exact sound_by (eqA_sound hJ xs) rfl fun w ok j c v hc hv => by
     match j with
     | 0 => simp at hc; subst hc; exact ⟨_, rfl, rowAc_rel hx hv⟩
     | 1 => simp at hc; subst hc; exact ⟨_, rfl, rowAc_rel hy hv⟩
     | j + 2 => simp at hc
   ·cases h
  ·cases h
 ·cases h
theorem eqF_sound {J : World → Prop} (hJ : Stable J) (E : List En) : SoundAt Tryz.prog J 87 [.row 3 (E.map enW), .row 3 (E.map enW), .fn 13 []] (.bool true) [] := by
 refine SoundAt.row 0 rfl (callOk Tryz.func87 rfl rfl) fun hx => ?_
 simp only [maxLen, List.length_map] at hx
 refine evFn (l := [(13, sameF)]) (nv := nv0) (fz := fz0) (dr := dr87) (dd := dd87) (lam := []) (ms := ms0) ⟨same_snd hJ, trivial⟩ hJ trivial ms0_ok Tryz.func87 rfl rfl (Nat.le_of_ble_eq_true rfl) (Nat.le_of_ble_eq_true rfl) drOk87 ?_
 dsimp only [Tryz.f87, dr87, dd87, Option.getD_some]
 refine ev_start ?_
 simp (disch := omega) only [go_sem, evP_D, evD_guard, evD_cons, evD_zero, evD_nil]
 refine evQ_loop [1, 2, 15, 16, 17] [] (fun σ => ∃ k : Nat, k ≤ E.length ∧ σ = ⟨[(1, .row 3 (E.map enW)), (2, .fn 13 []), (15, .row 3 (E.map enW)), (16, .int .i64 E.length), (17, .int .i64 k)], []⟩) (fun σ => E.length - (match Ev.look 17 σ.env with | some (.int _ n) => n.toNat | _ => 0)) ?_ ?_
 ·simp only [go_sem, evP_D, evD_guard, evD_cons, evD_zero, evD_nil]
  exact ⟨0, Nat.zero_le _, rfl⟩
 ·rintro σ ⟨k, hk, rfl⟩
  by_cases hlt : k < E.length
  ·have hlt' : (k : Int) < E.length := by omega
   obtain ⟨⟨c, d, l⟩, hcn⟩ : ∃ p, E[k]? = some p := ⟨_, List.getElem?_eq_getElem hlt⟩
   have g1 := enW_get hcn
   have hS := sameF_eq (k := c) (d := d) (rowAc_row l) (rowAc_row l)
   simp (disch := (first | omega | assumption)) only [hlt', idx_nat, List.length_map, g1, hS, go_sem, evP_D, evD_guard, evD_cons, evD_zero, evD_nil]
   exact ⟨⟨k + 1, hlt, rfl⟩, by
    have e3 : ((k : Int) + 1).toNat = k + 1 := by omega
    rw [e3, Int.toNat_natCast]; exact Nat.sub_lt_sub_left hlt (Nat.lt_succ_self k)⟩
  ·have hlt' : ¬ ((k : Int) < E.length) := by omega
   simp (disch := (first | omega | assumption)) only [hlt', go_sem, evP_D, evD_guard, evD_cons, evD_zero, evD_nil]
noncomputable def eqFF : List V → Option (V × List Ev.Blk)
 | [x, y, .fn f []] => match rowEn x, rowEn y with
  | some xs, some ys => if xs = ys ∧ f = 13 then some (.bool true, []) else none
  | _, _ => none
 | _ => none
theorem eqFF_eq {x y : V} {E : List En} (hx : rowEn x = some E) (hy : rowEn y = some E) : eqFF [x, y, .fn 13 []] = some (.bool true, []) := by
 simp only [eqFF, hx, hy, and_self, if_true]
theorem eqF_snd {J : World → Prop} (hJ : Stable J) : Snd Tryz.prog J 87 eqFF := by
 intro args r bs h
 unfold eqFF at h
 split at h
 ·rename_i x y f
  split at h
  ·rename_i xs ys hx hy
   split at h
   ·rename_i hxy
    obtain ⟨rfl, rfl⟩ := hxy
    obtain ⟨rfl, rfl⟩ := some_pair h
    exact sound_by (eqF_sound hJ xs) rfl fun w ok j c v hc hv => by
     match j with
     | 0 => simp at hc; subst hc; exact ⟨_, rfl, rowEn_rel hx hv⟩
     | 1 => simp at hc; subst hc; exact ⟨_, rfl, rowEn_rel hy hv⟩
     | 2 => simp at hc; subst hc; exact ⟨_, rfl, hv⟩
     | j + 3 => simp at hc
   ·cases h
  ·cases h
 ·cases h
noncomputable def sbF : List V → Option (V × List Ev.Blk)
 | [.agg [x, y, .int .i64 s], .agg [x', y', .int .i64 s']] => open Classical in if (s = s' ∧ (∃ A, rowAc x = some A ∧ rowAc x' = some A)) ∧ ∃ E, rowEn y = some E ∧ rowEn y' = some E then some (.bool true, []) else none
 | _ => none
theorem sbF_eq {x x' y y' : V} {s : Int} {A : List (ByteArray × Int)} {E : List En} (h1 : rowAc x = some A) (h2 : rowAc x' = some A) (h3 : rowEn y = some E) (h4 : rowEn y' = some E) : sbF [.agg [x, y, .int .i64 s], .agg [x', y', .int .i64 s]] = some (.bool true, []) := by
 simp only [sbF]
 exact if_pos ⟨⟨rfl, A, h1, h2⟩, E, h3, h4⟩
theorem rowAc_data {x : V} {A : List (ByteArray × Int)} (h : rowAc x = some A) : V.data x = true := by
 unfold rowAc at h
 split at h
 ·rfl
 ·rfl
 ·cases h
theorem rowEn_data {x : V} {E : List En} (h : rowEn x = some E) : V.data x = true := by
 unfold rowEn at h
 split at h
 ·rfl
 ·rfl
 ·cases h
theorem sb_snd {J : World → Prop} (hJ : Stable J) : Snd Tryz.prog J 42 sbF := by
 intro args r bs h
 unfold sbF at h
 split at h
 ·rename_i x y s x' y' s'
  split at h
  ·rename_i hc
   obtain ⟨⟨rfl, A, h1, h2⟩, E, h3, h4⟩ := hc
   obtain ⟨rfl, rfl⟩ := some_pair h
   have hS : SoundAt Tryz.prog J 42 [bkV A E s, bkV A E s] (.bool true) [] := by
    unfold bkV
    refine evFn (l := [(86, eqAF), (87, eqFF)]) (nv := nv0) (fz := fz0) (dr := dr42) (dd := dd42) (lam := []) (ms := ms0) ⟨eqA_snd hJ, eqF_snd hJ, trivial⟩ hJ trivial ms0_ok Tryz.func42 rfl rfl (Nat.le_of_ble_eq_true rfl) (Nat.le_of_ble_eq_true rfl) drOk42 ?_
    dsimp only [Tryz.f42, dr42, dd42, Option.getD_some]
    refine ev_start ?_
    have ha := eqAF_eq (rowAc_row A) (rowAc_row A)
    have he := eqFF_eq (rowEn_row E) (rowEn_row E)
    simp (disch := omega) only [ha, he, go_sem, evP_D, evD_guard, evD_cons, evD_zero, evD_nil]
   have key : ∀ (x y : V), rowAc x = some A → rowEn y = some E → ∀ (w : World) (ok : Nat → Prop) v, RelD w ok (.agg [x, y, .int .i64 s]) v → RelD w ok (bkV A E s) v := by
    intro x y hx hy w ok v hv
    cases hv with
    | agg cs vs hl h1 hh =>
     refine .agg _ vs (by simpa using hl) h1 fun j c v hc hv => ?_
     match j with
     | 0 => simp at hc; subst hc; exact rowAc_rel hx (hh 0 x v rfl hv)
     | 1 => simp at hc; subst hc; exact rowEn_rel hy (hh 1 y v rfl hv)
     | 2 => exact hh 2 c v hc hv
     | j + 3 => simp at hc
   exact sound_by hS rfl fun w ok j c v hc hv => by
    match j with
    | 0 => simp at hc; subst hc; exact ⟨_, rfl, key x y h1 h3 _ _ _ hv⟩
    | 1 => simp at hc; subst hc; exact ⟨_, rfl, key x' y' h2 h4 _ _ _ hv⟩
    | j + 2 => simp at hc
  ·cases h
 ·cases h
noncomputable def toldF : List V → Option (V × List Ev.Blk)
 | [.agg [x, y, .int .i64 s], .int .i64 e, .agg [x', y', .int .i64 s'], .int .i64 e'] => open Classical in if (e = e' ∧ s = s' ∧ (∃ A, rowAc x = some A ∧ rowAc x' = some A)) ∧ ∃ E, rowEn y = some E ∧ rowEn y' = some E then some (.bool true, []) else none
 | _ => none
theorem toldF_eq {x x' y y' : V} {s e : Int} {A : List (ByteArray × Int)} {E : List En} (h1 : rowAc x = some A) (h2 : rowAc x' = some A) (h3 : rowEn y = some E) (h4 : rowEn y' = some E) : toldF [.agg [x, y, .int .i64 s], .int .i64 e, .agg [x', y', .int .i64 s], .int .i64 e] = some (.bool true, []) := by
 simp only [toldF]
 exact if_pos ⟨⟨rfl, rfl, A, h1, h2⟩, E, h3, h4⟩
theorem told_snd {J : World → Prop} (hJ : Stable J) : Snd Tryz.prog J 12 toldF := by
 intro args r bs h
 unfold toldF at h
 split at h
 ·rename_i x y s e x' y' s' e'
  split at h
  ·rename_i hc
   obtain ⟨⟨rfl, rfl, A, h1, h2⟩, E, h3, h4⟩ := hc
   obtain ⟨rfl, rfl⟩ := some_pair h
   have hs := sbF_eq (s := s) h1 h2 h3 h4
   have d1 := rowAc_data h1
   have d2 := rowAc_data h2
   have d3 := rowEn_data h3
   have d4 := rowEn_data h4
   unfold rowAc at h1 h2
   unfold rowEn at h3 h4
   refine evFn (l := [(42, sbF)]) (nv := nv0) (fz := fz0) (dr := dr12) (dd := dd12) (lam := []) (ms := ms0) ⟨sb_snd hJ, trivial⟩ hJ trivial ms0_ok Tryz.func12 rfl rfl (Nat.le_of_ble_eq_true rfl) (Nat.le_of_ble_eq_true rfl) drOk12 ?_
   dsimp only [Tryz.f12, dr12, dd12, Option.getD_some]
   refine ev_start ?_
   split at h1 <;> split at h2 <;> split at h3 <;> split at h4 <;> first | (cases h1; done) | (cases h2; done) | (cases h3; done) | (cases h4; done) | simp (disch := omega) only [hs, go_sem, evP_D, evD_guard, evD_cons, evD_zero, evD_nil]
  ·cases h
 ·cases h
end Go.Proofs.YtdmkmbaaemhhhaaGreatDoor
end
