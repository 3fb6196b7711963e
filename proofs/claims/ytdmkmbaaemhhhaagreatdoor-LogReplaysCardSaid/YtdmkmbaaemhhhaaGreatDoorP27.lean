/-
  Steps of the proof of LogReplays: PoG PoH TopG.
-/
import Derived.Test.YtdmkmbaaemhhhaaGreatDoorP20
import Derived.Test.YtdmkmbaaemhhhaaGreatDoorP22
import Derived.Test.YtdmkmbaaemhhhaaGreatDoorP26
import Derived.Test.YtdmkmbaaemhhhaaGreatDoorP21
import Derived.Test.YtdmkmbaaemhhhaaGreatDoorP02
set_option linter.unusedVariables false
set_option linter.unusedSimpArgs false
section
namespace Go.Ev
open Go Go.RowKit
theorem take_zero {P : Program} {J : World → Prop} {f : FuncId} {T : TypeId} {sz : Nat} {as1 es' : List V} (hJJ : Stable J) (hpos : 0 < sz) (h : TakeAt P J f T sz [] as1 es') (hd : ∀ a ∈ as1, V.data a = true) : SoundAt P J f (.zero :: as1) (.vec 0) [.vec T sz es'] := by
 refine ⟨h.1, fun w ok vals hJ hok hlen hrel => ?_⟩
 match vals, hlen with
 | sv0 :: vals', hlen =>
  have h0 := hrel 0 _ sv0 rfl rfl
  cases h0
  have hI : Inv ok w.heap.size w (fun _ => none) (fun _ => none) := ⟨Nat.le_refl _, (fun b k hk => by cases hk), (fun b sv hr => by cases hr), (fun b b' sv sv' g h1 => by cases h1)⟩
  have hR := RoQ.all hI
  refine (h.2 w w.heap.size (fun g => g < w.heap.size) (okAt ok w.heap.size (fun _ => none) w) (.slice none 0 0) vals' (fun w' hb => hJJ w w' hJ hb) (Nat.le_refl _) (fun g hg => ⟨hg, by simp [own]⟩) (fun g hg => okAt_lt (Nat.le_refl _) hg) rfl hpos ⟨[], rfl, by simp, by simp, by simp, .inl ⟨none, rfl, rfl⟩⟩ (by simpa using hlen) fun j c u hc hu => ?_).mono ?_
  ·have hx := hrel (j + 1) c u (by simpa using hc) (by simpa using hu)
   have hc' := hd c (List.mem_of_getElem? hc)
   refine tk_rel hI hR (v := c) (.ro (hx.mono fun g hg => ⟨.inl ⟨hok g hg, hg⟩, rfl⟩)) ?_
   cases c <;> simp_all [tk1, V.data]
  ·rintro e w' ⟨sv', rfl, hb, hkeep, hsz, hown', hone, hO⟩
   have key : ∀ b sv, one 0 sv' b = some sv → b = 0 ∧ sv = sv' := by
    intro b sv hs
    unfold Ev.one at hs
    split at hs
    ·rename_i e; simp at hs; exact ⟨e, hs.symm⟩
    ·cases hs
   refine ⟨sv', one 0 sv', rfl, hb, ⟨hb.size, ?_, ?_, ?_⟩, .vec 0 sv' (by simp [one]) hone⟩
   ·intro b k hk
    match b with
    | 0 =>
     simp at hk
     subst hk
     refine ⟨sv', by simp [one], hpos, hO.mono (fun g hg => ⟨?_, rfl⟩) fun _ _ => rfl⟩
     rcases hg with h | ⟨h1, h2, _⟩
     ·exact .inl h
     ·omega
    | b + 1 => simp at hk
   ·intro b sv hs
    obtain ⟨rfl, rfl⟩ := key b sv hs
    exact ⟨_, rfl⟩
   ·intro b b' sv s2 g h1 h2 _ _
    rw [(key b sv h1).1, (key b' s2 h2).1]
noncomputable def take1 (T : TypeId) (sz : Nat) (es as1 es' : List V) : TypeId → Nat → List V → List V → Option (List V) := fun T' sz' es0 as0 => open Classical in if T' = T ∧ sz' = sz ∧ es0 = es ∧ as0 = as1 then some es' else none
theorem take1_eq (T : TypeId) (sz : Nat) (es as1 es' : List V) : take1 T sz es as1 es' T sz es as1 = some es' := by unfold take1; rw [if_pos ⟨rfl, rfl, rfl, rfl⟩]
theorem take1_ok {P : Program} {J : World → Prop} {f : FuncId} {T : TypeId} {sz : Nat} {es as1 es' : List V} {l : Lam} (h : TakeAt P J f T sz es as1 es') (hl : LamOk P J l) : LamOk P J ((f, (true, take1 T sz es as1 es')) :: l) := by
 refine ⟨fun T' sz' e0 a0 e1 he => ?_, hl⟩
 unfold take1 at he
 simp only at he
 split at he
 ·rename_i hc
  obtain ⟨rfl, rfl, rfl, rfl⟩ := hc
  simp only [Option.some.injEq] at he
  subst he
  exact h
 ·cases he
end Go.Ev
namespace Go.Proofs.YtdmkmbaaemhhhaaGreatDoor
open Go Go.Ev Go.RowKit Go.Acc
set_option maxHeartbeats 4000000
set_option maxHeartbeats 4000000 in
theorem copied_own {J : World → Prop} (hJ : Stable J) (A : List (ByteArray × Int)) (x0 : En) (r0 : List En) (s : Int) (hA : A.length ≤ 24) (hE : ∀ x ∈ x0 :: r0, x.2.2.length ≤ 12) (hl : (x0 :: r0).length ≤ 60) :
  SoundAt Tryz.prog J 32 [bkV A (x0 :: r0) s] (.agg [.row 2 (A.map acV), .vec 0, .int .i64 s]) [.vec 28 3 ((x0 :: r0).map enW)] := by
 generalize hEE : x0 :: r0 = E at *
 unfold bkV
 refine evFn (l := [(34, cloneF), (78, cloneF)]) (nv := nv0) (fz := fz0) (dr := dr32) (dd := dd32) (lam := []) (ms := ms0) ⟨cloneL_snd hJ, cloneA_snd hJ, trivial⟩ hJ trivial ms0_ok Tryz.func32 rfl rfl (Nat.le_of_ble_eq_true rfl) (Nat.le_of_ble_eq_true rfl) drOk32 ?_
 dsimp only [Tryz.f32, dr32, dd32, Option.getD_some]
 refine ev_start ?_
 have hcA := cloneF_eq A (by omega)
 simp (disch := omega) only [List.length_map, hcA, freezeL, go_sem, evP_D, evD_guard, evD_cons, evD_zero, evD_nil]
 refine evQ_loop [2, 3, 13, 14, 15] [16, 24, 216] (fun σ => ∃ (k : Nat), k ≤ E.length ∧ σ = cpS A E s k)
  (fun σ => E.length - (match Ev.look 15 σ.env with | some (.int _ n) => n.toNat | _ => 0)) ?_ ?_
 ·simp only [go_sem, evP_D, evD_guard, evD_cons, evD_zero, evD_nil]
  exact ⟨0, Nat.zero_le _, rfl⟩
 ·rintro σ ⟨k, hkl, rfl⟩
  by_cases hlt : k < E.length
  ·have hlt' : (k : Int) < E.length := by omega
   obtain ⟨⟨c, d, l⟩, hcn⟩ : ∃ p, E[k]? = some p := ⟨_, List.getElem?_eq_getElem hlt⟩
   have hcl := cloneF_eq l (by have := hE _ (List.mem_of_getElem? hcn); simp only at this; omega)
   have hg := enW_get hcn
   have ht := take_enW hcn
   have hms : E.length - ((k : Int) + 1).toNat < E.length - (k : Int).toNat := by
    have e3 : ((k : Int) + 1).toNat = k + 1 := by omega
    rw [e3, Int.toNat_natCast]; exact Nat.sub_lt_sub_left hlt (Nat.lt_succ_self k)
   cases k with
   | zero =>
    have z0 : ((0 : Nat) : Int) = 0 := rfl
    have hi0 := idx_nat E.length 0 hlt
    rw [z0] at hlt' hi0 hms
    unfold cpS
    simp (disch := (first | omega | assumption)) only [hlt', hi0, List.length_map, hg, hcl, freezeL, go_sem, evP_D, evD_guard, evD_cons, evD_zero, evD_nil]
    exact ⟨⟨1, hlt, by simp only [cpS, ht]; rfl⟩, hms⟩
   | succ k =>
    have hlk : (E.take (k + 1)).length = k + 1 := by rw [List.length_take]; omega
    unfold cpS
    simp (disch := (first | omega | assumption)) only [hlt', idx_nat, List.length_map, hlk, List.length_append, List.length_cons, List.length_nil, hg, hcl, freezeL, go_sem, evP_D, evD_guard, evD_cons, evD_zero, evD_nil]
    exact ⟨⟨k + 2, hlt, by simp only [cpS, ht]; rfl⟩, hms⟩
  ·have hk' : k = E.length := by omega
   subst hk'
   subst hEE
   have hlt'' : ¬ (((r0.length + 1 : Nat) : Int) < ((r0.length + 1 : Nat) : Int)) := by omega
   have htk : (x0 :: r0).take (r0.length + 1) = x0 :: r0 := List.take_length (l := x0 :: r0)
   simp only [List.length_cons, cpS]
   simp (disch := (first | omega | assumption)) only [hlt'', htk, freezeL, go_sem, evP_D, evD_guard, evD_cons, evD_zero, evD_nil]
end Go.Proofs.YtdmkmbaaemhhhaaGreatDoor
end
section
namespace Go.Proofs.YtdmkmbaaemhhhaaGreatDoor
open Go Go.Ev Go.RowKit Go.Acc
set_option maxHeartbeats 4000000
theorem enW_mk (k : ByteArray) (d : Int) (l : List (ByteArray × Int)) : enW (k, d, l) = .agg [.str k, .int .i64 d, .row 2 (l.map acV)] := rfl
noncomputable def poPhi (A : List (ByteArray × Int)) (E : List En) (s : Int) (x : En) : Phi :=
 [(11, at1 [.agg [.row 2 (A.map acV), .row 3 (E.map enW), .int .i64 s]] (.int .i64 (bkChk A E s), [])), (29, echeckF), (30, at1 [.agg [.row 2 (A.map acV), .row 3 (E.map enW), .int .i64 s], .str x.1] (.int .i64 (fiE x.1 E), [])), (33, knownF)]
theorem poPhi_ok {J : World → Prop} (hJ : Stable J) (A : List (ByteArray × Int)) (E : List En) (s : Int) (x : En) (hE : E.length ≤ maxLen) : PhiOk Tryz.prog J (poPhi A E s x) :=
 ⟨at1_snd (bcheck_sound hJ A E s hE), echeck_snd hJ, at1_snd (bfind_sound hJ A E s x.1), known_snd hJ, trivial⟩
def posR (A : List (ByteArray × Int)) (E : List En) (s : Int) (x : En) : V := .tup [if postE A E s x = 0 then bkV A (postB E x) s else zbV, .int .i64 (postE A E s x)]
theorem bse_snd {J : World → Prop} (hJ : Stable J) {A : List (ByteArray × Int)} {E : List En} {s : Int} {x : En} (hz : bkChk A E s = 0) (hx : enX x = 0) :
  SoundAt Tryz.prog J 35 [.row 3 (E.map enW), enW x, .fn 36 []] (.tup [.int .i64 (posE x E), .bool (bsB x E)]) [] := by
 obtain ⟨_, _, h3, h4, _, h6⟩ := bkChk_iff.1 hz
 exact bse_sound hJ E x h6 (fun y hy => (enX_ok (h4 y hy).1).1) (enX_ok hx).1 h3
theorem insE_rows (x : En) (E : List En) : (E.map enW).take (posE x E) ++ [enW x] ++ (E.map enW).drop (posE x E) = (insE x E).map enW := by
 unfold insE
 rw [List.map_append, List.map_cons, List.map_take, List.map_drop, List.append_assoc]
 rfl
set_option maxRecDepth 20000 in
set_option maxHeartbeats 8000000 in
theorem post_sound {J : World → Prop} (hJ : Stable J) (A : List (ByteArray × Int)) (E : List En) (s : Int) (x : En) (hE : E.length ≤ maxLen) : SoundAt Tryz.prog J 8 [bkV A E s, enW x] (posR A E s x) [] := by
 have hP := poPhi_ok hJ A E s x hE
 obtain ⟨k, d, l⟩ := x
 unfold bkV
 rw [enW_mk]
 by_cases hz : bkChk A E s = 0
 case neg =>
  have e1 : postE A E s (k, d, l) = bkChk A E s := if_pos hz
  have eR : posR A E s (k, d, l) = .tup [.agg [.zero, .zero, .int .i64 0], .int .i64 (bkChk A E s)] := by unfold posR; rw [e1, if_neg hz]; rfl
  rw [eR]
  refine evFn (l := poPhi A E s (k, d, l)) (nv := nv0) (fz := fz0) (dr := dr8) (dd := dd8) (lam := []) (ms := ms0) hP hJ trivial ms0_ok Tryz.func8 rfl rfl (Nat.le_of_ble_eq_true rfl) (Nat.le_of_ble_eq_true rfl) drOk8 ?_
  dsimp only [Tryz.f8, dr8, dd8, Option.getD_some]
  refine ev_start ?_
  simp (disch := omega) only [poPhi, at1_eq, hz, go_sem, evP_D, evD_guard, evD_cons, evD_zero, evD_nil]
 by_cases hx : enX (k, d, l) = 0
 case neg =>
  have e1 : postE A E s (k, d, l) = enX (k, d, l) := by unfold postE; rw [if_neg (fun h => h hz), if_pos hx]
  have eR : posR A E s (k, d, l) = .tup [.agg [.zero, .zero, .int .i64 0], .int .i64 (enE k d l)] := by unfold posR; rw [e1, if_neg hx]; rfl
  have hx' : ¬ enE k d l = 0 := hx
  rw [eR]
  refine evFn (l := poPhi A E s (k, d, l)) (nv := nv0) (fz := fz0) (dr := dr8) (dd := dd8) (lam := []) (ms := ms0) hP hJ trivial ms0_ok Tryz.func8 rfl rfl (Nat.le_of_ble_eq_true rfl) (Nat.le_of_ble_eq_true rfl) drOk8 ?_
  dsimp only [Tryz.f8, dr8, dd8, Option.getD_some]
  refine ev_start ?_
  simp (disch := omega) only [poPhi, at1_eq, echeckF_eq, hz, hx', go_sem, evP_D, evD_guard, evD_cons, evD_zero, evD_nil]
 have hx' : enE k d l = 0 := hx
 have hk := bkChk_ok hz
 have hA24 := acChk_len hk.1
 have hE12 : ∀ y ∈ E, y.2.2.length ≤ 12 := fun y hy => (enX_ok (hk.2.2.2 y hy).1).2.1
 cases hg : getE k E with
 | some y =>
  obtain ⟨i, hi, hyi⟩ := fiE_some hg
  have hlt : i < E.length := (List.getElem?_eq_some_iff.1 hyi).1
  have hfi : (0 : Int) ≤ i := by omega
  have e1 : postE A E s (k, d, l) = if y = (k, d, l) then 0 else 5 := by unfold postE; rw [if_neg (fun h => h hz), if_neg (fun h => h hx)]; simp only [hg]
  have e2 : postB E (k, d, l) = E := by unfold postB; simp only [hg]
  have hS := esame_sound hJ y (k, d, l)
  obtain ⟨k', d', l'⟩ := y
  have hyg := enW_get hyi
  simp only [enW_mk] at hS
  have hP' : PhiOk Tryz.prog J ((31, at1 _ (.bool (decide ((k', d', l') = (k, d, l))), [])) :: poPhi A E s (k, d, l)) := ⟨at1_snd hS, hP⟩
  by_cases hy : (k', d', l') = (k, d, l)
  ·rw [if_pos hy] at e1
   have eR : posR A E s (k, d, l) = .tup [.agg [.row 2 (A.map acV), .row 3 (E.map enW), .int .i64 s], .int .i64 0] := by unfold posR; rw [e1, if_pos rfl, e2]; rfl
   have hC := copied_sound hJ A E s hA24 hE12 hk.2.2.1
   unfold bkV at hC
   rw [eR]
   refine evFn (l := (32, at1 _ (_, [])) :: (31, at1 _ (_, [])) :: poPhi A E s (k, d, l)) (nv := nv0) (fz := fz0) (dr := dr8) (dd := dd8) (lam := []) (ms := ms0) ⟨at1_snd hC, hP'⟩ hJ trivial ms0_ok Tryz.func8 rfl rfl (Nat.le_of_ble_eq_true rfl) (Nat.le_of_ble_eq_true rfl) drOk8 ?_
   dsimp only [Tryz.f8, dr8, dd8, Option.getD_some]
   refine ev_start ?_
   simp (disch := (first | omega | assumption)) only [poPhi, at1_eq, echeckF_eq, hz, hx', hi, hfi, idx_nat, List.length_map, hyg, decide_eq_true hy, go_sem, evP_D, evD_guard, evD_cons, evD_zero, evD_nil]
  ·rw [if_neg hy] at e1
   have eR : posR A E s (k, d, l) = .tup [.agg [.zero, .zero, .int .i64 0], .int .i64 5] := by unfold posR; rw [e1, if_neg (by decide)]; rfl
   rw [eR]
   refine evFn (l := (31, at1 _ (_, [])) :: poPhi A E s (k, d, l)) (nv := nv0) (fz := fz0) (dr := dr8) (dd := dd8) (lam := []) (ms := ms0) hP' hJ trivial ms0_ok Tryz.func8 rfl rfl (Nat.le_of_ble_eq_true rfl) (Nat.le_of_ble_eq_true rfl) drOk8 ?_
   dsimp only [Tryz.f8, dr8, dd8, Option.getD_some]
   refine ev_start ?_
   simp (disch := (first | omega | assumption)) only [poPhi, at1_eq, echeckF_eq, hz, hx', hi, hfi, idx_nat, List.length_map, hyg, decide_eq_false hy, go_sem, evP_D, evD_guard, evD_cons, evD_zero, evD_nil]
 | none =>
  have hfn := fiE_none hg
  have e0 : postE A E s (k, d, l) = if knownB A (k, d, l) = false then 4 else if d ≤ s then 9 else if E.length = 60 then 2 else 0 := by unfold postE; rw [if_neg (fun h => h hz), if_neg (fun h => h hx)]; simp only [hg]
  cases hkn : knownB A (k, d, l) with
  | false =>
   have e1 : postE A E s (k, d, l) = 4 := by rw [e0, if_pos hkn]
   have eR : posR A E s (k, d, l) = .tup [.agg [.zero, .zero, .int .i64 0], .int .i64 4] := by unfold posR; rw [e1, if_neg (by decide)]; rfl
   rw [eR]
   refine evFn (l := poPhi A E s (k, d, l)) (nv := nv0) (fz := fz0) (dr := dr8) (dd := dd8) (lam := []) (ms := ms0) hP hJ trivial ms0_ok Tryz.func8 rfl rfl (Nat.le_of_ble_eq_true rfl) (Nat.le_of_ble_eq_true rfl) drOk8 ?_
   dsimp only [Tryz.f8, dr8, dd8, Option.getD_some]
   refine ev_start ?_
   simp (disch := omega) only [poPhi, at1_eq, echeckF_eq, knownF_eq, hkn, hz, hx', hfn, go_sem, evP_D, evD_guard, evD_cons, evD_zero, evD_nil]
  | true =>
   by_cases hds : d ≤ s
   ·have e1 : postE A E s (k, d, l) = 9 := by rw [e0, if_neg (by rw [hkn]; simp), if_pos hds]
    have eR : posR A E s (k, d, l) = .tup [.agg [.zero, .zero, .int .i64 0], .int .i64 9] := by unfold posR; rw [e1, if_neg (by decide)]; rfl
    rw [eR]
    refine evFn (l := poPhi A E s (k, d, l)) (nv := nv0) (fz := fz0) (dr := dr8) (dd := dd8) (lam := []) (ms := ms0) hP hJ trivial ms0_ok Tryz.func8 rfl rfl (Nat.le_of_ble_eq_true rfl) (Nat.le_of_ble_eq_true rfl) drOk8 ?_
    dsimp only [Tryz.f8, dr8, dd8, Option.getD_some]
    refine ev_start ?_
    simp (disch := omega) only [poPhi, at1_eq, echeckF_eq, knownF_eq, hkn, hz, hx', hfn, hds, go_sem, evP_D, evD_guard, evD_cons, evD_zero, evD_nil]
   by_cases h60 : E.length = 60
   ·have e1 : postE A E s (k, d, l) = 2 := by rw [e0, if_neg (by rw [hkn]; simp), if_neg hds, if_pos h60]
    have eR : posR A E s (k, d, l) = .tup [.agg [.zero, .zero, .int .i64 0], .int .i64 2] := by unfold posR; rw [e1, if_neg (by decide)]; rfl
    have h60' : ((E.length : Nat) : Int) = 60 := by omega
    rw [eR]
    refine evFn (l := poPhi A E s (k, d, l)) (nv := nv0) (fz := fz0) (dr := dr8) (dd := dd8) (lam := []) (ms := ms0) hP hJ trivial ms0_ok Tryz.func8 rfl rfl (Nat.le_of_ble_eq_true rfl) (Nat.le_of_ble_eq_true rfl) drOk8 ?_
    dsimp only [Tryz.f8, dr8, dd8, Option.getD_some]
    refine ev_start ?_
    simp (disch := omega) only [poPhi, at1_eq, echeckF_eq, knownF_eq, hkn, hz, hx', hfn, hds, List.length_map, h60', go_sem, evP_D, evD_guard, evD_cons, evD_zero, evD_nil]
   have h60' : ¬ ((E.length : Nat) : Int) = 60 := by omega
   have e1 : postE A E s (k, d, l) = 0 := by rw [e0, if_neg (by rw [hkn]; simp), if_neg hds, if_neg h60]
   have e2 : postB E (k, d, l) = insE (k, d, l) E := by unfold postB; simp only [hg]
   have eR : posR A E s (k, d, l) = .tup [.agg [.row 2 (A.map acV), .row 3 ((insE (k, d, l) E).map enW), .int .i64 s], .int .i64 0] := by unfold posR; rw [e1, if_pos rfl, e2]; rfl
   have hll : l.length ≤ 12 := (enX_ok hx).2.1
   have hcl := cloneF_eq l (by omega)
   have hbs := bse_snd hJ hz hx
   have hT := insE_take (J := J) (posE (k, d, l) E) (E.map enW) [enW (k, d, l)] (by rw [List.length_map]; exact posE_le _ _) (by simp) (by rw [List.length_map]; simp; have := hk.2.2.1; omega)
   rw [insE_rows] at hT
   rw [eR]
   rw [enW_mk] at hbs hT
   cases E with
   | nil =>
    have hC := copied_raw hJ A [] s hA24 hE12 hk.2.2.1
    rw [if_pos rfl] at hC
    unfold bkV at hC
    have hI := take_zero hJ (by decide) hT (fun a ha => by
     simp only [List.mem_cons, List.not_mem_nil, or_false] at ha
     rcases ha with rfl | rfl <;> rfl)
    have hb0 : SoundAt Tryz.prog J 35 [.zero, .agg [.str k, .int .i64 d, .row 2 (l.map acV)], .fn 36 []] (.tup [.int .i64 (posE (k, d, l) []), .bool (bsB (k, d, l) [])]) [] :=
     sound_by hbs rfl fun w ok j c v hc hv => by
      match j with
      | 0 => simp at hc; subst hc; exact ⟨_, rfl, zero_row 3 _ _ _ hv⟩
      | 1 => simp at hc; subst hc; exact ⟨_, rfl, hv⟩
      | 2 => simp at hc; subst hc; exact ⟨_, rfl, hv⟩
      | j + 3 => simp at hc
    refine evFn (l := (32, at1 _ (_, [])) :: (34, cloneF) :: (35, at1 _ (_, [])) :: (37, at1 _ (_, _)) :: poPhi A [] s (k, d, l)) (nv := nv0) (fz := fzL [(77, [608]), (79, [616])]) (dr := dr8) (dd := dd8) (lam := []) (ms := ms0) ⟨at1_snd hC, cloneL_snd hJ, at1_snd hb0, at1_snd hI, hP⟩ hJ trivial ms0_ok Tryz.func8 rfl rfl (Nat.le_of_ble_eq_true rfl) (Nat.le_of_ble_eq_true rfl) drOk8 ?_
    dsimp only [Tryz.f8, dr8, dd8, Option.getD_some]
    refine ev_start ?_
    simp (disch := (first | omega | assumption)) only [poPhi, at1_eq, echeckF_eq, knownF_eq, hkn, hz, hx', hfn, hds, List.length_map, h60', hcl, freezeL, St.freeze, List.filter_cons, List.filter_nil, bne, go_sem, evP_D, evD_guard, evD_cons, evD_zero, evD_nil]
   | cons x0 r0 =>
    have hC := copied_own hJ A x0 r0 s hA24 hE12 hk.2.2.1
    unfold bkV at hC
    refine evFn (l := (32, at1 _ (_, _)) :: (34, cloneF) :: (35, at1 _ (_, [])) :: poPhi A (x0 :: r0) s (k, d, l)) (nv := nv0) (fz := fzL [(79, [480])]) (dr := dr8) (dd := dd8) (lam := [(37, (true, take1 28 3 ((x0 :: r0).map enW) [.int .i64 (posE (k, d, l) (x0 :: r0)), .row 3 [.agg [.str k, .int .i64 d, .row 2 (l.map acV)]]] ((insE (k, d, l) (x0 :: r0)).map enW)))]) (ms := ms0) ⟨at1_snd hC, cloneL_snd hJ, at1_snd hbs, hP⟩ hJ (take1_ok hT trivial) ms0_ok Tryz.func8 rfl rfl (Nat.le_of_ble_eq_true rfl) (Nat.le_of_ble_eq_true rfl) drOk8 ?_
    dsimp only [Tryz.f8, dr8, dd8, Option.getD_some]
    refine ev_start ?_
    generalize hEE : x0 :: r0 = E at *
    simp (disch := (first | omega | assumption)) only [poPhi, at1_eq, take1_eq, echeckF_eq, knownF_eq, hkn, hz, hx', hfn, hds, List.length_map, h60', hcl, List.mapM_cons, List.mapM_nil, Option.bind_eq_bind, Option.pure_def, freezeL, St.freeze, List.filter_cons, List.filter_nil, bne, go_sem, evP_D, evD_guard, evD_cons, evD_zero, evD_nil]
end Go.Proofs.YtdmkmbaaemhhhaaGreatDoor
end
section
namespace Go.Proofs.YtdmkmbaaemhhhaaGreatDoor
open Go Go.Ev Go.RowKit Go.Acc
theorem enW_inj {E E' : List En} (h : E.map enW = E'.map enW) : E = E' := by
 have := congrArg unEn h
 rw [unEn_map, unEn_map] at this
 exact Option.some.inj this
theorem enW_inj1 {x x' : En} (h : enW x = enW x') : x = x' := by
 have := enW_inj (E := [x]) (E' := [x']) (by simp [h])
 simpa using this
theorem post_ex {J : World → Prop} (hJ : Stable J) (A : List (ByteArray × Int)) (s : Int) : ∃ F : List V → Option (V × List Ev.Blk), (∀ (E : List En) (x : En), E.length ≤ maxLen → F [.agg [.row 2 (A.map acV), .row 3 (E.map enW), .int .i64 s], enW x] = some (posR A E s x, [])) ∧ Snd Tryz.prog J 8 F := by
 obtain ⟨F, h1, h2⟩ := fam_ex (P := Tryz.prog) (J := J) (f := 8) (fun x : { x : List En × En // x.1.length ≤ maxLen } => [bkV A x.1.1 s, enW x.1.2]) (fun x => (posR A x.1.1 s x.1.2, [])) (fun i j h => by
  simp only [List.cons.injEq, bkV, V.agg.injEq, V.row.injEq, true_and, and_true] at h
  rw [enW_inj h.1, enW_inj1 h.2]) fun x => post_sound hJ A x.1.1 s x.1.2 x.2
 exact ⟨F, fun E x hE => h1 ⟨(E, x), hE⟩, h2⟩
end Go.Proofs.YtdmkmbaaemhhhaaGreatDoor
end
