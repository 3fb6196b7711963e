/-
  Steps of the proof of TopDesk: PoG PoH TopE TopG GetE UdE.
-/
import Derived.Test.YtcmpjagpggjfiaaGreatDoorT20
import Derived.Test.YtcmpjagpggjfiaaGreatDoorT21
import Derived.Test.YtcmpjagpggjfiaaGreatDoorT35
import Derived.Test.YtcmpjagpggjfiaaGreatDoorT19
set_option linter.unusedVariables false
set_option linter.unusedSimpArgs false
section
namespace Go.Ev
open Go Go.RowKit
theorem take_zero {P : Program} {J : World → Prop} {f : FuncId} {T : TypeId} {sz : Nat} {as1 es' : List V} (hJJ : Stable J) (hpos : 0 < sz) (h : TakeAt P J f T sz [] as1 es') (hd : ∀ a ∈ as1, V.data a = true) : SoundAt P J f (.zero :: as1) (.vec 0) [.vec T sz es'] := by
 refine ⟨h.1, fun w ok vals hJ hok hlen hrel => ?_⟩
 match vals, hlen with
 | sv0 :: vals', hlen =>
  have h0 := hrel 0 _ sv0 rfl rfl
  cases h0
  have hI : Inv (upto w ok) w.heap.size w (fun _ => none) (fun _ => none) := ⟨Nat.le_refl _, (fun b k hk => by cases hk), (fun b sv hr => by cases hr), (fun b b' sv sv' g h1 => by cases h1), (fun g hg hlt => by omega), (fun b sv g h1 => by cases h1)⟩
  have hR := RoQ.all hI
  refine (h.2 w w.heap.size (fun g => g < w.heap.size) (okAt (upto w ok) w.heap.size (fun _ => none) w) (.slice none 0 0) vals' (fun w' hb => hJJ w w' hJ hb) (Nat.le_refl _) (fun g hg => ⟨hg, by simp [own]⟩) (fun g hg => okAt_lt (Nat.le_refl _) hg) rfl hpos ⟨[], rfl, by simp, by simp, by simp, .inl ⟨none, rfl, rfl⟩⟩ (by simpa using hlen) fun j c u hc hu => ?_).mono ?_
  ·have hx := hrel (j + 1) c u (by simpa using hc) (by simpa using hu)
   have hc' := hd c (List.mem_of_getElem? hc)
   refine tk_rel hI hR (v := c) (.ro (hx.mono fun g hg => ⟨⟨fun _ => hg, hok g hg, fun _ _ h => by cases h⟩, rfl⟩)) ?_
   cases c <;> simp_all [tk1, V.data]
  ·rintro e w' ⟨sv', rfl, hb, hkeep, hsz, hown', hone, hO⟩
   have key : ∀ b sv, one 0 sv' b = some sv → b = 0 ∧ sv = sv' := by
    intro b sv hs
    unfold Ev.one at hs
    split at hs
    ·rename_i e; simp at hs; exact ⟨e, hs.symm⟩
    ·cases hs
   refine ⟨sv', one 0 sv', rfl, hb, ⟨hb.size, ?_, ?_, ?_, (fun g hg hlt => by have := hb.size; omega), (fun b sv g hr ho => .inr fun hlt => by obtain ⟨_, rfl⟩ := key b sv hr; have := (hO.own_ge ho).1; omega)⟩, .vec 0 sv' (by simp [one]) hone⟩
   ·intro b k hk
    match b with
    | 0 =>
     simp at hk
     subst hk
     refine ⟨sv', by simp [one], hpos, hO.mono (fun g hg => ⟨?_, rfl⟩) fun _ _ => rfl⟩
     exact ⟨hg.1, by have := hg.2.1; omega, fun b s hs ho => by obtain ⟨_, rfl⟩ := key b s hs; have := (hO.own_ge ho).1; have := hg.2.1; omega⟩
    | b + 1 => simp at hk
   ·intro b sv hs
    obtain ⟨rfl, rfl⟩ := key b sv hs
    exact ⟨_, rfl⟩
   ·intro b b' sv s2 g h1 h2 _ _
    rw [(key b sv h1).1, (key b' s2 h2).1]
noncomputable def take1 (T : TypeId) (sz : Nat) (es as1 es' : List V) : TypeId → Nat → List V → List V → Option (List V) := fun T' sz' es0 as0 => open Classical in if T' = T ∧ sz' = sz ∧ es0 = es ∧ as0 = as1 then some es' else none
theorem take1_eq (T : TypeId) (sz : Nat) (es as1 es' : List V) : take1 T sz es as1 es' T sz es as1 = some es' := by unfold take1; rw [if_pos ⟨rfl, rfl, rfl, rfl⟩]
theorem take1_ok {P : Program} {J : World → Prop} {f : FuncId} {T : TypeId} {sz : Nat} {es as1 es' : List V} {l : Lam} (h : TakeAt P J f T sz es as1 es') (hl : LamOk P J l) : LamOk P J ((f, (true, take1 T sz es as1 es')) :: l) := by
 refine ⟨fun T' sz' e0 a0 e1 he => ?_, hl⟩
 unfold take1 at he
 simp only at he
 split at he
 ·rename_i hc
  obtain ⟨rfl, rfl, rfl, rfl⟩ := hc
  simp only [Option.some.injEq] at he
  subst he
  exact h
 ·cases he
end Go.Ev
namespace Go.Proofs.YtcmpjagpggjfiaaGreatDoor
open Go Go.Ev Go.RowKit Go.Acc
set_option maxHeartbeats 4000000
set_option maxHeartbeats 4000000 in
theorem copied_own {J : World → Prop} (hJ : Stable J) (A : List (ByteArray × Int)) (x0 : En) (r0 : List En) (s : Int) (hA : A.length ≤ 24) (hE : ∀ x ∈ x0 :: r0, x.2.2.length ≤ 12) (hl : (x0 :: r0).length ≤ 60) :
  SoundAt Tryz.prog J 30 [bkV A (x0 :: r0) s] (.agg [.row 2 (A.map acV), .vec 0, .int .i64 s]) [.vec 55 3 ((x0 :: r0).map enW)] := by
 generalize hEE : x0 :: r0 = E at *
 unfold bkV
 refine evFn (l := [(32, cloneF), (100, cloneF)]) (nv := nv0) (fz := fz0) (dr := dr30) (dd := dd30) (lam := []) (ms := ms0) ⟨cloneL_snd hJ, cloneA_snd hJ, trivial⟩ hJ trivial ms0_ok Tryz.func30 rfl rfl (Nat.le_of_ble_eq_true rfl) (Nat.le_of_ble_eq_true rfl) drOk30 ?_
 dsimp only [Tryz.f30, dr30, dd30, Option.getD_some]
 refine ev_start ?_
 have hcA := cloneF_eq A (by omega)
 simp (disch := omega) only [List.length_map, hcA, freezeL, go_sem, evP_D, evD_guard, evD_cons, evD_zero, evD_nil]
 refine evQ_loop [2, 3, 13, 14, 15] [16, 24, 216] (fun σ => ∃ (k : Nat), k ≤ E.length ∧ σ = cpS A E s k)
  (fun σ => E.length - (match Ev.look 15 σ.env with | some (.int _ n) => n.toNat | _ => 0)) ?_ ?_
 ·simp only [go_sem, evP_D, evD_guard, evD_cons, evD_zero, evD_nil]
  exact ⟨0, Nat.zero_le _, rfl⟩
 ·rintro σ ⟨k, hkl, rfl⟩
  by_cases hlt : k < E.length
  ·have hlt' : (k : Int) < E.length := by omega
   obtain ⟨⟨c, d, l⟩, hcn⟩ : ∃ p, E[k]? = some p := ⟨_, List.getElem?_eq_getElem hlt⟩
   have hcl := cloneF_eq l (by have := hE _ (List.mem_of_getElem? hcn); simp only at this; omega)
   have hg := enW_get hcn
   have ht := take_enW hcn
   have hms : E.length - ((k : Int) + 1).toNat < E.length - (k : Int).toNat := by
    have e3 : ((k : Int) + 1).toNat = k + 1 := by omega
    rw [e3, Int.toNat_natCast]; exact Nat.sub_lt_sub_left hlt (Nat.lt_succ_self k)
   cases k with
   | zero =>
    have z0 : ((0 : Nat) : Int) = 0 := rfl
    have hi0 := idx_nat E.length 0 hlt
    rw [z0] at hlt' hi0 hms
    unfold cpS
    simp (disch := (first | omega | assumption)) only [hlt', hi0, List.length_map, hg, hcl, freezeL, go_sem, evP_D, evD_guard, evD_cons, evD_zero, evD_nil]
    exact ⟨⟨1, hlt, by simp only [cpS, ht]; rfl⟩, hms⟩
   | succ k =>
    have hlk : (E.take (k + 1)).length = k + 1 := by rw [List.length_take]; omega
    unfold cpS
    simp (disch := (first | omega | assumption)) only [hlt', idx_nat, List.length_map, hlk, List.length_append, List.length_cons, List.length_nil, hg, hcl, freezeL, go_sem, evP_D, evD_guard, evD_cons, evD_zero, evD_nil]
    exact ⟨⟨k + 2, hlt, by simp only [cpS, ht]; rfl⟩, hms⟩
  ·have hk' : k = E.length := by omega
   subst hk'
   subst hEE
   have hlt'' : ¬ (((r0.length + 1 : Nat) : Int) < ((r0.length + 1 : Nat) : Int)) := by omega
   have htk : (x0 :: r0).take (r0.length + 1) = x0 :: r0 := List.take_length (l := x0 :: r0)
   simp only [List.length_cons, cpS]
   simp (disch := (first | omega | assumption)) only [hlt'', htk, freezeL, go_sem, evP_D, evD_guard, evD_cons, evD_zero, evD_nil]
end Go.Proofs.YtcmpjagpggjfiaaGreatDoor
end
section
namespace Go.Proofs.YtcmpjagpggjfiaaGreatDoor
open Go Go.Ev Go.RowKit Go.Acc
set_option maxHeartbeats 4000000
theorem enW_mk (k : ByteArray) (d : Int) (l : List (ByteArray × Int)) : enW (k, d, l) = .agg [.str k, .int .i64 d, .row 2 (l.map acV)] := rfl
noncomputable def poPhi (A : List (ByteArray × Int)) (E : List En) (s : Int) (x : En) : Phi :=
 [(26, at1 [.agg [.row 2 (A.map acV), .row 3 (E.map enW), .int .i64 s]] (.int .i64 (bkChk A E s), [])), (27, echeckF), (28, at1 [.agg [.row 2 (A.map acV), .row 3 (E.map enW), .int .i64 s], .str x.1] (.int .i64 (fiE x.1 E), [])), (31, knownF)]
theorem poPhi_ok {J : World → Prop} (hJ : Stable J) (A : List (ByteArray × Int)) (E : List En) (s : Int) (x : En) (hE : E.length ≤ maxLen) : PhiOk Tryz.prog J (poPhi A E s x) :=
 ⟨at1_snd (bcheck_sound hJ A E s hE), echeck_snd hJ, at1_snd (bfind_sound hJ A E s x.1), known_snd hJ, trivial⟩
def posR (A : List (ByteArray × Int)) (E : List En) (s : Int) (x : En) : V := .tup [if postE A E s x = 0 then bkV A (postB E x) s else zbV, .int .i64 (postE A E s x)]
theorem bse_snd {J : World → Prop} (hJ : Stable J) {A : List (ByteArray × Int)} {E : List En} {s : Int} {x : En} (hz : bkChk A E s = 0) (hx : enX x = 0) :
  SoundAt Tryz.prog J 33 [.row 3 (E.map enW), enW x, .fn 34 []] (.tup [.int .i64 (posE x E), .bool (bsB x E)]) [] := by
 obtain ⟨_, _, h3, h4, _, h6⟩ := bkChk_iff.1 hz
 exact bse_sound hJ E x h6 (fun y hy => (enX_ok (h4 y hy).1).1) (enX_ok hx).1 h3
theorem insE_rows (x : En) (E : List En) : (E.map enW).take (posE x E) ++ [enW x] ++ (E.map enW).drop (posE x E) = (insE x E).map enW := by
 unfold insE
 rw [List.map_append, List.map_cons, List.map_take, List.map_drop, List.append_assoc]
 rfl
set_option maxRecDepth 20000 in
set_option maxHeartbeats 8000000 in
theorem post_sound {J : World → Prop} (hJ : Stable J) (A : List (ByteArray × Int)) (E : List En) (s : Int) (x : En) (hE : E.length ≤ maxLen) : SoundAt Tryz.prog J 13 [bkV A E s, enW x] (posR A E s x) [] := by
 have hP := poPhi_ok hJ A E s x hE
 obtain ⟨k, d, l⟩ := x
 unfold bkV
 rw [enW_mk]
 by_cases hz : bkChk A E s = 0
 case neg =>
  have e1 : postE A E s (k, d, l) = bkChk A E s := if_pos hz
  have eR : posR A E s (k, d, l) = .tup [.agg [.zero, .zero, .int .i64 0], .int .i64 (bkChk A E s)] := by unfold posR; rw [e1, if_neg hz]; rfl
  rw [eR]
  refine evFn (l := poPhi A E s (k, d, l)) (nv := nv0) (fz := fz0) (dr := dr13) (dd := dd13) (lam := []) (ms := ms0) hP hJ trivial ms0_ok Tryz.func13 rfl rfl (Nat.le_of_ble_eq_true rfl) (Nat.le_of_ble_eq_true rfl) drOk13 ?_
  dsimp only [Tryz.f13, dr13, dd13, Option.getD_some]
  refine ev_start ?_
  simp (disch := omega) only [poPhi, at1_eq, hz, go_sem, evP_D, evD_guard, evD_cons, evD_zero, evD_nil]
 by_cases hx : enX (k, d, l) = 0
 case neg =>
  have e1 : postE A E s (k, d, l) = enX (k, d, l) := by unfold postE; rw [if_neg (fun h => h hz), if_pos hx]
  have eR : posR A E s (k, d, l) = .tup [.agg [.zero, .zero, .int .i64 0], .int .i64 (enE k d l)] := by unfold posR; rw [e1, if_neg hx]; rfl
  have hx' : ¬ enE k d l = 0 := hx
  rw [eR]
  refine evFn (l := poPhi A E s (k, d, l)) (nv := nv0) (fz := fz0) (dr := dr13) (dd := dd13) (lam := []) (ms := ms0) hP hJ trivial ms0_ok Tryz.func13 rfl rfl (Nat.le_of_ble_eq_true rfl) (Nat.le_of_ble_eq_true rfl) drOk13 ?_
  dsimp only [Tryz.f13, dr13, dd13, Option.getD_some]
  refine ev_start ?_
  simp (disch := omega) only [poPhi, at1_eq, echeckF_eq, hz, hx', go_sem, evP_D, evD_guard, evD_cons, evD_zero, evD_nil]
 have hx' : enE k d l = 0 := hx
 have hk := bkChk_ok hz
 have hA24 := acChk_len hk.1
 have hE12 : ∀ y ∈ E, y.2.2.length ≤ 12 := fun y hy => (enX_ok (hk.2.2.2 y hy).1).2.1
 cases hg : getE k E with
 | some y =>
  obtain ⟨i, hi, hyi⟩ := fiE_some hg
  have hlt : i < E.length := (List.getElem?_eq_some_iff.1 hyi).1
  have hfi : (0 : Int) ≤ i := by omega
  have e1 : postE A E s (k, d, l) = if y = (k, d, l) then 0 else 5 := by unfold postE; rw [if_neg (fun h => h hz), if_neg (fun h => h hx)]; simp only [hg]
  have e2 : postB E (k, d, l) = E := by unfold postB; simp only [hg]
  have hS := esame_sound hJ y (k, d, l)
  obtain ⟨k', d', l'⟩ := y
  have hyg := enW_get hyi
  simp only [enW_mk] at hS
  have hP' : PhiOk Tryz.prog J ((29, at1 _ (.bool (decide ((k', d', l') = (k, d, l))), [])) :: poPhi A E s (k, d, l)) := ⟨at1_snd hS, hP⟩
  by_cases hy : (k', d', l') = (k, d, l)
  ·rw [if_pos hy] at e1
   have eR : posR A E s (k, d, l) = .tup [.agg [.row 2 (A.map acV), .row 3 (E.map enW), .int .i64 s], .int .i64 0] := by unfold posR; rw [e1, if_pos rfl, e2]; rfl
   have hC := copied_sound hJ A E s hA24 hE12 hk.2.2.1
   unfold bkV at hC
   rw [eR]
   refine evFn (l := (30, at1 _ (_, [])) :: (29, at1 _ (_, [])) :: poPhi A E s (k, d, l)) (nv := nv0) (fz := fz0) (dr := dr13) (dd := dd13) (lam := []) (ms := ms0) ⟨at1_snd hC, hP'⟩ hJ trivial ms0_ok Tryz.func13 rfl rfl (Nat.le_of_ble_eq_true rfl) (Nat.le_of_ble_eq_true rfl) drOk13 ?_
   dsimp only [Tryz.f13, dr13, dd13, Option.getD_some]
   refine ev_start ?_
   simp (disch := (first | omega | assumption)) only [poPhi, at1_eq, echeckF_eq, hz, hx', hi, hfi, idx_nat, List.length_map, hyg, decide_eq_true hy, go_sem, evP_D, evD_guard, evD_cons, evD_zero, evD_nil]
  ·rw [if_neg hy] at e1
   have eR : posR A E s (k, d, l) = .tup [.agg [.zero, .zero, .int .i64 0], .int .i64 5] := by unfold posR; rw [e1, if_neg (by decide)]; rfl
   rw [eR]
   refine evFn (l := (29, at1 _ (_, [])) :: poPhi A E s (k, d, l)) (nv := nv0) (fz := fz0) (dr := dr13) (dd := dd13) (lam := []) (ms := ms0) hP' hJ trivial ms0_ok Tryz.func13 rfl rfl (Nat.le_of_ble_eq_true rfl) (Nat.le_of_ble_eq_true rfl) drOk13 ?_
   dsimp only [Tryz.f13, dr13, dd13, Option.getD_some]
   refine ev_start ?_
   simp (disch := (first | omega | assumption)) only [poPhi, at1_eq, echeckF_eq, hz, hx', hi, hfi, idx_nat, List.length_map, hyg, decide_eq_false hy, go_sem, evP_D, evD_guard, evD_cons, evD_zero, evD_nil]
 | none =>
  have hfn := fiE_none hg
  have e0 : postE A E s (k, d, l) = if knownB A (k, d, l) = false then 4 else if d ≤ s then 9 else if E.length = 60 then 2 else 0 := by unfold postE; rw [if_neg (fun h => h hz), if_neg (fun h => h hx)]; simp only [hg]
  cases hkn : knownB A (k, d, l) with
  | false =>
   have e1 : postE A E s (k, d, l) = 4 := by rw [e0, if_pos hkn]
   have eR : posR A E s (k, d, l) = .tup [.agg [.zero, .zero, .int .i64 0], .int .i64 4] := by unfold posR; rw [e1, if_neg (by decide)]; rfl
   rw [eR]
   refine evFn (l := poPhi A E s (k, d, l)) (nv := nv0) (fz := fz0) (dr := dr13) (dd := dd13) (lam := []) (ms := ms0) hP hJ trivial ms0_ok Tryz.func13 rfl rfl (Nat.le_of_ble_eq_true rfl) (Nat.le_of_ble_eq_true rfl) drOk13 ?_
   dsimp only [Tryz.f13, dr13, dd13, Option.getD_some]
   refine ev_start ?_
   simp (disch := omega) only [poPhi, at1_eq, echeckF_eq, knownF_eq, hkn, hz, hx', hfn, go_sem, evP_D, evD_guard, evD_cons, evD_zero, evD_nil]
  | true =>
   by_cases hds : d ≤ s
   ·have e1 : postE A E s (k, d, l) = 9 := by rw [e0, if_neg (by rw [hkn]; simp), if_pos hds]
    have eR : posR A E s (k, d, l) = .tup [.agg [.zero, .zero, .int .i64 0], .int .i64 9] := by unfold posR; rw [e1, if_neg (by decide)]; rfl
    rw [eR]
    refine evFn (l := poPhi A E s (k, d, l)) (nv := nv0) (fz := fz0) (dr := dr13) (dd := dd13) (lam := []) (ms := ms0) hP hJ trivial ms0_ok Tryz.func13 rfl rfl (Nat.le_of_ble_eq_true rfl) (Nat.le_of_ble_eq_true rfl) drOk13 ?_
    dsimp only [Tryz.f13, dr13, dd13, Option.getD_some]
    refine ev_start ?_
    simp (disch := omega) only [poPhi, at1_eq, echeckF_eq, knownF_eq, hkn, hz, hx', hfn, hds, go_sem, evP_D, evD_guard, evD_cons, evD_zero, evD_nil]
   by_cases h60 : E.length = 60
   ·have e1 : postE A E s (k, d, l) = 2 := by rw [e0, if_neg (by rw [hkn]; simp), if_neg hds, if_pos h60]
    have eR : posR A E s (k, d, l) = .tup [.agg [.zero, .zero, .int .i64 0], .int .i64 2] := by unfold posR; rw [e1, if_neg (by decide)]; rfl
    have h60' : ((E.length : Nat) : Int) = 60 := by omega
    rw [eR]
    refine evFn (l := poPhi A E s (k, d, l)) (nv := nv0) (fz := fz0) (dr := dr13) (dd := dd13) (lam := []) (ms := ms0) hP hJ trivial ms0_ok Tryz.func13 rfl rfl (Nat.le_of_ble_eq_true rfl) (Nat.le_of_ble_eq_true rfl) drOk13 ?_
    dsimp only [Tryz.f13, dr13, dd13, Option.getD_some]
    refine ev_start ?_
    simp (disch := omega) only [poPhi, at1_eq, echeckF_eq, knownF_eq, hkn, hz, hx', hfn, hds, List.length_map, h60', go_sem, evP_D, evD_guard, evD_cons, evD_zero, evD_nil]
   have h60' : ¬ ((E.length : Nat) : Int) = 60 := by omega
   have e1 : postE A E s (k, d, l) = 0 := by rw [e0, if_neg (by rw [hkn]; simp), if_neg hds, if_neg h60]
   have e2 : postB E (k, d, l) = insE (k, d, l) E := by unfold postB; simp only [hg]
   have eR : posR A E s (k, d, l) = .tup [.agg [.row 2 (A.map acV), .row 3 ((insE (k, d, l) E).map enW), .int .i64 s], .int .i64 0] := by unfold posR; rw [e1, if_pos rfl, e2]; rfl
   have hll : l.length ≤ 12 := (enX_ok hx).2.1
   have hcl := cloneF_eq l (by omega)
   have hbs := bse_snd hJ hz hx
   have hT := insE_take (J := J) (posE (k, d, l) E) (E.map enW) [enW (k, d, l)] (by rw [List.length_map]; exact posE_le _ _) (by simp) (by rw [List.length_map]; simp; have := hk.2.2.1; omega)
   rw [insE_rows] at hT
   rw [eR]
   rw [enW_mk] at hbs hT
   cases E with
   | nil =>
    have hC := copied_raw hJ A [] s hA24 hE12 hk.2.2.1
    rw [if_pos rfl] at hC
    unfold bkV at hC
    have hI := take_zero hJ (by decide) hT (fun a ha => by
     simp only [List.mem_cons, List.not_mem_nil, or_false] at ha
     rcases ha with rfl | rfl <;> rfl)
    have hb0 : SoundAt Tryz.prog J 33 [.zero, .agg [.str k, .int .i64 d, .row 2 (l.map acV)], .fn 34 []] (.tup [.int .i64 (posE (k, d, l) []), .bool (bsB (k, d, l) [])]) [] :=
     sound_by hbs rfl fun w ok j c v hc hv => by
      match j with
      | 0 => simp at hc; subst hc; exact ⟨_, rfl, zero_row 3 _ _ _ hv⟩
      | 1 => simp at hc; subst hc; exact ⟨_, rfl, hv⟩
      | 2 => simp at hc; subst hc; exact ⟨_, rfl, hv⟩
      | j + 3 => simp at hc
    refine evFn (l := (30, at1 _ (_, [])) :: (32, cloneF) :: (33, at1 _ (_, [])) :: (35, at1 _ (_, _)) :: poPhi A [] s (k, d, l)) (nv := nv0) (fz := fzL [(77, [608]), (79, [616])]) (dr := dr13) (dd := dd13) (lam := []) (ms := ms0) ⟨at1_snd hC, cloneL_snd hJ, at1_snd hb0, at1_snd hI, hP⟩ hJ trivial ms0_ok Tryz.func13 rfl rfl (Nat.le_of_ble_eq_true rfl) (Nat.le_of_ble_eq_true rfl) drOk13 ?_
    dsimp only [Tryz.f13, dr13, dd13, Option.getD_some]
    refine ev_start ?_
    simp (disch := (first | omega | assumption)) only [poPhi, at1_eq, echeckF_eq, knownF_eq, hkn, hz, hx', hfn, hds, List.length_map, h60', hcl, freezeL, St.freeze, List.filter_cons, List.filter_nil, bne, go_sem, evP_D, evD_guard, evD_cons, evD_zero, evD_nil]
   | cons x0 r0 =>
    have hC := copied_own hJ A x0 r0 s hA24 hE12 hk.2.2.1
    unfold bkV at hC
    refine evFn (l := (30, at1 _ (_, _)) :: (32, cloneF) :: (33, at1 _ (_, [])) :: poPhi A (x0 :: r0) s (k, d, l)) (nv := nv0) (fz := fzL [(79, [480])]) (dr := dr13) (dd := dd13) (lam := [(35, (true, take1 55 3 ((x0 :: r0).map enW) [.int .i64 (posE (k, d, l) (x0 :: r0)), .row 3 [.agg [.str k, .int .i64 d, .row 2 (l.map acV)]]] ((insE (k, d, l) (x0 :: r0)).map enW)))]) (ms := ms0) ⟨at1_snd hC, cloneL_snd hJ, at1_snd hbs, hP⟩ hJ (take1_ok hT trivial) ms0_ok Tryz.func13 rfl rfl (Nat.le_of_ble_eq_true rfl) (Nat.le_of_ble_eq_true rfl) drOk13 ?_
    dsimp only [Tryz.f13, dr13, dd13, Option.getD_some]
    refine ev_start ?_
    generalize hEE : x0 :: r0 = E at *
    simp (disch := (first | omega | assumption)) only [poPhi, at1_eq, take1_eq, echeckF_eq, knownF_eq, hkn, hz, hx', hfn, hds, List.length_map, h60', hcl, List.mapM_cons, List.mapM_nil, Option.bind_eq_bind, Option.pure_def, freezeL, St.freeze, List.filter_cons, List.filter_nil, bne, go_sem, evP_D, evD_guard, evD_cons, evD_zero, evD_nil]
end Go.Proofs.YtcmpjagpggjfiaaGreatDoor
end
section
namespace Go.Proofs.YtcmpjagpggjfiaaGreatDoor
open Go Go.Ev Go.RowKit Go.Acc
set_option maxHeartbeats 4000000
def wthn (k n : Int) : Int := (k % 18446744073709551616) % n
theorem wthn_bd (k : Int) {n : Int} (h : 0 < n) : 0 ≤ wthn k n ∧ wthn k n < n := ⟨Int.emod_nonneg _ (by omega), Int.emod_lt_of_pos _ h⟩
theorem within_sound {J : World → Prop} (hJ : Stable J) (k n : Int) (h0 : 0 < n) (h1 : n ≤ 9223372036854775807) : SoundAt Tryz.prog J 4 [.int .i64 k, .int .i64 n] (.int .i64 (wthn k n)) [] := by
 have w1 : IntKind.u64.wrap k = k % 18446744073709551616 := by simp [IntKind.wrap, IntKind.bits, IntKind.signed]
 have w2 : IntKind.u64.wrap n = n := by simp [IntKind.wrap, IntKind.bits, IntKind.signed]; omega
 have hn0 : ¬ n = 0 := by omega
 have hb := wthn_bd k h0
 have ht : (k % 18446744073709551616).tmod n = wthn k n := Int.tmod_eq_emod_of_nonneg (Int.emod_nonneg _ (by decide))
 have w3 : IntKind.i64.wrap (wthn k n) = wthn k n := by rw [IntKind.wrap_i64]; omega
 refine evFn (l := []) (nv := nv0) (fz := fz0) (dr := dr4) (dd := dd4) (lam := []) (ms := ms0) trivial hJ trivial ms0_ok Tryz.func4 rfl rfl (Nat.le_of_ble_eq_true rfl) (Nat.le_of_ble_eq_true rfl) drOk4 ?_
 dsimp only [Tryz.f4, dr4, dd4, Option.getD_some]
 refine ev_start ?_
 simp (disch := omega) only [w1, w2, hn0, ht, w3, go_sem, evP_D, evD_guard, evD_cons, evD_zero, evD_nil]
theorem tkey_sound {J : World → Prop} (hJ : Stable J) (n : Nat) (h : n < 100) : SoundAt Tryz.prog J 36 [.int .i64 n] (.str (keyT n)) [] := by
 have hD := dec_nat hJ 1 n (by simpa using h) (by omega) (by omega)
 have hs := decF_size 1 n (by simpa using h)
 have h1 : ByteArray.size (⟨#[107]⟩ : ByteArray) = 1 := rfl
 have e : keyT n = (⟨#[107]⟩ : ByteArray) ++ decF 1 n := rfl
 rw [e]
 refine evFn (l := [(5, at1 _ (_, []))]) (nv := nv0) (fz := fz0) (dr := dr36) (dd := dd36) (lam := []) (ms := ms0) ⟨at1_snd hD, trivial⟩ hJ trivial ms0_ok Tryz.func36 rfl rfl (Nat.le_of_ble_eq_true rfl) (Nat.le_of_ble_eq_true rfl) drOk36 ?_
 dsimp only [Tryz.f36, dr36, dd36, Option.getD_some]
 refine ev_start ?_
 simp (disch := omega) only [at1_eq, bin_add_str, go_sem, evP_D, evD_guard, evD_cons, evD_zero, evD_nil]
theorem moved_sound {J : World → Prop} (hJ : Stable J) (n : Nat) (at_ a : Int) (to from_ : ByteArray) (h : n < 100) (h0 : -1000000000000 ≤ a) (h1 : a ≤ 1000000000000) :
  SoundAt Tryz.prog J 15 [.int .i64 n, .int .i64 at_, .int .i64 a, .str to, .str from_] (enW (mvX n at_ a to from_)) [] := by
 have hK := tkey_sound hJ n h
 have e : enW (mvX n at_ a to from_) = .agg [.str (keyT n), .int .i64 at_, .row 2 [.agg [.str to, .int .i64 a], .agg [.str from_, .int .i64 (-a)]]] := rfl
 rw [e]
 refine evFn (l := [(36, at1 _ (_, []))]) (nv := nv0) (fz := fzL [(22, [168])]) (dr := dr15) (dd := dd15) (lam := []) (ms := ms0) ⟨at1_snd hK, trivial⟩ hJ trivial ms0_ok Tryz.func15 rfl rfl (Nat.le_of_ble_eq_true rfl) (Nat.le_of_ble_eq_true rfl) drOk15 ?_
 dsimp only [Tryz.f15, dr15, dd15, Option.getD_some]
 refine ev_start ?_
 simp (disch := omega) only [at1_eq, Int.zero_sub, freezeL, St.freeze, List.filter_cons, List.filter_nil, bne, go_sem, evP_D, evD_guard, evD_cons, evD_zero, evD_nil]
theorem tplain_sound {J : World → Prop} (hJ : Stable J) : SoundAt Tryz.prog J 14 [] (bkV plA [] (-1)) [] := by
 refine sound_res (r := .agg [.row 2 (plA.map acV), .zero, .int .i64 (-1)]) ?_ rfl fun w ok val hv => ?_
 ·have e : plA.map acV = [.agg [.str c10, .int .i64 0], .agg [.str c15, .int .i64 0], .agg [.str c20, .int .i64 1], .agg [.str c30, .int .i64 2], .agg [.str c40, .int .i64 3], .agg [.str c50, .int .i64 4]] := rfl
  rw [e]
  unfold c10 c15 c20 c30 c40 c50
  refine evFn (l := []) (nv := nv0) (fz := fzL [(8, [56])]) (dr := dr14) (dd := dd14) (lam := []) (ms := ms0) trivial hJ trivial ms0_ok Tryz.func14 rfl rfl (Nat.le_of_ble_eq_true rfl) (Nat.le_of_ble_eq_true rfl) drOk14 ?_
  dsimp only [Tryz.f14, dr14, dd14, Option.getD_some]
  refine ev_start ?_
  simp (disch := omega) only [freezeL, St.freeze, List.filter_cons, List.filter_nil, bne, go_sem, evP_D, evD_guard, evD_cons, evD_zero, evD_nil]
 ·cases hv with
  | agg cs vs hlen h1 hh =>
   refine .agg _ vs (by simpa using hlen) h1 fun j c v hc hv => ?_
   match j with
   | 0 => exact hh 0 c v hc hv
   | 1 => simp at hc; subst hc; exact zero_row 3 _ _ _ (hh 1 .zero v rfl hv)
   | 2 => exact hh 2 c v hc hv
   | j + 3 => simp at hc
theorem begun_law : postE plA [] (-1) (mvX 1 5 7 c10 c40) = 0 ∧ bkChk plA (postB [] (mvX 1 5 7 c10 c40)) (-1) = 0 ∧ ofB c10 0 5 (postB [] (mvX 1 5 7 c10 c40)) = 7 := by
 have hne : c10 ≠ c40 := by decide +kernel
 have hx := enX_mv (n := 1) (at_ := 5) (a := 7) (by omega) (by omega) (by omega) (by omega) (by omega) (by omega) codes_ok.1 codes_ok.2.2.2.2.1 hne
 obtain ⟨e1, e2⟩ := post_mv plain_ok hx (by simp) plA_has.1 plA_has.2.2.2.2.1 (by omega) (by simp)
 refine ⟨e1, (postE_ok e1).2.2, ?_⟩
 rw [e2, ofB_ins]
 have hc := eq_true (show (0 : Int) ≤ 5 ∧ (5 : Int) ≤ 5 by omega)
 simp only [ofX_mv, hc, if_true, Ne.symm hne, if_false]
 rfl
theorem begun_sound {J : World → Prop} (hJ : Stable J) : SoundAt Tryz.prog J 7 [] (.bool true) [] := by
 obtain ⟨e1, e2, e3⟩ := begun_law
 have hl := (bkChk_iff.1 e2).2.2.1
 have hP := tplain_sound hJ
 have hM := moved_sound hJ 1 5 7 c10 c40 (by omega) (by omega) (by omega)
 have hPo := post_sound hJ plA [] (-1) (mvX 1 5 7 c10 c40) (by simp)
 have hB := balance_sound hJ plA (postB [] (mvX 1 5 7 c10 c40)) (-1) c10 5 (by unfold maxLen; omega)
 have eR : posR plA [] (-1) (mvX 1 5 7 c10 c40) = .tup [bkV plA (postB [] (mvX 1 5 7 c10 c40)) (-1), .int .i64 0] := by unfold posR; rw [e1, if_pos rfl]
 have b1 : balE plA (postB [] (mvX 1 5 7 c10 c40)) (-1) c10 5 = 0 := by unfold balE; rw [if_neg (fun h => h e2), if_neg (by rw [plA_has.1]; simp), if_neg (fun h => h (by omega))]
 have b2 : balN plA (postB [] (mvX 1 5 7 c10 c40)) (-1) c10 5 = 7 := by unfold balN; rw [if_pos b1, e3]
 rw [eR] at hPo
 rw [b1, b2] at hB
 generalize postB [] (mvX 1 5 7 c10 c40) = E at *
 unfold bkV at hP hPo hB
 generalize mvX 1 5 7 c10 c40 = X at *
 obtain ⟨k, d, l⟩ := X
 rw [enW_mk] at hM hPo
 unfold c10 c40 at hM
 unfold c10 at hB
 refine evFn (l := [(14, at1 _ (_, [])), (15, at1 _ (_, [])), (13, at1 _ (_, [])), (16, at1 _ (_, []))]) (nv := nv0) (fz := fz0) (dr := dr7) (dd := dd7) (lam := []) (ms := ms0) ⟨at1_snd hP, at1_snd hM, at1_snd hPo, at1_snd hB, trivial⟩ hJ trivial ms0_ok Tryz.func7 rfl rfl (Nat.le_of_ble_eq_true rfl) (Nat.le_of_ble_eq_true rfl) drOk7 ?_
 dsimp only [Tryz.f7, dr7, dd7, Option.getD_some]
 refine ev_start ?_
 simp (disch := omega) only [at1_eq, go_sem, evP_D, evD_guard, evD_cons, evD_zero, evD_nil]
end Go.Proofs.YtcmpjagpggjfiaaGreatDoor
end
section
namespace Go.Proofs.YtcmpjagpggjfiaaGreatDoor
open Go Go.Ev Go.RowKit Go.Acc
theorem within_ex {J : World → Prop} (hJ : Stable J) : ∃ F : List V → Option (V × List Ev.Blk), (∀ (k n : Int), 0 < n → n ≤ 9223372036854775807 → F [.int .i64 k, .int .i64 n] = some (.int .i64 (wthn k n), [])) ∧ Snd Tryz.prog J 4 F := by
 obtain ⟨F, h1, h2⟩ := fam_ex (P := Tryz.prog) (J := J) (f := 4) (fun x : { x : Int × Int // 0 < x.2 ∧ x.2 ≤ 9223372036854775807 } => [.int .i64 x.1.1, .int .i64 x.1.2]) (fun x => (.int .i64 (wthn x.1.1 x.1.2), [])) (fun i j h => by
  simp only [List.cons.injEq, V.int.injEq, true_and, and_true] at h
  rw [h.1, h.2]) fun x => within_sound hJ x.1.1 x.1.2 x.2.1 x.2.2
 exact ⟨F, fun k n h0 hn => h1 ⟨(k, n), h0, hn⟩, h2⟩
theorem enW_inj {E E' : List En} (h : E.map enW = E'.map enW) : E = E' := by
 have := congrArg unEn h
 rw [unEn_map, unEn_map] at this
 exact Option.some.inj this
theorem enW_inj1 {x x' : En} (h : enW x = enW x') : x = x' := by
 have := enW_inj (E := [x]) (E' := [x']) (by simp [h])
 simpa using this
theorem post_ex {J : World → Prop} (hJ : Stable J) (A : List (ByteArray × Int)) (s : Int) : ∃ F : List V → Option (V × List Ev.Blk), (∀ (E : List En) (x : En), E.length ≤ maxLen → F [.agg [.row 2 (A.map acV), .row 3 (E.map enW), .int .i64 s], enW x] = some (posR A E s x, [])) ∧ Snd Tryz.prog J 13 F := by
 obtain ⟨F, h1, h2⟩ := fam_ex (P := Tryz.prog) (J := J) (f := 13) (fun x : { x : List En × En // x.1.length ≤ maxLen } => [bkV A x.1.1 s, enW x.1.2]) (fun x => (posR A x.1.1 s x.1.2, [])) (fun i j h => by
  simp only [List.cons.injEq, bkV, V.agg.injEq, V.row.injEq, true_and, and_true] at h
  rw [enW_inj h.1, enW_inj1 h.2]) fun x => post_sound hJ A x.1.1 s x.1.2 x.2
 exact ⟨F, fun E x hE => h1 ⟨(E, x), hE⟩, h2⟩
end Go.Proofs.YtcmpjagpggjfiaaGreatDoor
end
section
namespace Go.Acc
open Go Go.Ev
def gtE (A : List (ByteArray × Int)) (E : List En) (s : Int) (k : ByteArray) : Int := if bkChk A E s ≠ 0 then bkChk A E s else match getE k E with
 | some _ => 0
 | none => 4
def zeV : V := .agg [.str ByteArray.empty, .int .i64 0, .zero]
end Go.Acc
namespace Go.Proofs.YtcmpjagpggjfiaaGreatDoor
open Go Go.Ev Go.RowKit Go.Acc
set_option maxHeartbeats 4000000
def gtV (A : List (ByteArray × Int)) (E : List En) (s : Int) (k : ByteArray) : V := .tup [if bkChk A E s ≠ 0 then zeV else match getE k E with
 | some y => enW y
 | none => zeV, .int .i64 (gtE A E s k)]
set_option maxHeartbeats 4000000 in
theorem get_sound {J : World → Prop} (hJ : Stable J) (A : List (ByteArray × Int)) (E : List En) (s : Int) (k : ByteArray) (hE : E.length ≤ maxLen) : SoundAt Tryz.prog J 137 [bkV A E s, .str k] (gtV A E s k) [] := by
 have hB := bcheck_sound hJ A E s hE
 have hF := bfind_sound hJ A E s k
 unfold bkV at hB hF ⊢
 by_cases hz : bkChk A E s = 0
 case neg =>
  have eR : gtV A E s k = .tup [.agg [.str ByteArray.empty, .int .i64 0, .zero], .int .i64 (bkChk A E s)] := by unfold gtV gtE; rw [if_pos hz, if_pos hz]; rfl
  rw [eR]
  generalize bkChk A E s = q at *
  refine evFn (l := [(26, at1 _ (_, []))]) (nv := nv0) (fz := fz0) (dr := dr137) (dd := dd137) (lam := []) (ms := ms0) ⟨at1_snd hB, trivial⟩ hJ trivial ms0_ok Tryz.func137 rfl rfl (Nat.le_of_ble_eq_true rfl) (Nat.le_of_ble_eq_true rfl) drOk137 ?_
  dsimp only [Tryz.f137, dr137, dd137, Option.getD_some]
  refine ev_start ?_
  simp (disch := omega) only [at1_eq, hz, go_sem, evP_D, evD_guard, evD_cons, evD_zero, evD_nil]
 cases hg : getE k E with
 | none =>
  have eR : gtV A E s k = .tup [.agg [.str ByteArray.empty, .int .i64 0, .zero], .int .i64 4] := by unfold gtV gtE; rw [if_neg (fun h => h hz), if_neg (fun h => h hz), hg]; rfl
  have hfn := fiE_none hg
  rw [hfn] at hF
  rw [eR]
  refine evFn (l := [(26, at1 _ (_, [])), (28, at1 _ (_, []))]) (nv := nv0) (fz := fz0) (dr := dr137) (dd := dd137) (lam := []) (ms := ms0) ⟨at1_snd hB, at1_snd hF, trivial⟩ hJ trivial ms0_ok Tryz.func137 rfl rfl (Nat.le_of_ble_eq_true rfl) (Nat.le_of_ble_eq_true rfl) drOk137 ?_
  dsimp only [Tryz.f137, dr137, dd137, Option.getD_some]
  refine ev_start ?_
  simp (disch := omega) only [at1_eq, hz, go_sem, evP_D, evD_guard, evD_cons, evD_zero, evD_nil]
 | some y =>
  obtain ⟨i, hi, hyi⟩ := fiE_some hg
  have hlt : i < E.length := (List.getElem?_eq_some_iff.1 hyi).1
  have hfi : ¬ ((i : Int) < 0) := by omega
  have hk := bkChk_ok hz
  have h12 := (enX_ok (hk.2.2.2 y (List.mem_of_getElem? hyi)).1).2.1
  obtain ⟨k', d', l'⟩ := y
  have eR : gtV A E s k = .tup [.agg [.str k', .int .i64 d', .row 2 (l'.map acV)], .int .i64 0] := by unfold gtV gtE; rw [if_neg (fun h => h hz), if_neg (fun h => h hz), hg]; rfl
  have hcl := cloneF_eq l' (by simp only at h12; omega)
  have hyg := enW_get hyi
  rw [hi] at hF
  rw [eR]
  refine evFn (l := [(26, at1 _ (_, [])), (28, at1 _ (_, [])), (32, cloneF)]) (nv := nv0) (fz := fz0) (dr := dr137) (dd := dd137) (lam := []) (ms := ms0) ⟨at1_snd hB, at1_snd hF, cloneL_snd hJ, trivial⟩ hJ trivial ms0_ok Tryz.func137 rfl rfl (Nat.le_of_ble_eq_true rfl) (Nat.le_of_ble_eq_true rfl) drOk137 ?_
  dsimp only [Tryz.f137, dr137, dd137, Option.getD_some]
  refine ev_start ?_
  simp (disch := (first | omega | assumption)) only [at1_eq, hz, hfi, idx_nat, List.length_map, hyg, hcl, go_sem, evP_D, evD_guard, evD_cons, evD_zero, evD_nil]
end Go.Proofs.YtcmpjagpggjfiaaGreatDoor
end
section
namespace Go.Proofs.YtcmpjagpggjfiaaGreatDoor
open Go Go.Ev Go.RowKit Go.Acc
set_option maxHeartbeats 4000000
def udR (A : List (ByteArray × Int)) (E : List En) (s : Int) (key b2 : ByteArray) (day : Int) : V := match getE key E with
 | none => .tup [.agg [.zero, .zero, .int .i64 0], .int .i64 4]
 | some y => if keyOk' b2 = false then .tup [.agg [.zero, .zero, .int .i64 0], .int .i64 3] else if ¬ (0 ≤ day ∧ day ≤ 292193) then .tup [.agg [.zero, .zero, .int .i64 0], .int .i64 1] else posR A E s (b2, day, turnL y.2.2)
set_option maxRecDepth 20000 in
set_option maxHeartbeats 8000000 in
theorem undo_sound {J : World → Prop} (hJ : Stable J) (A : List (ByteArray × Int)) (E : List En) (s : Int) (key b2 : ByteArray) (day : Int) (hE : E.length ≤ maxLen) (hz : bkChk A E s = 0) :
  SoundAt Tryz.prog J 87 [bkV A E s, .str key, .str b2, .int .i64 day] (udR A E s key b2 day) [] := by
 have hG := get_sound hJ A E s key hE
 unfold gtV gtE at hG
 rw [if_neg (fun h => h hz), if_neg (fun h => h hz)] at hG
 unfold udR
 cases hg : getE key E with
 | none =>
  rw [hg] at hG
  simp only [zeV] at hG ⊢
  unfold bkV at hG ⊢
  refine evFn (l := [(137, at1 _ (_, []))]) (nv := nv0) (fz := fz0) (dr := dr87) (dd := dd87) (lam := []) (ms := ms0) ⟨at1_snd hG, trivial⟩ hJ trivial ms0_ok Tryz.func87 rfl rfl (Nat.le_of_ble_eq_true rfl) (Nat.le_of_ble_eq_true rfl) drOk87 ?_
  dsimp only [Tryz.f87, dr87, dd87, Option.getD_some]
  refine ev_start ?_
  simp (disch := omega) only [at1_eq, go_sem, evP_D, evD_guard, evD_cons, evD_zero, evD_nil]
 | some y =>
  rw [hg] at hG
  have hy := ((bkChk_ok hz).2.2.2 y (getE_some hg).1).1
  obtain ⟨yk, yd, yl⟩ := y
  simp only [enW_mk] at hG ⊢
  have hye : enE yk yd yl = 0 := hy
  have bad : ∀ e, (if enE yk yd yl = 0 then (if keyOk' b2 = false then 3 else if ¬ (0 ≤ day ∧ day ≤ 292193) then 1 else 0) else enE yk yd yl) = e → e ≠ 0 →
    SoundAt Tryz.prog J 87 [bkV A E s, .str key, .str b2, .int .i64 day] (.tup [.agg [.zero, .zero, .int .i64 0], .int .i64 e]) [] := fun e he h0 => by
   have hT := turned_bad hJ yk yd yl b2 day e he h0
   unfold enV ozV at hT
   unfold bkV at hG ⊢
   refine evFn (l := [(137, at1 _ (_, [])), (138, at1 _ (_, []))]) (nv := nv0) (fz := fz0) (dr := dr87) (dd := dd87) (lam := []) (ms := ms0) ⟨at1_snd hG, at1_snd hT, trivial⟩ hJ trivial ms0_ok Tryz.func87 rfl rfl (Nat.le_of_ble_eq_true rfl) (Nat.le_of_ble_eq_true rfl) drOk87 ?_
   dsimp only [Tryz.f87, dr87, dd87, Option.getD_some]
   refine ev_start ?_
   simp (disch := omega) only [at1_eq, h0, go_sem, evP_D, evD_guard, evD_cons, evD_zero, evD_nil]
  cases hk : keyOk' b2 with
  | false => rw [if_pos rfl]; exact bad 3 (by rw [if_pos hye, if_pos hk]) (by omega)
  | true =>
   rw [if_neg (by simp)]
   by_cases hd : 0 ≤ day ∧ day ≤ 292193
   case neg => rw [if_pos hd]; exact bad 1 (by rw [if_pos hye, if_neg (by rw [hk]; simp), if_pos hd]) (by omega)
   rw [if_neg (fun h => h hd)]
   have hT := turned_sound hJ yk yd yl b2 day hye hk hd
   have hP := post_sound hJ A E s (b2, day, turnL yl) hE
   rw [enW_mk] at hP
   unfold posR at hP ⊢
   unfold enV at hT
   generalize (turnL yl).map acV = L at *
   by_cases hp : postE A E s (b2, day, turnL yl) = 0
   ·rw [if_pos hp, hp] at hP ⊢
    generalize postB E (b2, day, turnL yl) = E' at *
    unfold bkV at hG hP ⊢
    refine evFn (l := [(137, at1 _ (_, [])), (138, at1 _ (_, _)), (13, at1 _ (_, []))]) (nv := nv0) (fz := fzL [(36, [216])]) (dr := dr87) (dd := dd87) (lam := []) (ms := ms0) ⟨at1_snd hG, at1_snd hT, at1_snd hP, trivial⟩ hJ trivial ms0_ok Tryz.func87 rfl rfl (Nat.le_of_ble_eq_true rfl) (Nat.le_of_ble_eq_true rfl) drOk87 ?_
    dsimp only [Tryz.f87, dr87, dd87, Option.getD_some]
    refine ev_start ?_
    simp (disch := omega) only [at1_eq, freezeL, St.freeze, List.filter_cons, List.filter_nil, bne, go_sem, evP_D, evD_guard, evD_cons, evD_zero, evD_nil]
   ·rw [if_neg hp] at hP ⊢
    unfold zbV at hP ⊢
    generalize postE A E s (b2, day, turnL yl) = q at *
    unfold bkV at hG hP ⊢
    refine evFn (l := [(137, at1 _ (_, [])), (138, at1 _ (_, _)), (13, at1 _ (_, []))]) (nv := nv0) (fz := fzL [(36, [216])]) (dr := dr87) (dd := dd87) (lam := []) (ms := ms0) ⟨at1_snd hG, at1_snd hT, at1_snd hP, trivial⟩ hJ trivial ms0_ok Tryz.func87 rfl rfl (Nat.le_of_ble_eq_true rfl) (Nat.le_of_ble_eq_true rfl) drOk87 ?_
    dsimp only [Tryz.f87, dr87, dd87, Option.getD_some]
    refine ev_start ?_
    simp (disch := omega) only [at1_eq, freezeL, St.freeze, List.filter_cons, List.filter_nil, bne, go_sem, evP_D, evD_guard, evD_cons, evD_zero, evD_nil]
end Go.Proofs.YtcmpjagpggjfiaaGreatDoor
end
