/-
  Steps of the proof of BookSays, joined: PoG PoH GetE RpE SoM.
-/
import Derived.Test.YtdmkmbaaemhhhaaGreatDoorBkI
import Derived.Test.YtdmkmbaaemhhhaaGreatDoorPoF
import Derived.Test.YtdmkmbaaemhhhaaGreatDoorInsE
import Derived.Test.YtdmkmbaaemhhhaaGreatDoorBkJ
import Derived.Test.YtdmkmbaaemhhhaaGreatDoorSoJ
import Derived.Test.YtdmkmbaaemhhhaaGreatDoorSoK
import Derived.Test.YtdmkmbaaemhhhaaGreatDoorSoL
namespace Go.Ev
open Go Go.RowKit
set_option linter.unusedVariables false
/-- a function that takes a row, at nil: what it gives back is a row of one's own -/
theorem take_zero {P : Program} {J : World → Prop} {f : FuncId} {T : TypeId} {sz : Nat} {as1 es' : List V} (hJJ : Stable J) (hpos : 0 < sz) (h : TakeAt P J f T sz [] as1 es') (hd : ∀ a ∈ as1, V.data a = true) : SoundAt P J f (.zero :: as1) (.vec 0) [.vec T sz es'] := by
  refine ⟨h.1, fun w ok vals hJ hok hlen hrel => ?_⟩
  match vals, hlen with
  | sv0 :: vals', hlen =>
    have h0 := hrel 0 _ sv0 rfl rfl
    cases h0
    have hI : Inv ok w.heap.size w (fun _ => none) (fun _ => none) := ⟨Nat.le_refl _, (fun b k hk => by cases hk), (fun b sv hr => by cases hr), (fun b b' sv sv' g h1 => by cases h1)⟩
    have hR := RoQ.all hI
    refine (h.2 w w.heap.size (fun g => g < w.heap.size) (okAt ok w.heap.size (fun _ => none) w) (.slice none 0 0) vals' (fun w' hb => hJJ w w' hJ hb) (Nat.le_refl _) (fun g hg => ⟨hg, by simp [own]⟩) (fun g hg => okAt_lt (Nat.le_refl _) hg) rfl hpos ⟨[], rfl, by simp, by simp, by simp, .inl ⟨none, rfl, rfl⟩⟩ (by simpa using hlen) fun j c u hc hu => ?_).mono ?_
    · have hx := hrel (j + 1) c u (by simpa using hc) (by simpa using hu)
      have hc' := hd c (List.mem_of_getElem? hc)
      refine tk_rel hI hR (v := c) (.ro (hx.mono fun g hg => ⟨.inl ⟨hok g hg, hg⟩, rfl⟩)) ?_
      cases c <;> simp_all [tk1, V.data]
    · rintro e w' ⟨sv', rfl, hb, hkeep, hsz, hown', hone, hO⟩
      have key : ∀ b sv, one 0 sv' b = some sv → b = 0 ∧ sv = sv' := by
        intro b sv hs
        unfold Ev.one at hs
        split at hs
        · rename_i e; simp at hs; exact ⟨e, hs.symm⟩
        · cases hs
      refine ⟨sv', one 0 sv', rfl, hb, ⟨hb.size, ?_, ?_, ?_⟩, .vec 0 sv' (by simp [one]) hone⟩
      · intro b k hk
        match b with
        | 0 =>
          simp at hk
          subst hk
          refine ⟨sv', by simp [one], hpos, hO.mono (fun g hg => ⟨?_, rfl⟩) fun _ _ => rfl⟩
          rcases hg with h | ⟨h1, h2, _⟩
          · exact .inl h
          · omega
        | b + 1 => simp at hk
      · intro b sv hs
        obtain ⟨rfl, rfl⟩ := key b sv hs
        exact ⟨_, rfl⟩
      · intro b b' sv s2 g h1 h2 _ _
        rw [(key b sv h1).1, (key b' s2 h2).1]
noncomputable def take1 (T : TypeId) (sz : Nat) (es as1 es' : List V) : TypeId → Nat → List V → List V → Option (List V) := fun T' sz' es0 as0 => open Classical in if T' = T ∧ sz' = sz ∧ es0 = es ∧ as0 = as1 then some es' else none
theorem take1_eq (T : TypeId) (sz : Nat) (es as1 es' : List V) : take1 T sz es as1 es' T sz es as1 = some es' := by unfold take1; rw [if_pos ⟨rfl, rfl, rfl, rfl⟩]
theorem take1_ok {P : Program} {J : World → Prop} {f : FuncId} {T : TypeId} {sz : Nat} {es as1 es' : List V} {l : Lam} (h : TakeAt P J f T sz es as1 es') (hl : LamOk P J l) : LamOk P J ((f, (true, take1 T sz es as1 es')) :: l) := by
  refine ⟨fun T' sz' e0 a0 e1 he => ?_, hl⟩
  unfold take1 at he
  simp only at he
  split at he
  · rename_i hc
    obtain ⟨rfl, rfl, rfl, rfl⟩ := hc
    simp only [Option.some.injEq] at he
    subst he
    exact h
  · cases he
end Go.Ev
namespace Go.Proofs.YtdmkmbaaemhhhaaGreatDoor
open Go Go.Ev Go.RowKit Go.Acc
set_option maxHeartbeats 4000000
set_option linter.unusedSimpArgs false
set_option linter.unusedVariables false

set_option maxHeartbeats 4000000 in
theorem copied_own {J : World → Prop} (hJ : Stable J) (A : List (ByteArray × Int)) (x0 : En) (r0 : List En) (s : Int) (hA : A.length ≤ 24) (hE : ∀ x ∈ x0 :: r0, x.2.2.length ≤ 12) (hl : (x0 :: r0).length ≤ 60) :
    SoundAt Tryz.prog J 32 [bkV A (x0 :: r0) s] (.agg [.row 2 (A.map acV), .vec 0, .int .i64 s]) [.vec 28 3 ((x0 :: r0).map enW)] := by
  generalize hEE : x0 :: r0 = E at *
  unfold bkV
  refine evFn (l := [(34, cloneF), (78, cloneF)]) (nv := nv0) (fz := fz0) (dr := dr32) (dd := dd32) (lam := []) (ms := ms0) ⟨cloneL_snd hJ, cloneA_snd hJ, trivial⟩ hJ trivial ms0_ok Tryz.func32 rfl rfl (Nat.le_of_ble_eq_true rfl) (Nat.le_of_ble_eq_true rfl) drOk32 ?_
  dsimp only [Tryz.f32, dr32, dd32, Option.getD_some]
  refine ev_start ?_
  have hcA := cloneF_eq A (by omega)
  simp (disch := omega) only [List.length_map, hcA, freezeL, go_sem, evP_D, evD_guard, evD_cons, evD_zero, evD_nil]
  refine evQ_loop [2, 3, 13, 14, 15] [16, 24, 216] (fun σ => ∃ (k : Nat), k ≤ E.length ∧ σ = cpS A E s k)
    (fun σ => E.length - (match Ev.look 15 σ.env with | some (.int _ n) => n.toNat | _ => 0)) ?_ ?_
  · simp only [go_sem, evP_D, evD_guard, evD_cons, evD_zero, evD_nil]
    exact ⟨0, Nat.zero_le _, rfl⟩
  · rintro σ ⟨k, hkl, rfl⟩
    by_cases hlt : k < E.length
    · have hlt' : (k : Int) < E.length := by omega
      obtain ⟨⟨c, d, l⟩, hcn⟩ : ∃ p, E[k]? = some p := ⟨_, List.getElem?_eq_getElem hlt⟩
      have hcl := cloneF_eq l (by have := hE _ (List.mem_of_getElem? hcn); simp only at this; omega)
      have hg := enW_get hcn
      have ht := take_enW hcn
      have hms : E.length - ((k : Int) + 1).toNat < E.length - (k : Int).toNat := by
        have e3 : ((k : Int) + 1).toNat = k + 1 := by omega
        rw [e3, Int.toNat_natCast]; exact Nat.sub_lt_sub_left hlt (Nat.lt_succ_self k)
      cases k with
      | zero =>
        have z0 : ((0 : Nat) : Int) = 0 := rfl
        have hi0 := idx_nat E.length 0 hlt
        rw [z0] at hlt' hi0 hms
        unfold cpS
        simp (disch := (first | omega | assumption)) only [hlt', hi0, List.length_map, hg, hcl, freezeL, go_sem, evP_D, evD_guard, evD_cons, evD_zero, evD_nil]
        exact ⟨⟨1, hlt, by simp only [cpS, ht]; rfl⟩, hms⟩
      | succ k =>
        have hlk : (E.take (k + 1)).length = k + 1 := by rw [List.length_take]; omega
        unfold cpS
        simp (disch := (first | omega | assumption)) only [hlt', idx_nat, List.length_map, hlk, List.length_append, List.length_cons, List.length_nil, hg, hcl, freezeL, go_sem, evP_D, evD_guard, evD_cons, evD_zero, evD_nil]
        exact ⟨⟨k + 2, hlt, by simp only [cpS, ht]; rfl⟩, hms⟩
    · have hk' : k = E.length := by omega
      subst hk'
      subst hEE
      have hlt'' : ¬ (((r0.length + 1 : Nat) : Int) < ((r0.length + 1 : Nat) : Int)) := by omega
      have htk : (x0 :: r0).take (r0.length + 1) = x0 :: r0 := List.take_length (l := x0 :: r0)
      simp only [List.length_cons, cpS]
      simp (disch := (first | omega | assumption)) only [hlt'', htk, freezeL, go_sem, evP_D, evD_guard, evD_cons, evD_zero, evD_nil]
end Go.Proofs.YtdmkmbaaemhhhaaGreatDoor
namespace Go.Proofs.YtdmkmbaaemhhhaaGreatDoor
open Go Go.Ev Go.RowKit Go.Acc
set_option maxHeartbeats 4000000
set_option linter.unusedSimpArgs false
set_option linter.unusedVariables false

theorem enW_mk (k : ByteArray) (d : Int) (l : List (ByteArray × Int)) : enW (k, d, l) = .agg [.str k, .int .i64 d, .row 2 (l.map acV)] := rfl
noncomputable def poPhi (A : List (ByteArray × Int)) (E : List En) (s : Int) (x : En) : Phi :=
  [(11, at1 [.agg [.row 2 (A.map acV), .row 3 (E.map enW), .int .i64 s]] (.int .i64 (bkChk A E s), [])), (29, echeckF), (30, at1 [.agg [.row 2 (A.map acV), .row 3 (E.map enW), .int .i64 s], .str x.1] (.int .i64 (fiE x.1 E), [])), (33, knownF)]
theorem poPhi_ok {J : World → Prop} (hJ : Stable J) (A : List (ByteArray × Int)) (E : List En) (s : Int) (x : En) (hE : E.length ≤ maxLen) : PhiOk Tryz.prog J (poPhi A E s x) :=
  ⟨at1_snd (bcheck_sound hJ A E s hE), echeck_snd hJ, at1_snd (bfind_sound hJ A E s x.1), known_snd hJ, trivial⟩
def posR (A : List (ByteArray × Int)) (E : List En) (s : Int) (x : En) : V := .tup [if postE A E s x = 0 then bkV A (postB E x) s else zbV, .int .i64 (postE A E s x)]
theorem bse_snd {J : World → Prop} (hJ : Stable J) {A : List (ByteArray × Int)} {E : List En} {s : Int} {x : En} (hz : bkChk A E s = 0) (hx : enX x = 0) :
    SoundAt Tryz.prog J 35 [.row 3 (E.map enW), enW x, .fn 36 []] (.tup [.int .i64 (posE x E), .bool (bsB x E)]) [] := by
  obtain ⟨_, _, h3, h4, _, h6⟩ := bkChk_iff.1 hz
  exact bse_sound hJ E x h6 (fun y hy => (enX_ok (h4 y hy).1).1) (enX_ok hx).1 h3
theorem insE_rows (x : En) (E : List En) : (E.map enW).take (posE x E) ++ [enW x] ++ (E.map enW).drop (posE x E) = (insE x E).map enW := by
  unfold insE
  rw [List.map_append, List.map_cons, List.map_take, List.map_drop, List.append_assoc]
  rfl
set_option maxRecDepth 20000 in
set_option maxHeartbeats 8000000 in
theorem post_sound {J : World → Prop} (hJ : Stable J) (A : List (ByteArray × Int)) (E : List En) (s : Int) (x : En) (hE : E.length ≤ maxLen) : SoundAt Tryz.prog J 8 [bkV A E s, enW x] (posR A E s x) [] := by
  have hP := poPhi_ok hJ A E s x hE
  obtain ⟨k, d, l⟩ := x
  unfold bkV
  rw [enW_mk]
  by_cases hz : bkChk A E s = 0
  case neg =>
    have e1 : postE A E s (k, d, l) = bkChk A E s := if_pos hz
    have eR : posR A E s (k, d, l) = .tup [.agg [.zero, .zero, .int .i64 0], .int .i64 (bkChk A E s)] := by unfold posR; rw [e1, if_neg hz]; rfl
    rw [eR]
    refine evFn (l := poPhi A E s (k, d, l)) (nv := nv0) (fz := fz0) (dr := dr8) (dd := dd8) (lam := []) (ms := ms0) hP hJ trivial ms0_ok Tryz.func8 rfl rfl (Nat.le_of_ble_eq_true rfl) (Nat.le_of_ble_eq_true rfl) drOk8 ?_
    dsimp only [Tryz.f8, dr8, dd8, Option.getD_some]
    refine ev_start ?_
    simp (disch := omega) only [poPhi, at1_eq, hz, go_sem, evP_D, evD_guard, evD_cons, evD_zero, evD_nil]
  by_cases hx : enX (k, d, l) = 0
  case neg =>
    have e1 : postE A E s (k, d, l) = enX (k, d, l) := by unfold postE; rw [if_neg (fun h => h hz), if_pos hx]
    have eR : posR A E s (k, d, l) = .tup [.agg [.zero, .zero, .int .i64 0], .int .i64 (enE k d l)] := by unfold posR; rw [e1, if_neg hx]; rfl
    have hx' : ¬ enE k d l = 0 := hx
    rw [eR]
    refine evFn (l := poPhi A E s (k, d, l)) (nv := nv0) (fz := fz0) (dr := dr8) (dd := dd8) (lam := []) (ms := ms0) hP hJ trivial ms0_ok Tryz.func8 rfl rfl (Nat.le_of_ble_eq_true rfl) (Nat.le_of_ble_eq_true rfl) drOk8 ?_
    dsimp only [Tryz.f8, dr8, dd8, Option.getD_some]
    refine ev_start ?_
    simp (disch := omega) only [poPhi, at1_eq, echeckF_eq, hz, hx', go_sem, evP_D, evD_guard, evD_cons, evD_zero, evD_nil]
  have hx' : enE k d l = 0 := hx
  have hk := bkChk_ok hz
  have hA24 := acChk_len hk.1
  have hE12 : ∀ y ∈ E, y.2.2.length ≤ 12 := fun y hy => (enX_ok (hk.2.2.2 y hy).1).2.1
  cases hg : getE k E with
  | some y =>
    obtain ⟨i, hi, hyi⟩ := fiE_some hg
    have hlt : i < E.length := (List.getElem?_eq_some_iff.1 hyi).1
    have hfi : (0 : Int) ≤ i := by omega
    have e1 : postE A E s (k, d, l) = if y = (k, d, l) then 0 else 5 := by unfold postE; rw [if_neg (fun h => h hz), if_neg (fun h => h hx)]; simp only [hg]
    have e2 : postB E (k, d, l) = E := by unfold postB; simp only [hg]
    have hS := esame_sound hJ y (k, d, l)
    obtain ⟨k', d', l'⟩ := y
    have hyg := enW_get hyi
    simp only [enW_mk] at hS
    have hP' : PhiOk Tryz.prog J ((31, at1 _ (.bool (decide ((k', d', l') = (k, d, l))), [])) :: poPhi A E s (k, d, l)) := ⟨at1_snd hS, hP⟩
    by_cases hy : (k', d', l') = (k, d, l)
    · rw [if_pos hy] at e1
      have eR : posR A E s (k, d, l) = .tup [.agg [.row 2 (A.map acV), .row 3 (E.map enW), .int .i64 s], .int .i64 0] := by unfold posR; rw [e1, if_pos rfl, e2]; rfl
      have hC := copied_sound hJ A E s hA24 hE12 hk.2.2.1
      unfold bkV at hC
      rw [eR]
      refine evFn (l := (32, at1 _ (_, [])) :: (31, at1 _ (_, [])) :: poPhi A E s (k, d, l)) (nv := nv0) (fz := fz0) (dr := dr8) (dd := dd8) (lam := []) (ms := ms0) ⟨at1_snd hC, hP'⟩ hJ trivial ms0_ok Tryz.func8 rfl rfl (Nat.le_of_ble_eq_true rfl) (Nat.le_of_ble_eq_true rfl) drOk8 ?_
      dsimp only [Tryz.f8, dr8, dd8, Option.getD_some]
      refine ev_start ?_
      simp (disch := (first | omega | assumption)) only [poPhi, at1_eq, echeckF_eq, hz, hx', hi, hfi, idx_nat, List.length_map, hyg, decide_eq_true hy, go_sem, evP_D, evD_guard, evD_cons, evD_zero, evD_nil]
    · rw [if_neg hy] at e1
      have eR : posR A E s (k, d, l) = .tup [.agg [.zero, .zero, .int .i64 0], .int .i64 5] := by unfold posR; rw [e1, if_neg (by decide)]; rfl
      rw [eR]
      refine evFn (l := (31, at1 _ (_, [])) :: poPhi A E s (k, d, l)) (nv := nv0) (fz := fz0) (dr := dr8) (dd := dd8) (lam := []) (ms := ms0) hP' hJ trivial ms0_ok Tryz.func8 rfl rfl (Nat.le_of_ble_eq_true rfl) (Nat.le_of_ble_eq_true rfl) drOk8 ?_
      dsimp only [Tryz.f8, dr8, dd8, Option.getD_some]
      refine ev_start ?_
      simp (disch := (first | omega | assumption)) only [poPhi, at1_eq, echeckF_eq, hz, hx', hi, hfi, idx_nat, List.length_map, hyg, decide_eq_false hy, go_sem, evP_D, evD_guard, evD_cons, evD_zero, evD_nil]
  | none =>
    have hfn := fiE_none hg
    have e0 : postE A E s (k, d, l) = if knownB A (k, d, l) = false then 4 else if d ≤ s then 9 else if E.length = 60 then 2 else 0 := by unfold postE; rw [if_neg (fun h => h hz), if_neg (fun h => h hx)]; simp only [hg]
    cases hkn : knownB A (k, d, l) with
    | false =>
      have e1 : postE A E s (k, d, l) = 4 := by rw [e0, if_pos hkn]
      have eR : posR A E s (k, d, l) = .tup [.agg [.zero, .zero, .int .i64 0], .int .i64 4] := by unfold posR; rw [e1, if_neg (by decide)]; rfl
      rw [eR]
      refine evFn (l := poPhi A E s (k, d, l)) (nv := nv0) (fz := fz0) (dr := dr8) (dd := dd8) (lam := []) (ms := ms0) hP hJ trivial ms0_ok Tryz.func8 rfl rfl (Nat.le_of_ble_eq_true rfl) (Nat.le_of_ble_eq_true rfl) drOk8 ?_
      dsimp only [Tryz.f8, dr8, dd8, Option.getD_some]
      refine ev_start ?_
      simp (disch := omega) only [poPhi, at1_eq, echeckF_eq, knownF_eq, hkn, hz, hx', hfn, go_sem, evP_D, evD_guard, evD_cons, evD_zero, evD_nil]
    | true =>
      by_cases hds : d ≤ s
      · have e1 : postE A E s (k, d, l) = 9 := by rw [e0, if_neg (by rw [hkn]; simp), if_pos hds]
        have eR : posR A E s (k, d, l) = .tup [.agg [.zero, .zero, .int .i64 0], .int .i64 9] := by unfold posR; rw [e1, if_neg (by decide)]; rfl
        rw [eR]
        refine evFn (l := poPhi A E s (k, d, l)) (nv := nv0) (fz := fz0) (dr := dr8) (dd := dd8) (lam := []) (ms := ms0) hP hJ trivial ms0_ok Tryz.func8 rfl rfl (Nat.le_of_ble_eq_true rfl) (Nat.le_of_ble_eq_true rfl) drOk8 ?_
        dsimp only [Tryz.f8, dr8, dd8, Option.getD_some]
        refine ev_start ?_
        simp (disch := omega) only [poPhi, at1_eq, echeckF_eq, knownF_eq, hkn, hz, hx', hfn, hds, go_sem, evP_D, evD_guard, evD_cons, evD_zero, evD_nil]
      by_cases h60 : E.length = 60
      · have e1 : postE A E s (k, d, l) = 2 := by rw [e0, if_neg (by rw [hkn]; simp), if_neg hds, if_pos h60]
        have eR : posR A E s (k, d, l) = .tup [.agg [.zero, .zero, .int .i64 0], .int .i64 2] := by unfold posR; rw [e1, if_neg (by decide)]; rfl
        have h60' : ((E.length : Nat) : Int) = 60 := by omega
        rw [eR]
        refine evFn (l := poPhi A E s (k, d, l)) (nv := nv0) (fz := fz0) (dr := dr8) (dd := dd8) (lam := []) (ms := ms0) hP hJ trivial ms0_ok Tryz.func8 rfl rfl (Nat.le_of_ble_eq_true rfl) (Nat.le_of_ble_eq_true rfl) drOk8 ?_
        dsimp only [Tryz.f8, dr8, dd8, Option.getD_some]
        refine ev_start ?_
        simp (disch := omega) only [poPhi, at1_eq, echeckF_eq, knownF_eq, hkn, hz, hx', hfn, hds, List.length_map, h60', go_sem, evP_D, evD_guard, evD_cons, evD_zero, evD_nil]
      have h60' : ¬ ((E.length : Nat) : Int) = 60 := by omega
      have e1 : postE A E s (k, d, l) = 0 := by rw [e0, if_neg (by rw [hkn]; simp), if_neg hds, if_neg h60]
      have e2 : postB E (k, d, l) = insE (k, d, l) E := by unfold postB; simp only [hg]
      have eR : posR A E s (k, d, l) = .tup [.agg [.row 2 (A.map acV), .row 3 ((insE (k, d, l) E).map enW), .int .i64 s], .int .i64 0] := by unfold posR; rw [e1, if_pos rfl, e2]; rfl
      have hll : l.length ≤ 12 := (enX_ok hx).2.1
      have hcl := cloneF_eq l (by omega)
      have hbs := bse_snd hJ hz hx
      have hT := insE_take (J := J) (posE (k, d, l) E) (E.map enW) [enW (k, d, l)] (by rw [List.length_map]; exact posE_le _ _) (by simp) (by rw [List.length_map]; simp; have := hk.2.2.1; omega)
      rw [insE_rows] at hT
      rw [eR]
      rw [enW_mk] at hbs hT
      cases E with
      | nil =>
        have hC := copied_raw hJ A [] s hA24 hE12 hk.2.2.1
        rw [if_pos rfl] at hC
        unfold bkV at hC
        have hI := take_zero hJ (by decide) hT (fun a ha => by
          simp only [List.mem_cons, List.not_mem_nil, or_false] at ha
          rcases ha with rfl | rfl <;> rfl)
        have hb0 : SoundAt Tryz.prog J 35 [.zero, .agg [.str k, .int .i64 d, .row 2 (l.map acV)], .fn 36 []] (.tup [.int .i64 (posE (k, d, l) []), .bool (bsB (k, d, l) [])]) [] :=
          sound_by hbs rfl fun w ok j c v hc hv => by
            match j with
            | 0 => simp at hc; subst hc; exact ⟨_, rfl, zero_row 3 _ _ _ hv⟩
            | 1 => simp at hc; subst hc; exact ⟨_, rfl, hv⟩
            | 2 => simp at hc; subst hc; exact ⟨_, rfl, hv⟩
            | j + 3 => simp at hc
        refine evFn (l := (32, at1 _ (_, [])) :: (34, cloneF) :: (35, at1 _ (_, [])) :: (37, at1 _ (_, _)) :: poPhi A [] s (k, d, l)) (nv := nv0) (fz := fzL [(77, [608]), (79, [616])]) (dr := dr8) (dd := dd8) (lam := []) (ms := ms0) ⟨at1_snd hC, cloneL_snd hJ, at1_snd hb0, at1_snd hI, hP⟩ hJ trivial ms0_ok Tryz.func8 rfl rfl (Nat.le_of_ble_eq_true rfl) (Nat.le_of_ble_eq_true rfl) drOk8 ?_
        dsimp only [Tryz.f8, dr8, dd8, Option.getD_some]
        refine ev_start ?_
        simp (disch := (first | omega | assumption)) only [poPhi, at1_eq, echeckF_eq, knownF_eq, hkn, hz, hx', hfn, hds, List.length_map, h60', hcl, freezeL, St.freeze, List.filter_cons, List.filter_nil, bne, go_sem, evP_D, evD_guard, evD_cons, evD_zero, evD_nil]
      | cons x0 r0 =>
        have hC := copied_own hJ A x0 r0 s hA24 hE12 hk.2.2.1
        unfold bkV at hC
        refine evFn (l := (32, at1 _ (_, _)) :: (34, cloneF) :: (35, at1 _ (_, [])) :: poPhi A (x0 :: r0) s (k, d, l)) (nv := nv0) (fz := fzL [(79, [480])]) (dr := dr8) (dd := dd8) (lam := [(37, (true, take1 28 3 ((x0 :: r0).map enW) [.int .i64 (posE (k, d, l) (x0 :: r0)), .row 3 [.agg [.str k, .int .i64 d, .row 2 (l.map acV)]]] ((insE (k, d, l) (x0 :: r0)).map enW)))]) (ms := ms0) ⟨at1_snd hC, cloneL_snd hJ, at1_snd hbs, hP⟩ hJ (take1_ok hT trivial) ms0_ok Tryz.func8 rfl rfl (Nat.le_of_ble_eq_true rfl) (Nat.le_of_ble_eq_true rfl) drOk8 ?_
        dsimp only [Tryz.f8, dr8, dd8, Option.getD_some]
        refine ev_start ?_
        generalize hEE : x0 :: r0 = E at *
        simp (disch := (first | omega | assumption)) only [poPhi, at1_eq, take1_eq, echeckF_eq, knownF_eq, hkn, hz, hx', hfn, hds, List.length_map, h60', hcl, List.mapM_cons, List.mapM_nil, Option.bind_eq_bind, Option.pure_def, freezeL, St.freeze, List.filter_cons, List.filter_nil, bne, go_sem, evP_D, evD_guard, evD_cons, evD_zero, evD_nil]
end Go.Proofs.YtdmkmbaaemhhhaaGreatDoor
namespace Go.Acc
open Go Go.Ev
def gtE (A : List (ByteArray × Int)) (E : List En) (s : Int) (k : ByteArray) : Int := if bkChk A E s ≠ 0 then bkChk A E s else match getE k E with
  | some _ => 0
  | none => 4
def zeV : V := .agg [.str ByteArray.empty, .int .i64 0, .zero]
end Go.Acc
namespace Go.Proofs.YtdmkmbaaemhhhaaGreatDoor
open Go Go.Ev Go.RowKit Go.Acc
set_option maxHeartbeats 4000000
set_option linter.unusedSimpArgs false
set_option linter.unusedVariables false

def gtV (A : List (ByteArray × Int)) (E : List En) (s : Int) (k : ByteArray) : V := .tup [if bkChk A E s ≠ 0 then zeV else match getE k E with
  | some y => enW y
  | none => zeV, .int .i64 (gtE A E s k)]
set_option maxHeartbeats 4000000 in
theorem get_sound {J : World → Prop} (hJ : Stable J) (A : List (ByteArray × Int)) (E : List En) (s : Int) (k : ByteArray) (hE : E.length ≤ maxLen) : SoundAt Tryz.prog J 9 [bkV A E s, .str k] (gtV A E s k) [] := by
  have hB := bcheck_sound hJ A E s hE
  have hF := bfind_sound hJ A E s k
  unfold bkV at hB hF ⊢
  by_cases hz : bkChk A E s = 0
  case neg =>
    have eR : gtV A E s k = .tup [.agg [.str ByteArray.empty, .int .i64 0, .zero], .int .i64 (bkChk A E s)] := by unfold gtV gtE; rw [if_pos hz, if_pos hz]; rfl
    rw [eR]
    generalize bkChk A E s = q at *
    refine evFn (l := [(11, at1 _ (_, []))]) (nv := nv0) (fz := fz0) (dr := dr9) (dd := dd9) (lam := []) (ms := ms0) ⟨at1_snd hB, trivial⟩ hJ trivial ms0_ok Tryz.func9 rfl rfl (Nat.le_of_ble_eq_true rfl) (Nat.le_of_ble_eq_true rfl) drOk9 ?_
    dsimp only [Tryz.f9, dr9, dd9, Option.getD_some]
    refine ev_start ?_
    simp (disch := omega) only [at1_eq, hz, go_sem, evP_D, evD_guard, evD_cons, evD_zero, evD_nil]
  cases hg : getE k E with
  | none =>
    have eR : gtV A E s k = .tup [.agg [.str ByteArray.empty, .int .i64 0, .zero], .int .i64 4] := by unfold gtV gtE; rw [if_neg (fun h => h hz), if_neg (fun h => h hz), hg]; rfl
    have hfn := fiE_none hg
    rw [hfn] at hF
    rw [eR]
    refine evFn (l := [(11, at1 _ (_, [])), (30, at1 _ (_, []))]) (nv := nv0) (fz := fz0) (dr := dr9) (dd := dd9) (lam := []) (ms := ms0) ⟨at1_snd hB, at1_snd hF, trivial⟩ hJ trivial ms0_ok Tryz.func9 rfl rfl (Nat.le_of_ble_eq_true rfl) (Nat.le_of_ble_eq_true rfl) drOk9 ?_
    dsimp only [Tryz.f9, dr9, dd9, Option.getD_some]
    refine ev_start ?_
    simp (disch := omega) only [at1_eq, hz, go_sem, evP_D, evD_guard, evD_cons, evD_zero, evD_nil]
  | some y =>
    obtain ⟨i, hi, hyi⟩ := fiE_some hg
    have hlt : i < E.length := (List.getElem?_eq_some_iff.1 hyi).1
    have hfi : ¬ ((i : Int) < 0) := by omega
    have hk := bkChk_ok hz
    have h12 := (enX_ok (hk.2.2.2 y (List.mem_of_getElem? hyi)).1).2.1
    obtain ⟨k', d', l'⟩ := y
    have eR : gtV A E s k = .tup [.agg [.str k', .int .i64 d', .row 2 (l'.map acV)], .int .i64 0] := by unfold gtV gtE; rw [if_neg (fun h => h hz), if_neg (fun h => h hz), hg]; rfl
    have hcl := cloneF_eq l' (by simp only at h12; omega)
    have hyg := enW_get hyi
    rw [hi] at hF
    rw [eR]
    refine evFn (l := [(11, at1 _ (_, [])), (30, at1 _ (_, [])), (34, cloneF)]) (nv := nv0) (fz := fz0) (dr := dr9) (dd := dd9) (lam := []) (ms := ms0) ⟨at1_snd hB, at1_snd hF, cloneL_snd hJ, trivial⟩ hJ trivial ms0_ok Tryz.func9 rfl rfl (Nat.le_of_ble_eq_true rfl) (Nat.le_of_ble_eq_true rfl) drOk9 ?_
    dsimp only [Tryz.f9, dr9, dd9, Option.getD_some]
    refine ev_start ?_
    simp (disch := (first | omega | assumption)) only [at1_eq, hz, hfi, idx_nat, List.length_map, hyg, hcl, go_sem, evP_D, evD_guard, evD_cons, evD_zero, evD_nil]
end Go.Proofs.YtdmkmbaaemhhhaaGreatDoor
namespace Go.Acc
open Go Go.Ev
theorem getE_at {key : ByteArray} : ∀ {E : List En} {k : Nat} {y : En}, E[k]? = some y → y.1 = key → (∀ i z, i < k → E[i]? = some z → z.1 ≠ key) → getE key E = some y
  | [], k, y, h, _, _ => by simp at h
  | x :: r, 0, y, h, hk, _ => by
    simp at h
    subst h
    unfold getE
    rw [List.find?_cons, decide_eq_true hk]
  | x :: r, k + 1, y, h, hk, hn => by
    have h0 := hn 0 x (Nat.succ_pos _) rfl
    have ih := getE_at (E := r) (k := k) (y := y) (by simpa using h) hk fun i z hi hz => hn (i + 1) z (by omega) (by simpa using hz)
    unfold getE at ih ⊢
    rw [List.find?_cons, decide_eq_false h0]
    exact ih
theorem getE_no {key : ByteArray} {E : List En} (h : ∀ (i : Nat) (z : En), E[i]? = some z → z.1 ≠ key) : getE key E = none := by
  unfold getE
  rw [List.find?_eq_none]
  intro x hx
  obtain ⟨i, hi⟩ := List.mem_iff_getElem?.1 hx
  simpa using h i x hi
end Go.Acc
namespace Go.Ev
open Go Go.RowKit
/-- nil, or empty: an own row without elements -/
theorem own_empty {P : Program} {J : World → Prop} {f : FuncId} {args : List V} {T : TypeId} {sz : Nat} {r : V} (hpos : 0 < sz) (h : SoundAt P J f args r []) (hd : V.data r = true) (hr : ∀ (w : World) (ok : Nat → Prop) val, RelD w ok r val → ∃ ad, val = .slice ad 0 0) : SoundAt P J f args (.vec 0) [.vec T sz []] := by
  refine ⟨h.1, fun w ok us hJ hok hlen hrel => (h.2 w ok us hJ hok hlen hrel).mono ?_⟩
  rintro e w' ⟨val, ρr, he, hb, hi, hrr⟩
  obtain ⟨ad, rfl⟩ := hr _ _ _ (hrr.toD hd)
  have key : ∀ b sv, one 0 (Value.slice ad 0 0) b = some sv → b = 0 ∧ sv = .slice ad 0 0 := by
    intro b sv hs
    unfold Ev.one at hs
    split at hs
    · rename_i e; simp at hs; exact ⟨e, hs.symm⟩
    · cases hs
  refine ⟨.slice ad 0 0, one 0 (.slice ad 0 0), he, hb, ⟨hb.size, ?_, ?_, ?_⟩, .vec 0 _ (by simp [one]) rfl⟩
  · intro b k hk
    match b with
    | 0 =>
      simp at hk
      subst hk
      exact ⟨.slice ad 0 0, by simp [one], hpos, [], rfl, (by simp), (by simp), (by simp), .inl ⟨ad, rfl, rfl⟩⟩
    | b + 1 => simp at hk
  · intro b sv hs
    obtain ⟨rfl, rfl⟩ := key b sv hs
    exact ⟨_, rfl⟩
  · intro b b' sv s2 g h1 h2 _ _
    rw [(key b sv h1).1, (key b' s2 h2).1]
end Go.Ev
namespace Go.Proofs.YtdmkmbaaemhhhaaGreatDoor
open Go Go.Ev Go.RowKit Go.Acc
set_option maxHeartbeats 4000000
set_option linter.unusedSimpArgs false
set_option linter.unusedVariables false

theorem cloneE_sound {J : World → Prop} (hJ : Stable J) (E : List En) (hl : E.length ≤ 1000) : SoundAt Tryz.prog J 44 [.row 3 (E.map enW)] (.vec 0) [.vec 28 3 (E.map enW)] := by
  cases E with
  | nil =>
    refine sound_empty ?_ (fun a c => ?_)
    · refine own_empty (r := .zero) (by decide) ?_ rfl (fun w ok val hv => by cases hv; exact ⟨_, rfl⟩)
      refine evFn (l := []) (nv := nv0) (fz := fz0) (dr := dr44) (dd := dd44) (lam := []) (ms := ms0) trivial hJ trivial ms0_ok Tryz.func44 rfl rfl (Nat.le_of_ble_eq_true rfl) (Nat.le_of_ble_eq_true rfl) drOk44 ?_
      dsimp only [Tryz.f44, dr44, dd44, Option.getD_some]
      refine ev_start ?_
      simp (disch := omega) only [bin_eql_rawz, go_sem, evP_D, evD_guard, evD_cons, evD_zero, evD_nil]
    · skip
      refine evFn (l := []) (nv := nv0) (fz := fz0) (dr := dr44) (dd := dd44) (lam := []) (ms := ms0) trivial hJ trivial ms0_ok Tryz.func44 rfl rfl (Nat.le_of_ble_eq_true rfl) (Nat.le_of_ble_eq_true rfl) drOk44 ?_
      dsimp only [Tryz.f44, dr44, dd44, Option.getD_some]
      refine ev_start ?_
      simp (disch := omega) only [bin_eql_rawz, go_sem, evP_D, evD_guard, evD_cons, evD_zero, evD_nil]
  | cons p l =>
    refine evFn (l := []) (nv := nv0) (fz := fz0) (dr := dr44) (dd := dd44) (lam := []) (ms := ms0) trivial hJ trivial ms0_ok Tryz.func44 rfl rfl (Nat.le_of_ble_eq_true rfl) (Nat.le_of_ble_eq_true rfl) drOk44 ?_
    dsimp only [Tryz.f44, dr44, dd44, Option.getD_some]
    refine ev_start ?_
    have h1 : 0 < l.length + 1 := by omega
    rw [List.length_cons] at hl
    simp (disch := omega) only [h1, List.length_map, List.length_cons, go_sem, evP_D, evD_guard, evD_cons, evD_zero, evD_nil]
theorem rsame_sound {J : World → Prop} (hJ : Stable J) (x y : En) : SoundAt Tryz.prog J 13 [enW x, enW y] (.bool (decide (x = y))) [] := by
  obtain ⟨k, d, l⟩ := x
  obtain ⟨k', d', l'⟩ := y
  unfold enW
  by_cases hk : k = k'
  · subst hk
    by_cases hd : d = d'
    · subst hd
      have e : decide ((k, d, l) = (k, d, l')) = decide (l = l') := by simp
      refine evFn (l := [(43, eqLF)]) (nv := nv0) (fz := fz0) (dr := dr13) (dd := dd13) (lam := []) (ms := ms0) ⟨eqL_snd hJ, trivial⟩ hJ trivial ms0_ok Tryz.func13 rfl rfl (Nat.le_of_ble_eq_true rfl) (Nat.le_of_ble_eq_true rfl) drOk13 ?_
      dsimp only [Tryz.f13, dr13, dd13, Option.getD_some]
      refine ev_start ?_
      simp (disch := omega) only [eqLF_rows, bin_eql_str, decide_true, e, go_sem, evP_D, evD_guard, evD_cons, evD_zero, evD_nil]
    · have e : decide ((k, d, l) = (k, d', l')) = false := by simp [hd]
      refine evFn (l := [(43, eqLF)]) (nv := nv0) (fz := fz0) (dr := dr13) (dd := dd13) (lam := []) (ms := ms0) ⟨eqL_snd hJ, trivial⟩ hJ trivial ms0_ok Tryz.func13 rfl rfl (Nat.le_of_ble_eq_true rfl) (Nat.le_of_ble_eq_true rfl) drOk13 ?_
      dsimp only [Tryz.f13, dr13, dd13, Option.getD_some]
      refine ev_start ?_
      simp (disch := omega) only [eqLF_rows, bin_eql_str, decide_true, hd, e, go_sem, evP_D, evD_guard, evD_cons, evD_zero, evD_nil]
  · have e : decide ((k, d, l) = (k', d', l')) = false := by simp [hk]
    have hk' := decide_eq_false hk
    refine evFn (l := [(43, eqLF)]) (nv := nv0) (fz := fz0) (dr := dr13) (dd := dd13) (lam := []) (ms := ms0) ⟨eqL_snd hJ, trivial⟩ hJ trivial ms0_ok Tryz.func13 rfl rfl (Nat.le_of_ble_eq_true rfl) (Nat.le_of_ble_eq_true rfl) drOk13 ?_
    dsimp only [Tryz.f13, dr13, dd13, Option.getD_some]
    refine ev_start ?_
    simp (disch := omega) only [eqLF_rows, bin_eql_str, hk', e, go_sem, evP_D, evD_guard, evD_cons, evD_zero, evD_nil]
def rgV (E : List En) (key : ByteArray) : V := match getE key E with
  | some y => .tup [enW y, .bool true]
  | none => .tup [.agg [.str ByteArray.empty, .int .i64 0, .zero], .bool false]
set_option maxHeartbeats 4000000 in
theorem rget_sound {J : World → Prop} (hJ : Stable J) (A : List (ByteArray × Int)) (E : List En) (s : Int) (key : ByteArray) (hE : E.length ≤ maxLen) : SoundAt Tryz.prog J 15 [bkV A E s, .str key] (rgV E key) [] := by
  simp only [maxLen] at hE
  unfold bkV
  obtain ⟨R, hR⟩ : ∃ R, R = rgV E key := ⟨_, rfl⟩
  rw [← hR]
  refine evFn (l := []) (nv := nv0) (fz := fz0) (dr := dr15) (dd := dd15) (lam := []) (ms := ms0) trivial hJ trivial ms0_ok Tryz.func15 rfl rfl (Nat.le_of_ble_eq_true rfl) (Nat.le_of_ble_eq_true rfl) drOk15 ?_
  dsimp only [Tryz.f15, dr15, dd15, Option.getD_some]
  refine ev_start ?_
  simp (disch := omega) only [List.length_map, go_sem, evP_D, evD_guard, evD_cons, evD_zero, evD_nil]
  refine evQ_loop [1, 4, 9, 10, 11] [32] (fun σ => ∃ k : Nat, (k ≤ E.length ∧ ∀ i z, i < k → E[i]? = some z → z.1 ≠ key) ∧ σ = ⟨[(1, .str key), (4, .ptr 32 0), (9, .row 3 (E.map enW)), (10, .int .i64 E.length), (11, .int .i64 k)], [(32, .box (.agg [.str ByteArray.empty, .int .i64 0, .zero]))]⟩)
    (fun σ => E.length - (match Ev.look 11 σ.env with | some (.int _ n) => n.toNat | _ => 0)) ?_ ?_
  · simp only [go_sem, evP_D, evD_guard, evD_cons, evD_zero, evD_nil]
    exact ⟨0, ⟨Nat.zero_le _, fun _ _ h => by omega⟩, rfl⟩
  · rintro σ ⟨k, ⟨hk, hall⟩, rfl⟩
    by_cases hlt : k < E.length
    · have hlt' : (k : Int) < E.length := by omega
      obtain ⟨⟨c, d, l⟩, hcn⟩ : ∃ p, E[k]? = some p := ⟨_, List.getElem?_eq_getElem hlt⟩
      have hg := enW_get hcn
      by_cases hc : c = key
      · have hge := getE_at hcn hc hall
        have hc' := decide_eq_true hc
        have e : R = .tup [.agg [.str c, .int .i64 d, .row 2 (l.map acV)], .bool true] := by rw [hR]; unfold rgV; rw [hge]; rfl
        subst e
        clear hR
        simp (disch := (first | omega | assumption)) only [hlt', idx_nat, List.length_map, hg, bin_eql_str, hc', go_sem, evP_D, evD_guard, evD_cons, evD_zero, evD_nil]
      · have hc' := decide_eq_false hc
        simp (disch := (first | omega | assumption)) only [hlt', idx_nat, List.length_map, hg, bin_eql_str, hc', go_sem, evP_D, evD_guard, evD_cons, evD_zero, evD_nil]
        refine ⟨⟨k + 1, ⟨hlt, fun i z hi hz => ?_⟩, rfl⟩, ?_⟩
        · by_cases hik : i = k
          · subst hik
            rw [hcn] at hz
            cases hz
            exact hc
          · exact hall i z (by omega) hz
        · have e3 : ((k : Int) + 1).toNat = k + 1 := by omega
          rw [e3, Int.toNat_natCast]; exact Nat.sub_lt_sub_left hlt (Nat.lt_succ_self k)
    · have hk' : k = E.length := by omega
      have hlt' : ¬ ((k : Int) < E.length) := by omega
      have hge := getE_no (key := key) (E := E) fun i z hz => hall i z (by have := (List.getElem?_eq_some_iff.1 hz).1; omega) hz
      have e : R = .tup [.agg [.str ByteArray.empty, .int .i64 0, .zero], .bool false] := by rw [hR]; unfold rgV; rw [hge]
      subst e
      clear hR
      simp (disch := (first | omega | assumption)) only [hlt', go_sem, evP_D, evD_guard, evD_cons, evD_zero, evD_nil]
end Go.Proofs.YtdmkmbaaemhhhaaGreatDoor
namespace Go.Proofs.YtdmkmbaaemhhhaaGreatDoor
open Go Go.Ev Go.RowKit Go.Sort Go.So
set_option maxHeartbeats 4000000
set_option linter.unusedSimpArgs false
set_option linter.unusedVariables false

section
variable {J : World → Prop} (hJ : Stable J) {α : Type} [Inhabited α] (S : So Tryz.prog J famF α)
include hJ in
theorem pq_ex (N : Nat) (ih : ∀ (a b limit : Nat) (D : Array α), b - a < N → a ≤ b → b ≤ D.size → D.size < 1152921504606846976 → limit < 1000 → Sort.Below S.lt a b D →
    MutAt Tryz.prog J 92 (S.ks D) [S.dV, .int .i64 a, .int .i64 b, .int .i64 limit] (.tup []) (S.ks (pdq S.lt D a b limit true true))) :
    ∃ K : Pq S N, Mu Tryz.prog J 132 K.I1 ∧ Mu Tryz.prog J 133 K.H1 ∧ Mu Tryz.prog J 134 K.B1 ∧ Mu Tryz.prog J 135 K.C1 ∧ Mu Tryz.prog J 136 K.R1 ∧ Mu Tryz.prog J 137 K.P1 ∧ Mu Tryz.prog J 138 K.E1 ∧ Mu Tryz.prog J 139 K.T1 ∧ Mu Tryz.prog J 92 K.Q1 := by
  obtain ⟨I1, hI1, sI1⟩ := fam2 S (f := 132) (fun D a b => a ≤ b ∧ b ≤ D.size ∧ D.size < 4611686018427387904) (fun D a b => (.tup [], insertionSort S.lt D a b)) fun D a b h => ins_mut hJ S D a b h.1 h.2.1 h.2.2
  obtain ⟨H1, hH1, sH1⟩ := fam2 S (f := 133) (fun D a b => a < b ∧ b ≤ D.size ∧ D.size < 2305843009213693950) (fun D a b => (.tup [], heapSort S.lt D a b)) fun D a b h => heap_mut hJ S D a b h.1 h.2.1 h.2.2
  obtain ⟨B1, hB1, sB1⟩ := fam2 S (f := 134) (fun D a b => a + 12 < b ∧ b ≤ D.size ∧ D.size < 1152921504606846976) (fun D a b => (.tup [], breakPatterns D a b)) fun D a b h => break_mut hJ S D a b h.1 h.2.1 h.2.2
  obtain ⟨C1, hC1, sC1⟩ := fam2 S (f := 135) (fun D a b => a + 12 < b ∧ b ≤ D.size ∧ D.size < 1152921504606846976) (fun D a b => (.tup [.int .i64 (choosePivot S.lt D a b).1, .int .i64 (hintI (choosePivot S.lt D a b).2)], D)) fun D a b h => pivot_mut hJ S D a b h.1 h.2.1 h.2.2
  obtain ⟨R1, hR1, sR1⟩ := fam2 S (f := 136) (fun D a b => a ≤ b ∧ 0 < b ∧ b ≤ D.size ∧ D.size < 4611686018427387904) (fun D a b => (.tup [], reverseRange D a b)) fun D a b h => rev_mut hJ S D a b h.1 h.2.1 h.2.2.1 h.2.2.2
  obtain ⟨P1, hP1, sP1⟩ := fam2 S (f := 137) (fun D a b => a < b ∧ b ≤ D.size ∧ D.size < 2305843009213693950) (fun D a b => (.bool (partialInsertionSort S.lt D a b).2, (partialInsertionSort S.lt D a b).1)) fun D a b h => pins_mut hJ S D a b h.1 h.2.1 h.2.2
  obtain ⟨E1, hE1, sE1⟩ := fam3 S (f := 138) (fun D a b c => a + 1 < b ∧ b ≤ D.size ∧ c < b ∧ D.size < 2305843009213693950) (fun D a b c => (.int .i64 (partitionEqual S.lt D a b c).1, (partitionEqual S.lt D a b c).2)) fun D a b c h => parteq_mut hJ S D a b c h.1 h.2.1 h.2.2.1 h.2.2.2
  obtain ⟨T1, hT1, sT1⟩ := fam3 S (f := 139) (fun D a b c => a + 1 < b ∧ b ≤ D.size ∧ c < b ∧ D.size < 2305843009213693950) (fun D a b c => (.tup [.int .i64 (partition S.lt D a b c).1, .bool (partition S.lt D a b c).2.1], (partition S.lt D a b c).2.2)) fun D a b c h => part_mut hJ S D a b c h.1 h.2.1 h.2.2.1 h.2.2.2
  obtain ⟨Q1, hQ1, sQ1⟩ := fam3 S (f := 92) (fun D a b c => b - a < N ∧ a ≤ b ∧ b ≤ D.size ∧ D.size < 1152921504606846976 ∧ c < 1000 ∧ Sort.Below S.lt a b D) (fun D a b c => (.tup [], pdq S.lt D a b c true true)) fun D a b c h => ih a b c D h.1 h.2.1 h.2.2.1 h.2.2.2.1 h.2.2.2.2.1 h.2.2.2.2.2
  exact ⟨⟨I1, H1, B1, C1, R1, P1, E1, T1, Q1, hI1, hH1, hB1, hC1, hR1, hP1, hE1, hT1, hQ1⟩, sI1, sH1, sB1, sC1, sR1, sP1, sE1, sT1, sQ1⟩
include hJ in
set_option maxRecDepth 100000 in
set_option maxHeartbeats 40000000 in
theorem pdq_mut (hO : SWO S.lt) : ∀ (N a b limit : Nat) (D : Array α), b - a < N → a ≤ b → b ≤ D.size → D.size < 1152921504606846976 → limit < 1000 → Sort.Below S.lt a b D →
    MutAt Tryz.prog J 92 (S.ks D) [S.dV, .int .i64 a, .int .i64 b, .int .i64 limit] (.tup []) (S.ks (pdq S.lt D a b limit true true)) := by
  intro N
  induction N with
  | zero => intro a b limit D h; exact absurd h (Nat.not_lt_zero _)
  | succ N ih =>
  intro a b limit D hN hab hb hsz hlimit hBel0
  obtain ⟨K, sI1, sH1, sB1, sC1, sR1, sP1, sE1, sT1, sQ1⟩ := pq_ex hJ S N ih
  clear ih
  have hend := S.ksLone (pdq S.lt D a b limit true true)
  have m1 := S.farL 132 (by simp [famF])
  have m2 := S.farL 133 (by simp [famF])
  unfold So.dV
  unfold So.ks at hend ⊢
  obtain ⟨RES, hRES⟩ : ∃ R, R = pdq S.lt D a b limit true true := ⟨_, rfl⟩
  rw [← hRES] at hend ⊢
  refine evMut (l := []) (nv := nv0) (fz := fz0) (dr := dr92) (dd := dd92) (lam := []) (ms := ⟨[(S.lf, S.LF), (132, K.I1), (133, K.H1), (134, K.B1), (135, K.C1), (136, K.R1), (137, K.P1), (138, K.E1), (139, K.T1), (92, K.Q1)], fun _ => [1000000, 1000001], []⟩) trivial hJ trivial ⟨⟨S.hLF, sI1, sH1, sB1, sC1, sR1, sP1, sE1, sT1, sQ1, trivial⟩, trivial⟩ Tryz.func92 rfl rfl (Nat.le_of_ble_eq_true rfl) (Nat.le_of_ble_eq_true rfl) drOk92 rfl rfl ?_ ?_
  rotate_left
  dsimp only [Tryz.f92, dr92, dd92, Option.getD_some]
  refine ev_start ?_
  · simp (disch := omega) only [go_sem, evP_D, evD_guard, evD_cons, evD_zero, evD_nil]
    refine evQ_loop [1, 2, 3, 4, 8, 9] [1000000, 1000001, 32] (fun σ => ∃ (a' b' lim : Nat) (wb wp : Bool) (E : Array α), (a' ≤ b' ∧ b' ≤ D.size ∧ b' - a' ≤ b - a ∧ lim < 1000 ∧ E.size = D.size ∧ Sort.Below S.lt a' b' E ∧ pdq S.lt E a' b' lim wb wp = RES) ∧ σ = ⟨[(1, .int .i64 a'), (2, .int .i64 b'), (3, .int .i64 lim), (4, .ptr 32 0), (8, .bool wb), (9, .bool wp)], [(1000000, .vec S.T S.sz (E.toList.map S.enc)), (1000001, .box S.bv), (32, .box (.agg [.fn S.lf [.ptr 1000001 0], .fn S.sf [.vec 1000000, .raw S.hd]]))]⟩)
      (fun σ => (match Ev.look 2 σ.env with | some (.int _ n) => n.toNat | _ => 0) - (match Ev.look 1 σ.env with | some (.int _ n) => n.toNat | _ => 0)) ?_ ?_
    · simp only [S.br, go_sem, evP_D, evD_guard, evD_cons, evD_zero, evD_nil]
      exact ⟨a, b, limit, true, true, D, ⟨hab, hb, Nat.le_refl _, hlimit, rfl, hBel0, hRES.symm⟩, rfl⟩
    · rintro σ ⟨a', b', lim, wb, wp, dk, ⟨hab', hb', hkN, hlim, hds, hBel, heq⟩, rfl⟩
      by_cases h12 : b' - a' ≤ 12
      · have h12' : (b' : Int) - a' ≤ 12 := by omega
        have c1 := K.hI dk a' b' ⟨hab', by omega, by omega⟩
        rw [pdq_small h12] at heq
        subst heq
        simp (disch := omega) only [h12', c1, m1, S.all, S.bmv, S.bbk, S.br, go_sem, evP_D, evD_guard, evD_cons, evD_zero, evD_nil]
      by_cases hl0 : lim = 0
      · have h12' : ¬ (b' : Int) - a' ≤ 12 := by omega
        have c1 := K.hH dk a' b' ⟨by omega, by omega, by omega⟩
        rw [pdq_heap h12 hl0] at heq
        subst heq
        subst hl0
        simp (disch := omega) only [h12', c1, m2, S.all, S.bmv, S.bbk, S.br, go_sem, evP_D, evD_guard, evD_cons, evD_zero, evD_nil]
      cases wb with
      | false =>
        cases hc : (rd S.lt dk a' b' lim false wp).c.2 with
        | unknown =>
          refine pw_f_u S hO K a' b' lim wp dk D.size hds hsz hab' hb' (by omega) hlim hBel h12 hl0 hc RES heq _ ?_ ?_
          · intro env
            simp only [go_sem, evP_D, evD_guard, evD_cons, evD_zero, evD_nil]
          · intro τ a2 b2 l2 wb2 wp2 E2 hk hh
            change lQ _ _ _ _ _ _ Ex.normal τ
            rw [lQ_normal, hk]
            have tn : ∀ n : Nat, ((n : Int)).toNat = n := fun _ => rfl
            simp only [S.br, go_sem, evP_D, evD_guard, evD_cons, evD_zero, evD_nil]
            exact ⟨⟨a2, b2, l2, wb2, wp2, E2, ⟨hh.1, hh.2.1, by omega, hh.2.2.2.2.1, hh.2.2.2.2.2.1, hh.2.2.2.2.2.2.1, hh.2.2.2.2.2.2.2⟩, rfl⟩, by simp only [tn]; omega⟩
        | increasing =>
          refine pw_f_i S hO K a' b' lim wp dk D.size hds hsz hab' hb' (by omega) hlim hBel h12 hl0 hc RES heq _ ?_ ?_
          · intro env
            simp only [go_sem, evP_D, evD_guard, evD_cons, evD_zero, evD_nil]
          · intro τ a2 b2 l2 wb2 wp2 E2 hk hh
            change lQ _ _ _ _ _ _ Ex.normal τ
            rw [lQ_normal, hk]
            have tn : ∀ n : Nat, ((n : Int)).toNat = n := fun _ => rfl
            simp only [S.br, go_sem, evP_D, evD_guard, evD_cons, evD_zero, evD_nil]
            exact ⟨⟨a2, b2, l2, wb2, wp2, E2, ⟨hh.1, hh.2.1, by omega, hh.2.2.2.2.1, hh.2.2.2.2.2.1, hh.2.2.2.2.2.2.1, hh.2.2.2.2.2.2.2⟩, rfl⟩, by simp only [tn]; omega⟩
        | decreasing =>
          refine pw_f_d S hO K a' b' lim wp dk D.size hds hsz hab' hb' (by omega) hlim hBel h12 hl0 hc RES heq _ ?_ ?_
          · intro env
            simp only [go_sem, evP_D, evD_guard, evD_cons, evD_zero, evD_nil]
          · intro τ a2 b2 l2 wb2 wp2 E2 hk hh
            change lQ _ _ _ _ _ _ Ex.normal τ
            rw [lQ_normal, hk]
            have tn : ∀ n : Nat, ((n : Int)).toNat = n := fun _ => rfl
            simp only [S.br, go_sem, evP_D, evD_guard, evD_cons, evD_zero, evD_nil]
            exact ⟨⟨a2, b2, l2, wb2, wp2, E2, ⟨hh.1, hh.2.1, by omega, hh.2.2.2.2.1, hh.2.2.2.2.2.1, hh.2.2.2.2.2.2.1, hh.2.2.2.2.2.2.2⟩, rfl⟩, by simp only [tn]; omega⟩
      | true =>
        cases wp with
        | false =>
          cases hc : (rd S.lt dk a' b' lim true false).c.2 with
          | unknown =>
            refine pw_tf_u S hO K a' b' lim dk D.size hds hsz hab' hb' (by omega) hlim hBel h12 hl0 hc RES heq _ ?_ ?_
            · intro env
              simp only [go_sem, evP_D, evD_guard, evD_cons, evD_zero, evD_nil]
            · intro τ a2 b2 l2 wb2 wp2 E2 hk hh
              change lQ _ _ _ _ _ _ Ex.normal τ
              rw [lQ_normal, hk]
              have tn : ∀ n : Nat, ((n : Int)).toNat = n := fun _ => rfl
              simp only [S.br, go_sem, evP_D, evD_guard, evD_cons, evD_zero, evD_nil]
              exact ⟨⟨a2, b2, l2, wb2, wp2, E2, ⟨hh.1, hh.2.1, by omega, hh.2.2.2.2.1, hh.2.2.2.2.2.1, hh.2.2.2.2.2.2.1, hh.2.2.2.2.2.2.2⟩, rfl⟩, by simp only [tn]; omega⟩
          | increasing =>
            refine pw_tf_i S hO K a' b' lim dk D.size hds hsz hab' hb' (by omega) hlim hBel h12 hl0 hc RES heq _ ?_ ?_
            · intro env
              simp only [go_sem, evP_D, evD_guard, evD_cons, evD_zero, evD_nil]
            · intro τ a2 b2 l2 wb2 wp2 E2 hk hh
              change lQ _ _ _ _ _ _ Ex.normal τ
              rw [lQ_normal, hk]
              have tn : ∀ n : Nat, ((n : Int)).toNat = n := fun _ => rfl
              simp only [S.br, go_sem, evP_D, evD_guard, evD_cons, evD_zero, evD_nil]
              exact ⟨⟨a2, b2, l2, wb2, wp2, E2, ⟨hh.1, hh.2.1, by omega, hh.2.2.2.2.1, hh.2.2.2.2.2.1, hh.2.2.2.2.2.2.1, hh.2.2.2.2.2.2.2⟩, rfl⟩, by simp only [tn]; omega⟩
          | decreasing =>
            refine pw_tf_d S hO K a' b' lim dk D.size hds hsz hab' hb' (by omega) hlim hBel h12 hl0 hc RES heq _ ?_ ?_
            · intro env
              simp only [go_sem, evP_D, evD_guard, evD_cons, evD_zero, evD_nil]
            · intro τ a2 b2 l2 wb2 wp2 E2 hk hh
              change lQ _ _ _ _ _ _ Ex.normal τ
              rw [lQ_normal, hk]
              have tn : ∀ n : Nat, ((n : Int)).toNat = n := fun _ => rfl
              simp only [S.br, go_sem, evP_D, evD_guard, evD_cons, evD_zero, evD_nil]
              exact ⟨⟨a2, b2, l2, wb2, wp2, E2, ⟨hh.1, hh.2.1, by omega, hh.2.2.2.2.1, hh.2.2.2.2.2.1, hh.2.2.2.2.2.2.1, hh.2.2.2.2.2.2.2⟩, rfl⟩, by simp only [tn]; omega⟩
        | true =>
          cases hc : (rd S.lt dk a' b' lim true true).c.2 with
          | unknown =>
            refine pw_tt_u S hO K a' b' lim dk D.size hds hsz hab' hb' (by omega) hlim hBel h12 hl0 hc RES heq _ ?_ ?_
            · intro env
              simp only [go_sem, evP_D, evD_guard, evD_cons, evD_zero, evD_nil]
            · intro τ a2 b2 l2 wb2 wp2 E2 hk hh
              change lQ _ _ _ _ _ _ Ex.normal τ
              rw [lQ_normal, hk]
              have tn : ∀ n : Nat, ((n : Int)).toNat = n := fun _ => rfl
              simp only [S.br, go_sem, evP_D, evD_guard, evD_cons, evD_zero, evD_nil]
              exact ⟨⟨a2, b2, l2, wb2, wp2, E2, ⟨hh.1, hh.2.1, by omega, hh.2.2.2.2.1, hh.2.2.2.2.2.1, hh.2.2.2.2.2.2.1, hh.2.2.2.2.2.2.2⟩, rfl⟩, by simp only [tn]; omega⟩
          | increasing =>
            refine pw_tt_i S hO K a' b' lim dk D.size hds hsz hab' hb' (by omega) hlim hBel h12 hl0 hc RES heq _ ?_ ?_
            · intro env
              simp only [go_sem, evP_D, evD_guard, evD_cons, evD_zero, evD_nil]
            · intro τ a2 b2 l2 wb2 wp2 E2 hk hh
              change lQ _ _ _ _ _ _ Ex.normal τ
              rw [lQ_normal, hk]
              have tn : ∀ n : Nat, ((n : Int)).toNat = n := fun _ => rfl
              simp only [S.br, go_sem, evP_D, evD_guard, evD_cons, evD_zero, evD_nil]
              exact ⟨⟨a2, b2, l2, wb2, wp2, E2, ⟨hh.1, hh.2.1, by omega, hh.2.2.2.2.1, hh.2.2.2.2.2.1, hh.2.2.2.2.2.2.1, hh.2.2.2.2.2.2.2⟩, rfl⟩, by simp only [tn]; omega⟩
          | decreasing =>
            refine pw_tt_d S hO K a' b' lim dk D.size hds hsz hab' hb' (by omega) hlim hBel h12 hl0 hc RES heq _ ?_ ?_
            · intro env
              simp only [go_sem, evP_D, evD_guard, evD_cons, evD_zero, evD_nil]
            · intro τ a2 b2 l2 wb2 wp2 E2 hk hh
              change lQ _ _ _ _ _ _ Ex.normal τ
              rw [lQ_normal, hk]
              have tn : ∀ n : Nat, ((n : Int)).toNat = n := fun _ => rfl
              simp only [S.br, go_sem, evP_D, evD_guard, evD_cons, evD_zero, evD_nil]
              exact ⟨⟨a2, b2, l2, wb2, wp2, E2, ⟨hh.1, hh.2.1, by omega, hh.2.2.2.2.1, hh.2.2.2.2.2.1, hh.2.2.2.2.2.2.1, hh.2.2.2.2.2.2.2⟩, rfl⟩, by simp only [tn]; omega⟩
  · exact hend
end
end Go.Proofs.YtdmkmbaaemhhhaaGreatDoor
