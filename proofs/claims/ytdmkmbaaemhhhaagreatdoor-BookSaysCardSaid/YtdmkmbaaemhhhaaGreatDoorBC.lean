/-
  Check, Post and Get of books answer what the document says, for whatever book, entry and key are handed in.
  Conditions: none but what the card itself says (the table cal.lengths is tied to the program's text). The frame was written by a program after the kit's own.
-/
import Derived.Test.YtdmkmbaaemhhhaaGreatDoorBA
import Derived.Test.YtdmkmbaaemhhhaaGreatDoorBB
import Derived.Test.YtdmkmbaaemhhhaaGreatDoorBookTellsW
import Derived.Test.YtdmkmbaaemhhhaaGreatDoorCards
import Derived.Test.YtdmkmbaaemhhhaaGreatDoorTie
import Derived.WalkKit
import Derived.ProofKit
import Derived.OpenShut
import Derived.ShutString
import Derived.ChangeOld
import Derived.Below
import Derived.Lib.SmallJoins
import Derived.Deep.DeepHandedRow
import Derived.Lib.LaidTab
namespace Go.Ev
open Go
/-- a contract at two lists of arguments -/
noncomputable def at2 (a : List V) (r : V × List Ev.Blk) (b : List V) (q : V × List Ev.Blk) : List V → Option (V × List Ev.Blk) := fun x => open Classical in if x = a then some r else if x = b then some q else none
theorem at2_l (a : List V) (r : V × List Ev.Blk) (b : List V) (q : V × List Ev.Blk) : at2 a r b q a = some r := if_pos rfl
theorem at2_r {a : List V} {r : V × List Ev.Blk} {b : List V} {q : V × List Ev.Blk} (h : b ≠ a) : at2 a r b q b = some q := by unfold at2; rw [if_neg h, if_pos rfl]
theorem at2_snd {P : Program} {J : World → Prop} {f : FuncId} {a b : List V} {r q : V × List Ev.Blk} (h1 : SoundAt P J f a r.1 r.2) (h2 : SoundAt P J f b q.1 q.2) : Snd P J f (at2 a r b q) := by
  intro args r' bs h
  unfold at2 at h
  split at h
  · rename_i e; subst e
    obtain rfl := Option.some.inj h
    exact h1
  · split at h
    · rename_i e; subst e
      obtain rfl := Option.some.inj h
      exact h2
    · cases h
end Go.Ev
namespace Go.Proofs.YtdmkmbaaemhhhaaGreatDoor
open Go Go.Ev Go.RowKit Go.Acc
set_option maxHeartbeats 4000000
set_option linter.unusedSimpArgs false
set_option linter.unusedVariables false

theorem bk_neg2 : bkChk [] [] (-2) = 1 := by
  have h : acChk [] = 0 := by decide +kernel
  unfold bkChk
  rw [if_neg (fun hh => hh h), if_pos (by omega)]
/-- a book that is nothing but a day that can't be -/
theorem bcheck2 {J : World → Prop} (hJ : Stable J) : SoundAt Tryz.prog J 11 [.agg [.zero, .zero, .int .i64 (-2)]] (.int .i64 1) [] := by
  have h := bcheck_sound hJ [] [] (-2) (by simp)
  rw [bk_neg2] at h
  refine sound_by h rfl fun w ok j c v hc hv => ?_
  match j with
  | 0 =>
    simp at hc
    subst hc
    refine ⟨_, rfl, ?_⟩
    cases hv with
    | agg cs vs hl h1 hh =>
      match vs, hl, h1, hh with
      | [a, b, d], _, h1, hh =>
        refine .agg [.row 2 [], .row 3 [], .int .i64 (-2)] [a, b, d] rfl h1 fun j c v hc hv => ?_
        match j, hc, hv with
        | 0, hc, hv => simp at hc hv; subst hc; subst hv; exact zero_row 2 _ _ _ (hh 0 _ _ rfl rfl)
        | 1, hc, hv => simp at hc hv; subst hc; subst hv; exact zero_row 3 _ _ _ (hh 1 _ _ rfl rfl)
        | 2, hc, hv => simp at hc hv; subst hc; subst hv; exact hh 2 _ _ rfl rfl
        | j + 3, hc, _ => simp at hc
  | j + 1 => simp at hc
theorem bk_ne2 (A : List (ByteArray × Int)) (E : List En) (s : Int) : [V.agg [.zero, .zero, .int .i64 (-2)]] ≠ [.agg [.row 2 (A.map acV), .row 3 (E.map enW), .int .i64 s]] := by
  intro h
  simp at h
set_option maxRecDepth 20000 in
set_option maxHeartbeats 16000000 in
theorem books_law {J : World → Prop} (hJ : Stable J) (A : List (ByteArray × Int)) (E : List En) (s : Int) (x : En) (key : ByteArray) (hE : okEn E) (hkx : x.1.size ≤ maxLen) (hlx : x.2.2.length ≤ maxLen) :
    SoundAt Tryz.prog J 3 [bkV A E s, enW x, .str key] (.bool true) [] := by
  have hP := post_sound hJ A E s x hE.1
  have hG := get_sound hJ A E s key hE.1
  have hB := rbook_sound hJ A E s hE
  have hC := bcheck_sound hJ A E s hE.1
  have hC2 := bcheck2 (J := J) hJ
  have hne := bk_ne2 A E s
  obtain ⟨k, d, l⟩ := x
  have sz := sameF_eq (k := ByteArray.empty) (d := 0) (L := .zero) (M := .zero) (l := []) rfl rfl
  by_cases hz : bkChk A E s = 0
  case neg =>
    have e1 : postE A E s (k, d, l) = bkChk A E s := if_pos hz
    have eR : posR A E s (k, d, l) = .tup [.agg [.zero, .zero, .int .i64 0], .int .i64 (bkChk A E s)] := by unfold posR; rw [e1, if_neg hz]; rfl
    have eG : gtV A E s key = .tup [.agg [.str ByteArray.empty, .int .i64 0, .zero], .int .i64 (bkChk A E s)] := by unfold gtV gtE; rw [if_pos hz, if_pos hz]; rfl
    rw [eR] at hP
    rw [eG] at hG
    unfold bkV at hP hG hB hC ⊢
    rw [enW_mk] at hP ⊢
    generalize bkChk A E s = q at *
    have ht := toldF_eq (x := .zero) (x' := .zero) (y := .zero) (y' := .zero) (s := 0) (e := q) (A := []) (E := []) rfl rfl rfl rfl
    have c1 := at2_l [V.agg [.row 2 (A.map acV), .row 3 (E.map enW), .int .i64 s]] (.int .i64 q, []) [V.agg [.zero, .zero, .int .i64 (-2)]] (.int .i64 1, [])
    have c2 := at2_r (r := (.int .i64 q, [])) (q := (.int .i64 1, [])) hne
    refine evFn (l := [(8, at1 _ (_, [])), (9, at1 _ (_, [])), (10, at1 _ (_, [])), (11, at2 _ (.int .i64 q, []) _ (.int .i64 1, [])), (12, toldF), (13, sameF)]) (nv := nv0) (fz := fz0) (dr := dr3) (dd := dd3) (lam := []) (ms := ms0) ⟨at1_snd hP, at1_snd hG, at1_snd hB, at2_snd hC hC2, told_snd hJ, same_snd hJ, trivial⟩ hJ trivial ms0_ok Tryz.func3 rfl rfl (Nat.le_of_ble_eq_true rfl) (Nat.le_of_ble_eq_true rfl) drOk3 ?_
    dsimp only [Tryz.f3, dr3, dd3, Option.getD_some]
    refine ev_start ?_
    simp (disch := omega) only [at1_eq, c1, c2, hz, ht, sz, go_sem, evPd, evDg, evDc, evDz, evDn]
  have hR := rpost_sound hJ A E s (k, d, l) hz hkx hlx
  have hRG := rget_sound hJ A E s key hE.1
  rw [hz] at hB hC
  have c1 := at2_l [V.agg [.row 2 (A.map acV), .row 3 (E.map enW), .int .i64 s]] (.int .i64 0, []) [V.agg [.zero, .zero, .int .i64 (-2)]] (.int .i64 1, [])
  have c2 := at2_r (r := (.int .i64 0, [])) (q := (.int .i64 1, [])) hne
  unfold gtV gtE at hG
  rw [if_neg (fun h => h hz), if_neg (fun h => h hz)] at hG
  unfold rgV at hRG
  unfold posR at hP hR
  by_cases hp : postE A E s (k, d, l) = 0
  · rw [if_pos hp, hp] at hP hR
    generalize postB E (k, d, l) = E' at *
    have ht := toldF_eq (s := s) (e := 0) (rowAc_row A) (rowAc_row A) (rowEn_row E') (rowEn_row E')
    unfold bkV at hP hG hB hC hR hRG ⊢
    rw [enW_mk] at hP hR ⊢
    cases hg : getE key E with
    | some y =>
      rw [hg] at hG hRG
      obtain ⟨yk, yd, yl⟩ := y
      simp only [enW_mk] at hG hRG
      have sy := sameF_eq (k := yk) (d := yd) (rowAc_row yl) (rowAc_row yl)
      refine evFn (l := [(8, at1 _ (_, [])), (9, at1 _ (_, [])), (10, at1 _ (_, [])), (11, at2 _ (.int .i64 0, []) _ (.int .i64 1, [])), (12, toldF), (13, sameF), (14, at1 _ (_, [])), (15, at1 _ (_, []))]) (nv := nv0) (fz := fz0) (dr := dr3) (dd := dd3) (lam := []) (ms := ms0) ⟨at1_snd hP, at1_snd hG, at1_snd hB, at2_snd hC hC2, told_snd hJ, same_snd hJ, at1_snd hR, at1_snd hRG, trivial⟩ hJ trivial ms0_ok Tryz.func3 rfl rfl (Nat.le_of_ble_eq_true rfl) (Nat.le_of_ble_eq_true rfl) drOk3 ?_
      dsimp only [Tryz.f3, dr3, dd3, Option.getD_some]
      refine ev_start ?_
      simp (disch := omega) only [at1_eq, c1, c2, ht, sy, go_sem, evPd, evDg, evDc, evDz, evDn]
    | none =>
      rw [hg] at hG hRG
      simp only [zeV] at hG hRG
      refine evFn (l := [(8, at1 _ (_, [])), (9, at1 _ (_, [])), (10, at1 _ (_, [])), (11, at2 _ (.int .i64 0, []) _ (.int .i64 1, [])), (12, toldF), (13, sameF), (14, at1 _ (_, [])), (15, at1 _ (_, []))]) (nv := nv0) (fz := fz0) (dr := dr3) (dd := dd3) (lam := []) (ms := ms0) ⟨at1_snd hP, at1_snd hG, at1_snd hB, at2_snd hC hC2, told_snd hJ, same_snd hJ, at1_snd hR, at1_snd hRG, trivial⟩ hJ trivial ms0_ok Tryz.func3 rfl rfl (Nat.le_of_ble_eq_true rfl) (Nat.le_of_ble_eq_true rfl) drOk3 ?_
      dsimp only [Tryz.f3, dr3, dd3, Option.getD_some]
      refine ev_start ?_
      simp (disch := omega) only [at1_eq, c1, c2, ht, sz, go_sem, evPd, evDg, evDc, evDz, evDn]
  · rw [if_neg hp] at hP hR
    unfold zbV at hP hR
    generalize postE A E s (k, d, l) = q at *
    have ht := toldF_eq (x := .zero) (x' := .zero) (y := .zero) (y' := .zero) (s := 0) (e := q) (A := []) (E := []) rfl rfl rfl rfl
    unfold bkV at hP hG hB hC hR hRG ⊢
    rw [enW_mk] at hP hR ⊢
    cases hg : getE key E with
    | some y =>
      rw [hg] at hG hRG
      obtain ⟨yk, yd, yl⟩ := y
      simp only [enW_mk] at hG hRG
      have sy := sameF_eq (k := yk) (d := yd) (rowAc_row yl) (rowAc_row yl)
      refine evFn (l := [(8, at1 _ (_, [])), (9, at1 _ (_, [])), (10, at1 _ (_, [])), (11, at2 _ (.int .i64 0, []) _ (.int .i64 1, [])), (12, toldF), (13, sameF), (14, at1 _ (_, [])), (15, at1 _ (_, []))]) (nv := nv0) (fz := fz0) (dr := dr3) (dd := dd3) (lam := []) (ms := ms0) ⟨at1_snd hP, at1_snd hG, at1_snd hB, at2_snd hC hC2, told_snd hJ, same_snd hJ, at1_snd hR, at1_snd hRG, trivial⟩ hJ trivial ms0_ok Tryz.func3 rfl rfl (Nat.le_of_ble_eq_true rfl) (Nat.le_of_ble_eq_true rfl) drOk3 ?_
      dsimp only [Tryz.f3, dr3, dd3, Option.getD_some]
      refine ev_start ?_
      simp (disch := omega) only [at1_eq, c1, c2, ht, sy, go_sem, evPd, evDg, evDc, evDz, evDn]
    | none =>
      rw [hg] at hG hRG
      simp only [zeV] at hG hRG
      refine evFn (l := [(8, at1 _ (_, [])), (9, at1 _ (_, [])), (10, at1 _ (_, [])), (11, at2 _ (.int .i64 0, []) _ (.int .i64 1, [])), (12, toldF), (13, sameF), (14, at1 _ (_, [])), (15, at1 _ (_, []))]) (nv := nv0) (fz := fz0) (dr := dr3) (dd := dd3) (lam := []) (ms := ms0) ⟨at1_snd hP, at1_snd hG, at1_snd hB, at2_snd hC hC2, told_snd hJ, same_snd hJ, at1_snd hR, at1_snd hRG, trivial⟩ hJ trivial ms0_ok Tryz.func3 rfl rfl (Nat.le_of_ble_eq_true rfl) (Nat.le_of_ble_eq_true rfl) drOk3 ?_
      dsimp only [Tryz.f3, dr3, dd3, Option.getD_some]
      refine ev_start ?_
      simp (disch := omega) only [at1_eq, c1, c2, ht, sz, go_sem, evPd, evDg, evDc, evDz, evDn]
end Go.Proofs.YtdmkmbaaemhhhaaGreatDoor
namespace Go.Proofs.YtdmkmbaaemhhhaaGreatDoor
open Go Go.Ev Go.RowKit Go.Acc
set_option maxRecDepth 100000 in
theorem walkBookSays (c0 : V) (h0 : TyV Tryz.prog 9 25 c0) (c1 : V) (h1 : TyV Tryz.prog 9 28 c1) (c2 : V) (h2 : TyV Tryz.prog 9 9 c2) :
    SoundAt Tryz.prog J0 3 [c0, c1, c2] (.bool true) [] := by
  obtain ⟨A, E, s, rfl, hE⟩ := ty_book (m := 3) h0
  obtain ⟨k, d, l, rfl, hk, hl⟩ := ty_entry (m := 5) h1
  obtain ⟨c, rfl, _⟩ := ty_str (m := 8) h2 Tryz.underlying9
  exact books_law stable0 A E s (k, d, l) c hE hk hl
end Go.Proofs.YtdmkmbaaemhhhaaGreatDoor
namespace Go.Proofs.YtdmkmbaaemhhhaaGreatDoor.bookSays
open Go.ChangeShapes Go.WideShapes Go.ChangeAt Go.RowKit Go.Joins
open Go.ChangeMaps (open_string shut_string)
set_option linter.unusedVariables false

theorem own : ownKnob Tryz.prog.godebug = none := by kernel_rfl
theorem laidOut : laidOutB Tryz.prog = true := by kernel_rfl
set_option maxRecDepth 100000 in
theorem contract (H : Type) (enc : TypeId × Value → H) (W : World) (base : Nat) (args : Array Value) (ds gs : List (DataW H)) (before : List MemPlace)
    (hval0 : ∀ (j : Nat) t v, Tryz.f3.params[j]? = some t → args[j]? = some v → Value.okWide Tryz.prog W .any base t v)
    (hW : DataW.Whole enc Tryz.prog Tryz.f3.params.toList Rows.bookSaysSpec.vars false W args.toList ds gs before) (hL : laidMetH Tryz.prog Rows.bookSaysRow.laid W) :
    Calls Tryz.prog 3 args W fun e W' => ∃ v, e = .returned v ∧ Rows.bookSaysSpec.post enc Tryz.prog Tryz.f3 false true false false W args v W' := by
  have hval := hval0
  have hW' := hW
  obtain ⟨p, q, hA0, hV, rfl, hfz, hnd⟩ := hW
  have hA : DataW.TrodAll enc Tryz.prog W 0 (fun _ => true) true Tryz.f3.params.toList args.toList ds p := hA0
  rw [Tryz.params3] at hA hval
  obtain ⟨v0, vs0, d0, ds0, p0, q0, hargs, rfl, rfl, h0, r0⟩ := trodAll_cons hA
  obtain ⟨v1, vs1, d1, ds1, p1, q1, rfl, rfl, rfl, h1, r1⟩ := trodAll_cons r0
  obtain ⟨v2, vs2, d2, ds2, p2, q2, rfl, rfl, rfl, h2, r2⟩ := trodAll_cons r1
  obtain ⟨rfl, rfl, rfl⟩ := trodAll_nil r2
  obtain rfl : args = #[v0, v1, v2] := by cases args; simp_all
  obtain ⟨rfl, rfl⟩ := trodVars_none hV
  have k0 := h0
  have lt0 : ∀ x ∈ p0, x.block < W.heap.size := by obtain ⟨m, hm⟩ := k0; exact DataW.trod_lt m _ _ _ hm
  obtain ⟨c0, rel0, ty0⟩ := Ev.arg_read (m := 9) (by kernel_rfl) (hval 0 25 v0 rfl rfl) h0
  have k1 := h1
  have lt1 : ∀ x ∈ p1, x.block < W.heap.size := by obtain ⟨m, hm⟩ := k1; exact DataW.trod_lt m _ _ _ hm
  obtain ⟨c1, rel1, ty1⟩ := Ev.arg_read (m := 9) (by kernel_rfl) (hval 1 28 v1 rfl rfl) h1
  have k2 := h2
  have lt2 : ∀ x ∈ p2, x.block < W.heap.size := by obtain ⟨m, hm⟩ := k2; exact DataW.trod_lt m _ _ _ hm
  obtain ⟨c2, rel2, ty2⟩ := Ev.arg_read (m := 9) (by kernel_rfl) (hval 2 9 v2 rfl rfl) h2
  clear hA0 hval0
  refine ((walkBookSays c0 ty0 c1 ty1 c2 ty2).calls rfl trivial (vals := [v0, v1, v2]) rfl (Ev.rels_cons rel0 (Ev.rels_cons rel1 (Ev.rels_cons rel2 Ev.rels_nil)))).mono fun e W' ⟨he, bel⟩ => ?_
  subst he
  exact ⟨_, rfl, _, _, _, [], _, [], hW', trodAll_mk1 (shut_bool Tryz.underlying4 _), (trodAll_cons_mk (Below.trod laidOut (by kernel_rfl) (of_decide_eq_true (by kernel_rfl)) k0 bel lt0) (trodAll_cons_mk (Below.trod laidOut (by kernel_rfl) (of_decide_eq_true (by kernel_rfl)) k1 bel lt1) (trodAll_cons_mk (Below.trod laidOut (by kernel_rfl) (of_decide_eq_true (by kernel_rfl)) k2 bel lt2) trodAll_mk0))), rfl, bel.frame _, fun h => by cases h⟩

noncomputable def rangeCells : Array Value := (([128, 191, 160, 191, 128, 159, 144, 191, 128, 143] ++ List.replicate 22 0 : List Int).map (Value.int .u8)).toArray
noncomputable def firstCells : Array Value := ((List.replicate 128 240 ++ List.replicate 66 241 ++ List.replicate 30 2 ++ [19] ++ List.replicate 12 3 ++ [35] ++ List.replicate 2 3 ++ [52] ++ List.replicate 3 4 ++ [68] ++ List.replicate 11 241 : List Int).map (Value.int .u8)).toArray
noncomputable def withCells (cs : Array Value) : Obj → Obj
  | .cells _ t frozen => .cells cs t frozen
  | o => o
noncomputable def laidWorld (os : Os) : World :=
  { World.holding Tryz.prog os ⟨#[], #[], []⟩ with heap := ((World.holding Tryz.prog os ⟨#[], #[], []⟩).heap.modify 6 (withCells rangeCells)).modify 5 (withCells firstCells) }
theorem laid_met (os : Os) : laidMet Tryz.prog Rows.bookSaysRow.laid ((laidWorld os).forCall (fun _ _ => 0) ⟨#[], #[.agg #[.slice none 0 0, .slice none 0 0, .int .i64 0], .agg #[.string ByteArray.empty, .int .i64 0, .slice none 0 0], .string ByteArray.empty], []⟩).memory :=
  laidMet_of_run' 8 (by kernel_rfl) (by kernel_rfl)
theorem reads (os : Os) {H : Type} (enc : TypeId × Value → H) : ∃ places, DataW.whole enc Tryz.prog ((laidWorld os).forCall (fun _ _ => 0) ⟨#[], #[.agg #[.slice none 0 0, .slice none 0 0, .int .i64 0], .agg #[.string ByteArray.empty, .int .i64 0, .slice none 0 0], .string ByteArray.empty], []⟩).memory Tryz.f3.params.toList Rows.bookSaysSpec.vars false (#[.agg #[.slice none 0 0, .slice none 0 0, .int .i64 0], .agg #[.string ByteArray.empty, .int .i64 0, .slice none 0 0], .string ByteArray.empty] : Array Value).toList 8 = some ([.agg [.nil, .nil, .lit (.int .i64 0)], .agg [.lit (.string []), .lit (.int .i64 0), .nil], .lit (.string [])], [], places) :=
  ⟨[], by kernel_rfl⟩

set_option maxRecDepth 100000 in
theorem lifted (os : Os) (started : os.Started) (H : Type) (enc : TypeId × Value → H) (F : Stop.Interp) :
    ReturnsInHanded {} Tryz.checked os 3 .any ((OpenSpec.ofChange Rows.bookSaysSpec).preRow enc Tryz.prog Tryz.f3 Rows.bookSaysRow.domain false Rows.bookSaysRow.laid) (((OpenSpec.ofChange Rows.bookSaysSpec).at F).post enc Tryz.prog Tryz.f3 false true false false) := by
  obtain ⟨places, hx⟩ := reads os enc
  refine returnsInHanded_of_row (C := Tryz.checked) (s := OpenSpec.ofChange Rows.bookSaysSpec) own started (by kernel_rfl) Tryz.func3
    (witness_row_at (enc := enc) (C := Tryz.checked) false (laidWorld os) #[.agg #[.slice none 0 0, .slice none 0 0, .int .i64 0], .agg #[.string ByteArray.empty, .int .i64 0, .slice none 0 0], .string ByteArray.empty] rfl (by kernel_rfl) (by kernel_rfl) (by kernel_rfl)
      (OpenSpec.preRow_of_cond 8 hx (by kernel_rfl) (fun k hk => by cases hk) (by kernel_rfl) (laid_met os))) ?_
  intro W base args ds gs before hval hW _ _ _ hL _ _
  exact contract H enc W base args ds gs before hval hW hL

theorem said : Rows.BookSaysSaid :=
  OpenClaim.holds_of_cond 3 Tryz.f3 rfl rfl rfl rfl rfl rfl rfl ⟨rfl, rfl, rfl, rfl, rfl⟩ rfl rfl rfl rfl rfl (by kernel_rfl) Tryz.func3 (by kernel_rfl)
    (of_decide_eq_true (by kernel_rfl)) (by unfold Func.isWrapper; first | (rw [if_pos (by decide +kernel)]; kernel_rfl) | (rw [if_neg (by decide +kernel)]; exact ⟨rfl, rfl⟩))
    (fun os started H enc _ F => by rw [OpenClaim.pre_eq_preRow]; exact lifted os started H enc F)

theorem plain (f : FuncId) (fn : Func) (hf : Tryz.pinned.checked.prog.funcNamed "tallage/tallaw.BookSays" = some f) (hfn : Tryz.pinned.checked.prog.funcs[f]? = some fn) :
    true = Tryz.pinned.checked.prog.looks [] ∧ ∀ (j : Nat) t, fn.params[j]? = some t → Tryz.pinned.checked.prog.wantsStandIn t = false := by
  obtain rfl : f = 3 := Option.some.inj ((show Tryz.prog.funcNamed "tallage/tallaw.BookSays" = some 3 by kernel_rfl).symm.trans hf) |>.symm
  obtain rfl : fn = Tryz.f3 := (Option.some.inj (Tryz.func3.symm.trans hfn)).symm
  refine ⟨by kernel_rfl, fun j t ht => ?_⟩
  rw [Tryz.params3] at ht
  have hm : t = 25 ∨ t = 28 ∨ t = 9 := by have := Array.mem_of_getElem? ht; simp at this; omega
  rcases hm with rfl | rfl | rfl
  · exact (show Tryz.prog.wantsStandIn 25 = false by kernel_rfl)
  · exact (show Tryz.prog.wantsStandIn 28 = false by kernel_rfl)
  · exact (show Tryz.prog.wantsStandIn 9 = false by kernel_rfl)

/-- THE CARD -/
theorem card : Rows.BookSaysCardSaid :=
  Claim7.holds_tied_plain_at .later [] _ _ _ _ said (fun _ h => by cases h) (by kernel_rfl) (fun _ h => by cases h) bookSays_row_tie rfl ⟨rfl, rfl⟩ (by kernel_rfl) rfl plain (by kernel_rfl)
#print axioms card
end Go.Proofs.YtdmkmbaaemhhhaaGreatDoor.bookSays
