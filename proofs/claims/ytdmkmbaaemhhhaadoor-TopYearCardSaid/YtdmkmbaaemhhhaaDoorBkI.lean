/-
  Books, run by the machine: copies, Balance, Shut.
-/
import Derived.Test.YtdmkmbaaemhhhaaDoorBkH
namespace Go.Proofs.YtdmkmbaaemhhhaaDoor
open Go Go.Ev Go.RowKit Go.Acc
set_option maxHeartbeats 4000000
set_option linter.unusedSimpArgs false
set_option linter.unusedVariables false
attribute [local go_sem] mutV getB mvB bkB V.mv V.mvL V.bk V.bkL Blk.mv Blk.bk posN nmN backN noDup app_writes setHL_nil setHL_cons postM_ret postM_normal resM hasB_nil hasB_cons St.mut names_nil names_cons sortV cellOf mkX_M mkX_S mkX_ln lnL_at ms0_mt ms0_st V.lone V.loneL List.zip_cons_cons List.zip_nil_left Option.isNone_none bornV subE partR unB bytesW boundsV ownP sliceW copyV clearV lenM takeV tk1 mapsV mkMapV hintOk lookV updV mapKE keyOk V.key app_lend callW_fn lendV postL_ret postL_normal postT_ret postT_normal takeR St.lent mkX_L bin_eql_vz bin_eql_zv bin_eql_rz bin_eql_zr bin_eql_zz bin_neq_vz bin_neq_zv bin_neq_rz bin_neq_zr bin_neq_zz eqH nilEq nonE plainI gOf_bool gOf_skip g_some g_none Int.ofNat_zero Int.cast_ofNat_Int Bool.false_and Bool.and_false sliceV noBox elemsZ V.scrub V.scrubL Blk.scrub appendV isSlice maxLen_eq leT List.contains_nil List.contains_cons nvL_at fzL_at fillV V.plain V.plainL Blk.plain List.size_toArray mapO_nil mapO_cons Option.isNone_some beqT beqF oI_not mkX_e phi_nil phi_cons bin_eql_bool bin_neq_bool bin_eql_agg bin_neq_agg eqV eqFs eqK_int eqK_bool' eqK_str mkX_T mkX_Φ mkX_n mkX_f mkX_d mkX_r nv0_at fz0_at evQ_dr evP_W evW_nil evW_cons evW_guard okW_eq tame_none tame_new tame_write wb_none wb_new wb_write okU_some offW_none offW_some touchOf V.noRef V.noRefL Option.isSome_some Option.isSome_none mild_none mild_new Option.getD_some Option.getD_none evQ_seq evQ_region evQ_block evQ_cond evQ_ret evQ_skip evQ_exit evO_cons evO_nil evO_guard freezeL_nil oS_some oS_none oS_ite oS_ite' oB_bool oI_true oI_false oE_normal oE_exit oE_ret bQ_normal bQ_ret bQ_exit lQ_normal lQ_ret lQ_exit List.zipIdx_cons List.zipIdx_nil List.map_cons List.map_nil evalOp opd_const opd_tmp opd_func ofC_int ofC_bool ofC_str ofC_nil app_none app_new app_write app_change putE_some putE_none setA_cons setA_nil setH_cons setH_nil mapA_cons mapA_nil look_cons look_nil e_mk h_mk drop_nil drop_mk keep_mk dstOk_some dstOk_none guardT_eq true_and and_true Bool.not_false Bool.not_true selB_true selB_false mem_nil mem_cons kpL_nil kpL_cons drL_nil drL_cons closed_mk V.refsIn V.refsInL Blk.refsIn List.all_cons List.all_nil lenV bin_add bin_sub bin_mul bin_quo bin_rem bin_eql bin_neq bin_lss bin_leq bin_gtr bin_geq un_neg un_not post_ret post_normal St.init Bool.false_eq_true List.length_map Bool.or_false Bool.or_true Bool.false_or Bool.true_or beq_self_eq_true Option.map_some Option.map_none Option.bind_some List.getElem?_cons_zero List.getElem?_cons_succ scalar stor isAggV V.cells List.cons_append List.nil_append if_true if_false wrap_of callV V.dataL V.data Bool.and_true Bool.true_and fresh names V.ren V.renL retV resV packL packV packC getBlks wrapR subV putV decide_true decide_false TK.agg List.length_cons List.length_nil List.take_succ_cons List.take_zero List.drop_succ_cons List.drop_zero List.take_nil List.drop_nil Nat.zero_add Nat.add_zero List.append_nil List.getElem?_nil elemsV ro ro0 ro1 roC ty1 ty2 ty3 ty4 ty5 ty6 ty7 ty8 ty9 ty10 ty11 ty12 ty13 ty14 ty15 ty16 ty17 ty18 ty19 ty21 ty22 ty23 ty24 ty26 ty27 ty28 ty29 ty30 ty31 ty32 ty33 ty34 ty35 ty36 ty37 ty38 ty39 ty40 ty41 ty42 ty44 ty45 ty47 ty49 ty51 ty53 ty54 ty55 ty56 ty57 ty58 ty59 ty60 ty61 ty62 ty63 ty64 ty65 ty66 ty67 ty68 ty69 ty70 ty71 ty72 ty73 ty74 ty75 ty76 ty77 ty78 ty79 ty80 ty81 ty82 ty83 ty84 ty85 ty86 ty87 ty88 ty89 ty90 ty92 ty93 ty94 ty95 ty96 ty97 ty98 ty99 ty100 ty101 ty102 ty103 ty104 ty105 ty107 ty108 ty109 ty110 ty111 ty112 ty113 ty114 ty115 ty116 ty117 ty118 ty119 ty123 ty124 ty125 ty126 ty127 ty128 ty129 ty130 ty131 ty132 ty133 ty135 ty136 ty137 ty138 ty139 ty141 ty142 ty143 ty144 ty146 ty147 ty148 ty149 ty153 ty154 ty155 ty156 ty157 ty158 ty159 ty160 ty161 eqs29 eqs61 eqs79 eqs94
theorem sound_res {P : Program} {J : World → Prop} {f : FuncId} {args : List V} {r r' : V} (h : SoundAt P J f args r []) (hd : V.data r = true) (hr : ∀ (w : World) (ok : Nat → Prop) val, RelD w ok r val → RelD w ok r' val) : SoundAt P J f args r' [] := by
  refine ⟨h.1, fun w ok us hJ hok hlen hrel => (h.2 w ok us hJ hok hlen hrel).mono ?_⟩
  rintro e w' ⟨val, ρr, he, hb, hi, hrr⟩
  exact ⟨val, ρr, he, hb, hi, .ro (hr _ _ _ (hrr.toD hd))⟩
theorem zero_row (sz : Nat) (w : World) (ok : Nat → Prop) (val : Value) (h : RelD w ok .zero val) : RelD w ok (.row sz []) val := by
  cases h
  exact .nil _ _
theorem bin_eql_rawz (v : Value) : binV .eql (.raw v) .zero = none := rfl
/-- a function of one empty row: nil, or not nil -/
theorem sound_empty {P : Program} {J : World → Prop} {f : FuncId} {sz : Nat} {r : V} {bs : List Blk} (h0 : SoundAt P J f [.zero] r bs) (h1 : ∀ a c, SoundAt P J f [.raw (.slice (some a) 0 c)] r bs) : SoundAt P J f [.row sz []] r bs := by
  refine ⟨h0.1, fun w ok us hJ hok hlen hrel => ?_⟩
  match us, hlen with
  | [u], _ =>
    have hu := hrel 0 _ u rfl rfl
    cases hu with
    | nil _ a =>
      cases a with
      | none =>
        exact h0.2 w ok _ hJ hok rfl fun j c v hc hv => by
          match j with
          | 0 => simp at hc hv; subst hc; subst hv; exact .zero
          | j + 1 => simp at hc
      | some a =>
        exact (h1 a 0).2 w ok _ hJ hok rfl fun j c v hc hv => by
          match j with
          | 0 => simp at hc hv; subst hc; subst hv; exact .raw _
          | j + 1 => simp at hc
    | row _ _ g o cap vs =>
      exact (h1 ⟨g, o, none⟩ cap).2 w ok _ hJ hok rfl fun j c v hc hv => by
          match j with
          | 0 => simp at hc hv; subst hc; subst hv; exact .raw _
          | j + 1 => simp at hc
def cloneF : List V → Option (V × List Blk)
  | [.row 2 es] => if es.length ≤ 1000 then (unAc es).map fun l => (.row 2 (l.map acV), []) else none
  | _ => none
theorem cloneF_eq (l : List (ByteArray × Int)) (hl : l.length ≤ 1000) : cloneF [.row 2 (l.map acV)] = some (.row 2 (l.map acV), []) := by
  simp only [cloneF, unAc_map, Option.map_some]
  exact if_pos (by rw [List.length_map]; exact hl)
theorem cloneL_sound {J : World → Prop} (hJ : Stable J) (l : List (ByteArray × Int)) (hl : l.length ≤ 1000) : SoundAt Tryd.prog J 45 [.row 2 (l.map acV)] (.row 2 (l.map acV)) [] := by
  cases l with
  | nil =>
    refine sound_empty ?_ (fun a c => ?_)
    · refine sound_res (r := .zero) ?_ rfl (zero_row 2)
      refine evFn (l := []) (nv := nv0) (fz := fzL [(2, [40])]) (dr := dr45) (dd := dd45) (lam := []) (ms := ms0) trivial hJ trivial ms0_ok Tryd.func45 rfl rfl (Nat.le_of_ble_eq_true rfl) (Nat.le_of_ble_eq_true rfl) drOk45 ?_
      dsimp only [Tryd.f45, dr45, dd45, Option.getD_some]
      refine ev_start ?_
      simp (disch := omega) only [bin_eql_rawz, freezeL, St.freeze, List.filter_cons, List.filter_nil, bne, go_sem, Int.reduceEq, Int.reduceLT, Int.reduceLE, Int.reduceNeg, Nat.reduceAdd, Nat.reduceLT, Nat.reduceEqDiff, Nat.reduceMul, Nat.reduceLeDiff, reduceIte, Nat.reduceBEq, reduceCtorEq, evP_D, evD_guard, evD_cons, evD_zero, evD_nil]
    · skip
      refine evFn (l := []) (nv := nv0) (fz := fzL [(2, [40])]) (dr := dr45) (dd := dd45) (lam := []) (ms := ms0) trivial hJ trivial ms0_ok Tryd.func45 rfl rfl (Nat.le_of_ble_eq_true rfl) (Nat.le_of_ble_eq_true rfl) drOk45 ?_
      dsimp only [Tryd.f45, dr45, dd45, Option.getD_some]
      refine ev_start ?_
      simp (disch := omega) only [bin_eql_rawz, freezeL, St.freeze, List.filter_cons, List.filter_nil, bne, go_sem, Int.reduceEq, Int.reduceLT, Int.reduceLE, Int.reduceNeg, Nat.reduceAdd, Nat.reduceLT, Nat.reduceEqDiff, Nat.reduceMul, Nat.reduceLeDiff, reduceIte, Nat.reduceBEq, reduceCtorEq, evP_D, evD_guard, evD_cons, evD_zero, evD_nil]
  | cons p l =>
    refine evFn (l := []) (nv := nv0) (fz := fzL [(2, [40])]) (dr := dr45) (dd := dd45) (lam := []) (ms := ms0) trivial hJ trivial ms0_ok Tryd.func45 rfl rfl (Nat.le_of_ble_eq_true rfl) (Nat.le_of_ble_eq_true rfl) drOk45 ?_
    dsimp only [Tryd.f45, dr45, dd45, Option.getD_some]
    refine ev_start ?_
    have h1 : 0 < l.length + 1 := by omega
    rw [List.length_cons] at hl
    simp (disch := omega) only [h1, List.length_map, List.length_cons, freezeL, St.freeze, List.filter_cons, List.filter_nil, bne, go_sem, Int.reduceEq, Int.reduceLT, Int.reduceLE, Int.reduceNeg, Nat.reduceAdd, Nat.reduceLT, Nat.reduceEqDiff, Nat.reduceMul, Nat.reduceLeDiff, reduceIte, Nat.reduceBEq, reduceCtorEq, evP_D, evD_guard, evD_cons, evD_zero, evD_nil]
theorem cloneL_snd {J : World → Prop} (hJ : Stable J) : Snd Tryd.prog J 45 cloneF := by
  intro args r bs h
  unfold cloneF at h
  split at h
  · rename_i es
    split at h
    · rename_i hc
      simp only [Option.map_eq_some_iff] at h
      obtain ⟨l, hl, h⟩ := h
      obtain ⟨rfl, rfl⟩ := some_pair (congrArg some h)
      have e := unAc_eq hl
      subst e
      exact cloneL_sound hJ l (by simpa using hc)
    · cases h
  · cases h
theorem cloneA_sound {J : World → Prop} (hJ : Stable J) (l : List (ByteArray × Int)) (hl : l.length ≤ 1000) : SoundAt Tryd.prog J 77 [.row 2 (l.map acV)] (.row 2 (l.map acV)) [] := by
  cases l with
  | nil =>
    refine sound_empty ?_ (fun a c => ?_)
    · refine sound_res (r := .zero) ?_ rfl (zero_row 2)
      refine evFn (l := []) (nv := nv0) (fz := fzL [(2, [40])]) (dr := dr77) (dd := dd77) (lam := []) (ms := ms0) trivial hJ trivial ms0_ok Tryd.func77 rfl rfl (Nat.le_of_ble_eq_true rfl) (Nat.le_of_ble_eq_true rfl) drOk77 ?_
      dsimp only [Tryd.f77, dr77, dd77, Option.getD_some]
      refine ev_start ?_
      simp (disch := omega) only [bin_eql_rawz, freezeL, St.freeze, List.filter_cons, List.filter_nil, bne, go_sem, Int.reduceEq, Int.reduceLT, Int.reduceLE, Int.reduceNeg, Nat.reduceAdd, Nat.reduceLT, Nat.reduceEqDiff, Nat.reduceMul, Nat.reduceLeDiff, reduceIte, Nat.reduceBEq, reduceCtorEq, evP_D, evD_guard, evD_cons, evD_zero, evD_nil]
    · skip
      refine evFn (l := []) (nv := nv0) (fz := fzL [(2, [40])]) (dr := dr77) (dd := dd77) (lam := []) (ms := ms0) trivial hJ trivial ms0_ok Tryd.func77 rfl rfl (Nat.le_of_ble_eq_true rfl) (Nat.le_of_ble_eq_true rfl) drOk77 ?_
      dsimp only [Tryd.f77, dr77, dd77, Option.getD_some]
      refine ev_start ?_
      simp (disch := omega) only [bin_eql_rawz, freezeL, St.freeze, List.filter_cons, List.filter_nil, bne, go_sem, Int.reduceEq, Int.reduceLT, Int.reduceLE, Int.reduceNeg, Nat.reduceAdd, Nat.reduceLT, Nat.reduceEqDiff, Nat.reduceMul, Nat.reduceLeDiff, reduceIte, Nat.reduceBEq, reduceCtorEq, evP_D, evD_guard, evD_cons, evD_zero, evD_nil]
  | cons p l =>
    refine evFn (l := []) (nv := nv0) (fz := fzL [(2, [40])]) (dr := dr77) (dd := dd77) (lam := []) (ms := ms0) trivial hJ trivial ms0_ok Tryd.func77 rfl rfl (Nat.le_of_ble_eq_true rfl) (Nat.le_of_ble_eq_true rfl) drOk77 ?_
    dsimp only [Tryd.f77, dr77, dd77, Option.getD_some]
    refine ev_start ?_
    have h1 : 0 < l.length + 1 := by omega
    rw [List.length_cons] at hl
    simp (disch := omega) only [h1, List.length_map, List.length_cons, freezeL, St.freeze, List.filter_cons, List.filter_nil, bne, go_sem, Int.reduceEq, Int.reduceLT, Int.reduceLE, Int.reduceNeg, Nat.reduceAdd, Nat.reduceLT, Nat.reduceEqDiff, Nat.reduceMul, Nat.reduceLeDiff, reduceIte, Nat.reduceBEq, reduceCtorEq, evP_D, evD_guard, evD_cons, evD_zero, evD_nil]
theorem cloneA_snd {J : World → Prop} (hJ : Stable J) : Snd Tryd.prog J 77 cloneF := by
  intro args r bs h
  unfold cloneF at h
  split at h
  · rename_i es
    split at h
    · rename_i hc
      simp only [Option.map_eq_some_iff] at h
      obtain ⟨l, hl, h⟩ := h
      obtain ⟨rfl, rfl⟩ := some_pair (congrArg some h)
      have e := unAc_eq hl
      subst e
      exact cloneA_sound hJ l (by simpa using hc)
    · cases h
  · cases h
def cpS (A : List (ByteArray × Int)) (E : List En) (s : Int) : Nat → St
  | 0 => ⟨[(2, .ptr 16 0), (3, .ptr 24 0), (13, .row 3 (E.map enW)), (14, .int .i64 E.length), (15, .int .i64 0)], [(16, .box (.agg [.zero, .zero, .int .i64 0])), (24, .box (.agg [.row 2 (A.map acV), .zero, .int .i64 s]))]⟩
  | k + 1 => ⟨[(2, .ptr 16 0), (3, .ptr 24 0), (13, .row 3 (E.map enW)), (14, .int .i64 E.length), (15, .int .i64 ((k + 1 : Nat) : Int))], [(16, .box (.agg [.zero, .zero, .int .i64 0])), (24, .box (.agg [.row 2 (A.map acV), .vec 216, .int .i64 s])), (216, .vec 34 3 ((E.take (k + 1)).map enW))]⟩
theorem take_enW {E : List En} {k : Nat} {x : En} (h : E[k]? = some x) : (E.take (k + 1)).map enW = (E.take k).map enW ++ [enW x] := by
  have hlt : k < E.length := (List.getElem?_eq_some_iff.1 h).1
  have he : E[k] = x := (List.getElem?_eq_some_iff.1 h).2
  rw [List.take_succ_eq_append_getElem hlt, he, List.map_append]
  rfl
set_option maxHeartbeats 4000000 in
theorem copied_raw {J : World → Prop} (hJ : Stable J) (A : List (ByteArray × Int)) (E : List En) (s : Int) (hA : A.length ≤ 24) (hE : ∀ x ∈ E, x.2.2.length ≤ 12) (hl : E.length ≤ 60) : SoundAt Tryd.prog J 40 [bkV A E s] (.agg [.row 2 (A.map acV), if E = [] then .zero else .row 3 (E.map enW), .int .i64 s]) [] := by
  unfold bkV
  refine evFn (l := [(45, cloneF), (77, cloneF)]) (nv := nv0) (fz := fzL [(30, [216])]) (dr := dr40) (dd := dd40) (lam := []) (ms := ms0) ⟨cloneL_snd hJ, cloneA_snd hJ, trivial⟩ hJ trivial ms0_ok Tryd.func40 rfl rfl (Nat.le_of_ble_eq_true rfl) (Nat.le_of_ble_eq_true rfl) drOk40 ?_
  dsimp only [Tryd.f40, dr40, dd40, Option.getD_some]
  refine ev_start ?_
  have hcA := cloneF_eq A (by omega)
  simp (disch := omega) only [List.length_map, hcA, freezeL, go_sem, Int.reduceEq, Int.reduceLT, Int.reduceLE, Int.reduceNeg, Nat.reduceAdd, Nat.reduceLT, Nat.reduceEqDiff, Nat.reduceMul, Nat.reduceLeDiff, reduceIte, Nat.reduceBEq, reduceCtorEq, evP_D, evD_guard, evD_cons, evD_zero, evD_nil]
  refine evQ_loop [2, 3, 13, 14, 15] [16, 24, 216] (fun σ => ∃ (k : Nat), k ≤ E.length ∧ σ = cpS A E s k)
    (fun σ => E.length - (match Ev.look 15 σ.env with | some (.int _ n) => n.toNat | _ => 0)) ?_ ?_
  · simp only [go_sem, Int.reduceEq, Int.reduceLT, Int.reduceLE, Int.reduceNeg, Nat.reduceAdd, Nat.reduceLT, Nat.reduceEqDiff, Nat.reduceMul, Nat.reduceLeDiff, reduceIte, Nat.reduceBEq, reduceCtorEq, evP_D, evD_guard, evD_cons, evD_zero, evD_nil]
    exact ⟨0, Nat.zero_le _, rfl⟩
  · rintro σ ⟨k, hkl, rfl⟩
    by_cases hlt : k < E.length
    · have hlt' : (k : Int) < E.length := by omega
      obtain ⟨⟨c, d, l⟩, hcn⟩ : ∃ p, E[k]? = some p := ⟨_, List.getElem?_eq_getElem hlt⟩
      have hcl := cloneF_eq l (by have := hE _ (List.mem_of_getElem? hcn); simp only at this; omega)
      have hg := enW_get hcn
      have ht := take_enW hcn
      have hms : E.length - ((k : Int) + 1).toNat < E.length - (k : Int).toNat := by
        have e3 : ((k : Int) + 1).toNat = k + 1 := by omega
        rw [e3, Int.toNat_natCast]; exact Nat.sub_lt_sub_left hlt (Nat.lt_succ_self k)
      cases k with
      | zero =>
        have z0 : ((0 : Nat) : Int) = 0 := rfl
        have hi0 := idx_nat E.length 0 hlt
        rw [z0] at hlt' hi0 hms
        unfold cpS
        simp (disch := (first | omega | assumption)) only [hlt', hi0, List.length_map, hg, hcl, freezeL, go_sem, Int.reduceEq, Int.reduceLT, Int.reduceLE, Int.reduceNeg, Nat.reduceAdd, Nat.reduceLT, Nat.reduceEqDiff, Nat.reduceMul, Nat.reduceLeDiff, reduceIte, Nat.reduceBEq, reduceCtorEq, evP_D, evD_guard, evD_cons, evD_zero, evD_nil]
        exact ⟨⟨1, hlt, by simp only [cpS, ht]; rfl⟩, hms⟩
      | succ k =>
        have hlk : (E.take (k + 1)).length = k + 1 := by rw [List.length_take]; omega
        unfold cpS
        simp (disch := (first | omega | assumption)) only [hlt', idx_nat, List.length_map, hlk, List.length_append, List.length_cons, List.length_nil, hg, hcl, freezeL, go_sem, Int.reduceEq, Int.reduceLT, Int.reduceLE, Int.reduceNeg, Nat.reduceAdd, Nat.reduceLT, Nat.reduceEqDiff, Nat.reduceMul, Nat.reduceLeDiff, reduceIte, Nat.reduceBEq, reduceCtorEq, evP_D, evD_guard, evD_cons, evD_zero, evD_nil]
        exact ⟨⟨k + 2, hlt, by simp only [cpS, ht]; rfl⟩, hms⟩
    · have hk' : k = E.length := by omega
      subst hk'
      have hlt' : ¬ ((E.length : Int) < E.length) := by omega
      cases hE0 : E with
      | nil =>
        have hlt'' : ¬ ((0 : Int) < 0) := by omega
        unfold cpS
        simp (disch := (first | omega | assumption)) only [List.length_nil, hlt'', freezeL, St.freeze, List.filter_cons, List.filter_nil, bne, if_true, go_sem, Int.reduceEq, Int.reduceLT, Int.reduceLE, Int.reduceNeg, Nat.reduceAdd, Nat.reduceLT, Nat.reduceEqDiff, Nat.reduceMul, Nat.reduceLeDiff, reduceIte, Nat.reduceBEq, reduceCtorEq, evP_D, evD_guard, evD_cons, evD_zero, evD_nil]
      | cons x r =>
        have hlt'' : ¬ (((r.length + 1 : Nat) : Int) < ((r.length + 1 : Nat) : Int)) := by omega
        have htk : (x :: r).take (r.length + 1) = x :: r := List.take_length (l := x :: r)
        simp only [List.length_cons, cpS]
        simp (disch := (first | omega | assumption)) only [hlt'', htk, freezeL, St.freeze, List.filter_cons, List.filter_nil, bne, reduceCtorEq, if_false, go_sem, Int.reduceEq, Int.reduceLT, Int.reduceLE, Int.reduceNeg, Nat.reduceAdd, Nat.reduceLT, Nat.reduceEqDiff, Nat.reduceMul, Nat.reduceLeDiff, reduceIte, Nat.reduceBEq, reduceCtorEq, evP_D, evD_guard, evD_cons, evD_zero, evD_nil]
theorem copied_sound {J : World → Prop} (hJ : Stable J) (A : List (ByteArray × Int)) (E : List En) (s : Int) (hA : A.length ≤ 24) (hE : ∀ x ∈ E, x.2.2.length ≤ 12) (hl : E.length ≤ 60) : SoundAt Tryd.prog J 40 [bkV A E s] (bkV A E s) [] := by
  refine sound_res (copied_raw hJ A E s hA hE hl) ?_ fun w ok val hv => ?_
  · split <;> rfl
  · by_cases h0 : E = []
    · subst h0
      rw [if_pos rfl] at hv
      cases hv with
      | agg cs vs hlen h1 hh =>
        refine .agg _ vs (by simpa using hlen) h1 fun j c v hc hv => ?_
        match j with
        | 0 => exact hh 0 c v hc hv
        | 1 => simp at hc; subst hc; exact zero_row 3 _ _ _ (hh 1 .zero v rfl hv)
        | 2 => exact hh 2 c v hc hv
        | j + 3 => simp at hc
    · rw [if_neg h0] at hv
      exact hv
def okB (A : List (ByteArray × Int)) (E : List En) (s : Int) : Prop := bkChk A E s = 0
theorem acChk_len {A : List (ByteArray × Int)} (h : acChk A = 0) : A.length ≤ 24 := by
  unfold acChk at h
  by_cases h1 : 24 < A.length
  · rw [if_pos h1] at h; omega
  · omega
def balE (A : List (ByteArray × Int)) (E : List En) (s : Int) (c : ByteArray) (day : Int) : Int := if bkChk A E s ≠ 0 then bkChk A E s else if hasA A c = false then 4 else if ¬ (0 ≤ day ∧ day ≤ 292193) then 1 else 0
def balN (A : List (ByteArray × Int)) (E : List En) (s : Int) (c : ByteArray) (day : Int) : Int := if balE A E s c day = 0 then ofB c 0 day E else 0
theorem balance_sound {J : World → Prop} (hJ : Stable J) (A : List (ByteArray × Int)) (E : List En) (s : Int) (c : ByteArray) (day : Int) (hE : E.length ≤ maxLen) : SoundAt Tryd.prog J 39 [bkV A E s, .str c, .int .i64 day] (.tup [.int .i64 (balN A E s c day), .int .i64 (balE A E s c day)]) [] := by
  have hB := bcheck_sound hJ A E s hE
  by_cases hz : bkChk A E s = 0
  · have hk := bkChk_ok hz
    have hO := of_sound hJ A E s c 0 day (fun x hx => (hk.2.2.2 x hx).1) hk.2.2.1
    unfold bkV at hB hO ⊢
    refine evFn (l := [(20, at1 _ (.int .i64 (bkChk A E s), [])), (76, findF), (21, dayF), (42, at1 _ (.int .i64 (ofB c 0 day E), []))]) (nv := nv0) (fz := fz0) (dr := dr39) (dd := dd39) (lam := []) (ms := ms0) ⟨at1_snd hB, find_snd hJ, is_snd hJ, at1_snd hO, trivial⟩ hJ trivial ms0_ok Tryd.func39 rfl rfl (Nat.le_of_ble_eq_true rfl) (Nat.le_of_ble_eq_true rfl) drOk39 ?_
    dsimp only [Tryd.f39, dr39, dd39, Option.getD_some]
    refine ev_start ?_
    have hf := fidx_neg c A
    cases hh : hasA A c with
    | false =>
      rw [hh] at hf
      have hf' : fidx c A < 0 := of_decide_eq_true hf
      have e1 : balE A E s c day = 4 := by unfold balE; rw [if_neg (fun h => h hz), if_pos hh]
      have e2 : balN A E s c day = 0 := by unfold balN; rw [e1]; rfl
      simp (disch := omega) only [at1_eq, findF_eq, hz, hf', e1, e2, go_sem, Int.reduceEq, Int.reduceLT, Int.reduceLE, Int.reduceNeg, Nat.reduceAdd, Nat.reduceLT, Nat.reduceEqDiff, Nat.reduceMul, Nat.reduceLeDiff, reduceIte, Nat.reduceBEq, reduceCtorEq, evP_D, evD_guard, evD_cons, evD_zero, evD_nil]
    | true =>
      rw [hh] at hf
      have hf' : ¬ fidx c A < 0 := of_decide_eq_false hf
      by_cases hd : 0 ≤ day ∧ day ≤ 292193
      · have hd' := decide_eq_true hd
        have e1 : balE A E s c day = 0 := by unfold balE; rw [if_neg (fun h => h hz), if_neg (by rw [hh]; simp), if_neg (fun h => h hd)]
        have e2 : balN A E s c day = ofB c 0 day E := by unfold balN; rw [e1]; rfl
        simp (disch := omega) only [at1_eq, findF_eq, dayF_eq, hz, hf', hd', e1, e2, go_sem, Int.reduceEq, Int.reduceLT, Int.reduceLE, Int.reduceNeg, Nat.reduceAdd, Nat.reduceLT, Nat.reduceEqDiff, Nat.reduceMul, Nat.reduceLeDiff, reduceIte, Nat.reduceBEq, reduceCtorEq, evP_D, evD_guard, evD_cons, evD_zero, evD_nil]
      · have hd' := decide_eq_false hd
        have e1 : balE A E s c day = 1 := by unfold balE; rw [if_neg (fun h => h hz), if_neg (by rw [hh]; simp), if_pos hd]
        have e2 : balN A E s c day = 0 := by unfold balN; rw [e1]; rfl
        simp (disch := omega) only [at1_eq, findF_eq, dayF_eq, hz, hf', hd', e1, e2, go_sem, Int.reduceEq, Int.reduceLT, Int.reduceLE, Int.reduceNeg, Nat.reduceAdd, Nat.reduceLT, Nat.reduceEqDiff, Nat.reduceMul, Nat.reduceLeDiff, reduceIte, Nat.reduceBEq, reduceCtorEq, evP_D, evD_guard, evD_cons, evD_zero, evD_nil]
  · have e1 : balE A E s c day = bkChk A E s := by unfold balE; rw [if_pos hz]
    have e2 : balN A E s c day = 0 := by unfold balN; rw [e1, if_neg hz]
    unfold bkV at hB ⊢
    refine evFn (l := [(20, at1 _ (.int .i64 (bkChk A E s), []))]) (nv := nv0) (fz := fz0) (dr := dr39) (dd := dd39) (lam := []) (ms := ms0) ⟨at1_snd hB, trivial⟩ hJ trivial ms0_ok Tryd.func39 rfl rfl (Nat.le_of_ble_eq_true rfl) (Nat.le_of_ble_eq_true rfl) drOk39 ?_
    dsimp only [Tryd.f39, dr39, dd39, Option.getD_some]
    refine ev_start ?_
    simp (disch := omega) only [at1_eq, hz, e1, e2, go_sem, Int.reduceEq, Int.reduceLT, Int.reduceLE, Int.reduceNeg, Nat.reduceAdd, Nat.reduceLT, Nat.reduceEqDiff, Nat.reduceMul, Nat.reduceLeDiff, reduceIte, Nat.reduceBEq, reduceCtorEq, evP_D, evD_guard, evD_cons, evD_zero, evD_nil]
def shutE (A : List (ByteArray × Int)) (E : List En) (s : Int) (day : Int) : Int := if bkChk A E s ≠ 0 then bkChk A E s else if ¬ (0 ≤ day ∧ day ≤ 292193) then 1 else if day < s then 9 else 0
def zbV : V := .agg [.zero, .zero, .int .i64 0]
theorem shut_sound {J : World → Prop} (hJ : Stable J) (A : List (ByteArray × Int)) (E : List En) (s : Int) (day : Int) (hE : E.length ≤ maxLen) : SoundAt Tryd.prog J 43 [bkV A E s, .int .i64 day] (.tup [if shutE A E s day = 0 then bkV A E day else zbV, .int .i64 (shutE A E s day)]) [] := by
  have hB := bcheck_sound hJ A E s hE
  by_cases hz : bkChk A E s = 0
  · have hk := bkChk_ok hz
    have hC := copied_sound hJ A E s (acChk_len hk.1) (fun x hx => (enX_ok (hk.2.2.2 x hx).1).2.1) hk.2.2.1
    unfold bkV at hB hC ⊢
    refine evFn (l := [(20, at1 _ (.int .i64 (bkChk A E s), [])), (21, dayF), (40, at1 _ (.agg [.row 2 (A.map acV), .row 3 (E.map enW), .int .i64 s], []))]) (nv := nv0) (fz := fz0) (dr := dr43) (dd := dd43) (lam := []) (ms := ms0) ⟨at1_snd hB, is_snd hJ, at1_snd hC, trivial⟩ hJ trivial ms0_ok Tryd.func43 rfl rfl (Nat.le_of_ble_eq_true rfl) (Nat.le_of_ble_eq_true rfl) drOk43 ?_
    dsimp only [Tryd.f43, dr43, dd43, Option.getD_some]
    refine ev_start ?_
    by_cases hd : 0 ≤ day ∧ day ≤ 292193
    · have hd' := decide_eq_true hd
      by_cases hs : day < s
      · have e1 : shutE A E s day = 9 := by unfold shutE; rw [if_neg (fun h => h hz), if_neg (fun h => h hd), if_pos hs]
        have e0 : ¬ (9 : Int) = 0 := by omega
        simp (disch := omega) only [at1_eq, dayF_eq, hz, hd', hs, e1, e0, if_false, zbV, go_sem, Int.reduceEq, Int.reduceLT, Int.reduceLE, Int.reduceNeg, Nat.reduceAdd, Nat.reduceLT, Nat.reduceEqDiff, Nat.reduceMul, Nat.reduceLeDiff, reduceIte, Nat.reduceBEq, reduceCtorEq, evP_D, evD_guard, evD_cons, evD_zero, evD_nil]
      · have e1 : shutE A E s day = 0 := by unfold shutE; rw [if_neg (fun h => h hz), if_neg (fun h => h hd), if_neg hs]
        simp (disch := omega) only [at1_eq, dayF_eq, hz, hd', hs, e1, if_true, go_sem, Int.reduceEq, Int.reduceLT, Int.reduceLE, Int.reduceNeg, Nat.reduceAdd, Nat.reduceLT, Nat.reduceEqDiff, Nat.reduceMul, Nat.reduceLeDiff, reduceIte, Nat.reduceBEq, reduceCtorEq, evP_D, evD_guard, evD_cons, evD_zero, evD_nil]
    · have hd' := decide_eq_false hd
      have e1 : shutE A E s day = 1 := by unfold shutE; rw [if_neg (fun h => h hz), if_pos hd]
      have e0 : ¬ (1 : Int) = 0 := by omega
      simp (disch := omega) only [at1_eq, dayF_eq, hz, hd', e1, e0, if_false, zbV, go_sem, Int.reduceEq, Int.reduceLT, Int.reduceLE, Int.reduceNeg, Nat.reduceAdd, Nat.reduceLT, Nat.reduceEqDiff, Nat.reduceMul, Nat.reduceLeDiff, reduceIte, Nat.reduceBEq, reduceCtorEq, evP_D, evD_guard, evD_cons, evD_zero, evD_nil]
  · have e1 : shutE A E s day = bkChk A E s := by unfold shutE; rw [if_pos hz]
    unfold bkV at hB ⊢
    refine evFn (l := [(20, at1 _ (.int .i64 (bkChk A E s), []))]) (nv := nv0) (fz := fz0) (dr := dr43) (dd := dd43) (lam := []) (ms := ms0) ⟨at1_snd hB, trivial⟩ hJ trivial ms0_ok Tryd.func43 rfl rfl (Nat.le_of_ble_eq_true rfl) (Nat.le_of_ble_eq_true rfl) drOk43 ?_
    dsimp only [Tryd.f43, dr43, dd43, Option.getD_some]
    refine ev_start ?_
    simp (disch := omega) only [at1_eq, hz, e1, if_false, zbV, go_sem, Int.reduceEq, Int.reduceLT, Int.reduceLE, Int.reduceNeg, Nat.reduceAdd, Nat.reduceLT, Nat.reduceEqDiff, Nat.reduceMul, Nat.reduceLeDiff, reduceIte, Nat.reduceBEq, reduceCtorEq, evP_D, evD_guard, evD_cons, evD_zero, evD_nil]
end Go.Proofs.YtdmkmbaaemhhhaaDoor
