/-
  Codes and accounts, run by the machine.
-/
import Derived.Test.YtdmkmbaaemhhhaaDoorAcP
namespace Go.Proofs.YtdmkmbaaemhhhaaDoor
open Go Go.Ev Go.RowKit Go.Acc
set_option maxHeartbeats 4000000
set_option linter.unusedSimpArgs false
set_option linter.unusedVariables false
attribute [local go_sem] mutV getB mvB bkB V.mv V.mvL V.bk V.bkL Blk.mv Blk.bk posN nmN backN noDup app_writes setHL_nil setHL_cons postM_ret postM_normal resM hasB_nil hasB_cons St.mut names_nil names_cons sortV cellOf mkX_M mkX_S mkX_ln lnL_at ms0_mt ms0_st V.lone V.loneL List.zip_cons_cons List.zip_nil_left Option.isNone_none bornV subE partR unB bytesW boundsV ownP sliceW copyV clearV lenM takeV tk1 mapsV mkMapV hintOk lookV updV mapKE keyOk V.key app_lend callW_fn lendV postL_ret postL_normal postT_ret postT_normal takeR St.lent mkX_L bin_eql_vz bin_eql_zv bin_eql_rz bin_eql_zr bin_eql_zz bin_neq_vz bin_neq_zv bin_neq_rz bin_neq_zr bin_neq_zz eqH nilEq nonE plainI gOf_bool gOf_skip g_some g_none Int.ofNat_zero Int.cast_ofNat_Int Bool.false_and Bool.and_false sliceV noBox elemsZ V.scrub V.scrubL Blk.scrub appendV isSlice maxLen_eq leT List.contains_nil List.contains_cons nvL_at fzL_at fillV V.plain V.plainL Blk.plain List.size_toArray mapO_nil mapO_cons Option.isNone_some beqT beqF oI_not mkX_e phi_nil phi_cons bin_eql_bool bin_neq_bool bin_eql_agg bin_neq_agg eqV eqFs eqK_int eqK_bool' eqK_str mkX_T mkX_Φ mkX_n mkX_f mkX_d mkX_r nv0_at fz0_at evQ_dr evP_W evW_nil evW_cons evW_guard okW_eq tame_none tame_new tame_write wb_none wb_new wb_write okU_some offW_none offW_some touchOf V.noRef V.noRefL Option.isSome_some Option.isSome_none mild_none mild_new Option.getD_some Option.getD_none evQ_seq evQ_region evQ_block evQ_cond evQ_ret evQ_skip evQ_exit evO_cons evO_nil evO_guard freezeL_nil oS_some oS_none oS_ite oS_ite' oB_bool oI_true oI_false oE_normal oE_exit oE_ret bQ_normal bQ_ret bQ_exit lQ_normal lQ_ret lQ_exit List.zipIdx_cons List.zipIdx_nil List.map_cons List.map_nil evalOp opd_const opd_tmp opd_func ofC_int ofC_bool ofC_str ofC_nil app_none app_new app_write app_change putE_some putE_none setA_cons setA_nil setH_cons setH_nil mapA_cons mapA_nil look_cons look_nil e_mk h_mk drop_nil drop_mk keep_mk dstOk_some dstOk_none guardT_eq true_and and_true Bool.not_false Bool.not_true selB_true selB_false mem_nil mem_cons kpL_nil kpL_cons drL_nil drL_cons closed_mk V.refsIn V.refsInL Blk.refsIn List.all_cons List.all_nil lenV bin_add bin_sub bin_mul bin_quo bin_rem bin_eql bin_neq bin_lss bin_leq bin_gtr bin_geq un_neg un_not post_ret post_normal St.init Bool.false_eq_true List.length_map Bool.or_false Bool.or_true Bool.false_or Bool.true_or beq_self_eq_true Option.map_some Option.map_none Option.bind_some List.getElem?_cons_zero List.getElem?_cons_succ scalar stor isAggV V.cells List.cons_append List.nil_append if_true if_false wrap_of callV V.dataL V.data Bool.and_true Bool.true_and fresh names V.ren V.renL retV resV packL packV packC getBlks wrapR subV putV decide_true decide_false TK.agg List.length_cons List.length_nil List.take_succ_cons List.take_zero List.drop_succ_cons List.drop_zero List.take_nil List.drop_nil Nat.zero_add Nat.add_zero List.append_nil List.getElem?_nil elemsV ro ro0 ro1 roC ty1 ty2 ty3 ty4 ty5 ty6 ty7 ty8 ty9 ty10 ty11 ty12 ty13 ty14 ty15 ty16 ty17 ty18 ty19 ty21 ty22 ty23 ty24 ty26 ty27 ty28 ty29 ty30 ty31 ty32 ty33 ty34 ty35 ty36 ty37 ty38 ty39 ty40 ty41 ty42 ty44 ty45 ty47 ty49 ty51 ty53 ty54 ty55 ty56 ty57 ty58 ty59 ty60 ty61 ty62 ty63 ty64 ty65 ty66 ty67 ty68 ty69 ty70 ty71 ty72 ty73 ty74 ty75 ty76 ty77 ty78 ty79 ty80 ty81 ty82 ty83 ty84 ty85 ty86 ty87 ty88 ty89 ty90 ty92 ty93 ty94 ty95 ty96 ty97 ty98 ty99 ty100 ty101 ty102 ty103 ty104 ty105 ty107 ty108 ty109 ty110 ty111 ty112 ty113 ty114 ty115 ty116 ty117 ty118 ty119 ty123 ty124 ty125 ty126 ty127 ty128 ty129 ty130 ty131 ty132 ty133 ty135 ty136 ty137 ty138 ty139 ty141 ty142 ty143 ty144 ty146 ty147 ty148 ty149 ty153 ty154 ty155 ty156 ty157 ty158 ty159 ty160 ty161 eqs29 eqs61 eqs79 eqs94
theorem bin_eql_str (x y : ByteArray) : binV .eql (.str x) (.str y) = some (.bool (decide (x = y))) := by
  rw [← str_eq]; rfl
theorem bin_neq_str (x y : ByteArray) : binV .neq (.str x) (.str y) = some (.bool (!(decide (x = y)))) := by
  rw [← str_eq]; rfl
theorem bin_leq_str (x y : ByteArray) : binV .leq (.str x) (.str y) = some (.bool (!(Op.bytesLess y.toList x.toList))) := by
  rw [less_total]; rfl
theorem bin_geq_str (x y : ByteArray) : binV .geq (.str x) (.str y) = some (.bool (!(Op.bytesLess x.toList y.toList))) := rfl
def digsB : ByteArray := ⟨#[48, 49, 50, 51, 52, 53, 54, 55, 56, 57]⟩
def trimF : List V → Option (V × List Blk)
  | [.str s, .str c] => if s.size ≤ 8 ∧ c = digsB then some (.str ⟨(Lib.trimS s.data.toList digsL).toArray⟩, []) else none
  | _ => none
theorem trimF_eq {s : ByteArray} (h : s.size ≤ 8) : trimF [.str s, .str ⟨#[48, 49, 50, 51, 52, 53, 54, 55, 56, 57]⟩] = some (.str ⟨(Lib.trimS s.data.toList digsL).toArray⟩, []) := if_pos ⟨h, rfl⟩
theorem trim_snd {J : World → Prop} : Snd Tryd.prog J 58 trimF := by
  intro args r bs h
  unfold trimF at h
  split at h
  · rename_i s c
    split at h
    · rename_i hc
      obtain ⟨rfl, rfl⟩ := some_pair h
      obtain ⟨hs, rfl⟩ := hc
      exact sound_plain (callOk Tryd.func58 rfl rfl) rfl rfl fun w _ => Any.strings_Trim_laid Tryd.lays160 (by kernel_rfl) s digsB w (by omega) (by decide) (ascii_of_all (by decide))
    · cases h
  · cases h
def rc1 (x : Nat) : Bool := decide (x < 48 ∨ 57 < x)
theorem rc1_sound {J : World → Prop} (hJ : Stable J) (x : Nat) : SoundAt Tryd.prog J 60 [.int .i32 x] (.bool (rc1 x)) [] := by
  refine evFn (l := []) (nv := nv0) (fz := fz0) (dr := dr60) (dd := dd60) (lam := []) (ms := ms0) trivial hJ trivial ms0_ok Tryd.func60 rfl rfl (Nat.le_of_ble_eq_true rfl) (Nat.le_of_ble_eq_true rfl) drOk60 ?_
  dsimp only [Tryd.f60, dr60, dd60, Option.getD_some]
  refine ev_start ?_
  by_cases h1 : (x : Int) < 48
  · have e : rc1 x = true := decide_eq_true (by omega)
    simp (disch := omega) only [h1, e, go_sem, Int.reduceEq, Int.reduceLT, Int.reduceLE, Int.reduceNeg, Nat.reduceAdd, Nat.reduceLT, Nat.reduceEqDiff, Nat.reduceMul, Nat.reduceLeDiff, reduceIte, Nat.reduceBEq, reduceCtorEq, evP_D, evD_guard, evD_cons, evD_zero, evD_nil]
  · by_cases h2 : 57 < (x : Int)
    · have e : rc1 x = true := decide_eq_true (by omega)
      simp (disch := omega) only [h1, h2, e, go_sem, Int.reduceEq, Int.reduceLT, Int.reduceLE, Int.reduceNeg, Nat.reduceAdd, Nat.reduceLT, Nat.reduceEqDiff, Nat.reduceMul, Nat.reduceLeDiff, reduceIte, Nat.reduceBEq, reduceCtorEq, evP_D, evD_guard, evD_cons, evD_zero, evD_nil]
    · have e : rc1 x = false := decide_eq_false (by omega)
      simp (disch := omega) only [h1, h2, e, go_sem, Int.reduceEq, Int.reduceLT, Int.reduceLE, Int.reduceNeg, Nat.reduceAdd, Nat.reduceLT, Nat.reduceEqDiff, Nat.reduceMul, Nat.reduceLeDiff, reduceIte, Nat.reduceBEq, reduceCtorEq, evP_D, evD_guard, evD_cons, evD_zero, evD_nil]
theorem idx_none {s : ByteArray} (h : s.data.toList.all dig = true) : ∀ f pos, Lib.idxFuncFrom rc1 true s f pos = -1
  | 0, _ => rfl
  | f + 1, pos => by
    unfold Lib.idxFuncFrom
    split
    · rename_i hp
      have hm : s[pos] ∈ s.data.toList := by
        have h' : pos < s.data.toList.length := hp
        have := List.getElem_mem h'
        exact this
      have hd := List.all_eq_true.1 h _ hm
      simp only [dig, decide_eq_true_eq] at hd
      have e := decode_ascii s pos hp (by omega)
      rw [e]
      have e2 : rc1 (s[pos]).toNat = false := decide_eq_false (by omega)
      simp only [e2, Bool.false_eq_true, if_false]
      exact idx_none h f _
    · rfl
theorem contains_sound {J : World → Prop} (hJ : Stable J) {s : ByteArray} (h : s.data.toList.all dig = true) : SoundAt Tryd.prog J 59 [.str s, .fn 60 []] (.bool false) [] := by
  refine ⟨callOk Tryd.func59 rfl rfl, fun w ok us hJw hok hlen hrel => ?_⟩
  have hus : us = [.string s, .func (.func 60) #[] #[]] := by
    match us, hlen, hrel with
    | [u, v], _, hrel =>
      have h0 := hrel 0 _ u rfl rfl
      have h1 := hrel 1 _ v rfl rfl
      cases h0
      cases h1 with
      | fn f cs vs hl _ =>
        have : vs = [] := List.eq_nil_of_length_eq_zero (by simpa using hl.symm)
        subst this
        rfl
  subst hus
  have hp : PredGrows Tryd.prog 60 #[] rc1 w := fun W x _ hb => by
    have hJW := hJ w W hJw hb
    exact SoundAt.calls (rc1_sound hJ x) rfl hJW (vals := [.int .i32 x]) rfl (fun j c v hc hv => by
      match j with
      | 0 => simp at hc hv; subst hc; subst hv; exact .int _ _
      | j + 1 => simp at hc)
  have hC := Any.strings_ContainsFunc_grows Tryd.laysGw17 60 #[] (enters_of Tryd.func60 (by kernel_rfl) rfl) rc1 s w hp
  refine (show Calls Tryd.prog 59 _ w _ from hC).mono ?_
  rintro e w' ⟨rfl, hb⟩
  refine ⟨.bool false, fun _ => none, ?_, hb, ⟨hb.size, fun b k hk => (by simp at hk), fun b sv hr => (by cases hr), fun b b' sv sv' g h1 => (by cases h1)⟩, .ro (.bool _)⟩
  have : Lib.idxFunc rc1 true s = -1 := idx_none h _ _
  rw [this]
  rfl
def codeF : List V → Option (V × List Blk)
  | [.str s] => some (.bool (codeOk s), [])
  | _ => none
theorem codeF_eq (s : ByteArray) : codeF [.str s] = some (.bool (codeOk s), []) := rfl
theorem ok_long {s : ByteArray} (h : ¬ (0 < s.size ∧ s.size ≤ 8)) : codeOk s = false := by unfold codeOk; rw [decide_eq_false h]; rfl
theorem ok_all {s : ByteArray} (h : 0 < s.size ∧ s.size ≤ 8) : codeOk s = s.data.toList.all dig := by unfold codeOk; rw [decide_eq_true h]; rfl
theorem rcode_snd {J : World → Prop} (hJ : Stable J) : Snd Tryd.prog J 28 codeF := by
  intro args r bs h
  unfold codeF at h
  split at h
  · rename_i s
    obtain ⟨rfl, rfl⟩ := some_pair h
    by_cases h1 : 0 < s.size
    · have h1' : (0 : Int) < s.size := by omega
      by_cases h2 : s.size ≤ 8
      · have h2' : (s.size : Int) < 9 := by omega
        cases hd : s.data.toList.all dig with
        | true =>
          have e : codeOk s = true := by rw [ok_all ⟨h1, h2⟩]; exact hd
          have ht := trimF_eq h2
          rw [trim_all hd] at ht
          refine evFn (l := [(58, trimF), (59, at1 [.str s, .fn 60 []] (.bool false, []))]) (nv := nv0) (fz := fz0) (dr := dr28) (dd := dd28) (lam := []) (ms := ms0) ⟨trim_snd, at1_snd (contains_sound hJ hd), trivial⟩ hJ trivial ms0_ok Tryd.func28 rfl rfl (Nat.le_of_ble_eq_true rfl) (Nat.le_of_ble_eq_true rfl) drOk28 ?_
          dsimp only [Tryd.f28, dr28, dd28, Option.getD_some]
          refine ev_start ?_
          simp (disch := omega) only [h1', h2', ht, at1_eq, e, bin_eql_str, go_sem, Int.reduceEq, Int.reduceLT, Int.reduceLE, Int.reduceNeg, Nat.reduceAdd, Nat.reduceLT, Nat.reduceEqDiff, Nat.reduceMul, Nat.reduceLeDiff, reduceIte, Nat.reduceBEq, reduceCtorEq, evP_D, evD_guard, evD_cons, evD_zero, evD_nil]
        | false =>
          have e : codeOk s = false := by rw [ok_all ⟨h1, h2⟩]; exact hd
          have ht := trimF_eq h2
          have hne : ¬ (ByteArray.mk (Lib.trimS s.data.toList digsL).toArray = ByteArray.mk #[]) := fun h => trim_not hd (by
            have := congrArg (fun b : ByteArray => b.data.toList) h
            simpa using this)
          refine evFn (l := [(58, trimF)]) (nv := nv0) (fz := fz0) (dr := dr28) (dd := dd28) (lam := []) (ms := ms0) ⟨trim_snd, trivial⟩ hJ trivial ms0_ok Tryd.func28 rfl rfl (Nat.le_of_ble_eq_true rfl) (Nat.le_of_ble_eq_true rfl) drOk28 ?_
          dsimp only [Tryd.f28, dr28, dd28, Option.getD_some]
          refine ev_start ?_
          simp (disch := omega) only [h1', h2', ht, hne, e, bin_eql_str, go_sem, Int.reduceEq, Int.reduceLT, Int.reduceLE, Int.reduceNeg, Nat.reduceAdd, Nat.reduceLT, Nat.reduceEqDiff, Nat.reduceMul, Nat.reduceLeDiff, reduceIte, Nat.reduceBEq, reduceCtorEq, evP_D, evD_guard, evD_cons, evD_zero, evD_nil]
      · have h2' : ¬ (s.size : Int) < 9 := by omega
        have e := ok_long (s := s) (fun h => h2 h.2)
        refine evFn (l := []) (nv := nv0) (fz := fz0) (dr := dr28) (dd := dd28) (lam := []) (ms := ms0) trivial hJ trivial ms0_ok Tryd.func28 rfl rfl (Nat.le_of_ble_eq_true rfl) (Nat.le_of_ble_eq_true rfl) drOk28 ?_
        dsimp only [Tryd.f28, dr28, dd28, Option.getD_some]
        refine ev_start ?_
        simp (disch := omega) only [h1', h2', e, go_sem, Int.reduceEq, Int.reduceLT, Int.reduceLE, Int.reduceNeg, Nat.reduceAdd, Nat.reduceLT, Nat.reduceEqDiff, Nat.reduceMul, Nat.reduceLeDiff, reduceIte, Nat.reduceBEq, reduceCtorEq, evP_D, evD_guard, evD_cons, evD_zero, evD_nil]
    · have h1' : ¬ (0 : Int) < s.size := by omega
      have e := ok_long (s := s) (fun h => h1 h.1)
      refine evFn (l := []) (nv := nv0) (fz := fz0) (dr := dr28) (dd := dd28) (lam := []) (ms := ms0) trivial hJ trivial ms0_ok Tryd.func28 rfl rfl (Nat.le_of_ble_eq_true rfl) (Nat.le_of_ble_eq_true rfl) drOk28 ?_
      dsimp only [Tryd.f28, dr28, dd28, Option.getD_some]
      refine ev_start ?_
      simp (disch := omega) only [h1', e, go_sem, Int.reduceEq, Int.reduceLT, Int.reduceLE, Int.reduceNeg, Nat.reduceAdd, Nat.reduceLT, Nat.reduceEqDiff, Nat.reduceMul, Nat.reduceLeDiff, reduceIte, Nat.reduceBEq, reduceCtorEq, evP_D, evD_guard, evD_cons, evD_zero, evD_nil]
  · cases h
theorem code_snd {J : World → Prop} (hJ : Stable J) : Snd Tryd.prog J 66 codeF := by
  intro args r bs h
  unfold codeF at h
  split at h
  · rename_i s
    obtain ⟨rfl, rfl⟩ := some_pair h
    by_cases h1 : s.size = 0
    · have e := ok_long (s := s) (fun h => by omega)
      have hz : s = ⟨#[]⟩ := by
        obtain ⟨⟨l⟩⟩ := s
        have : l = [] := List.eq_nil_of_length_eq_zero h1
        rw [this]
      rw [e]
      refine evFn (l := []) (nv := nv0) (fz := fz0) (dr := dr66) (dd := dd66) (lam := []) (ms := ms0) trivial hJ trivial ms0_ok Tryd.func66 rfl rfl (Nat.le_of_ble_eq_true rfl) (Nat.le_of_ble_eq_true rfl) drOk66 ?_
      dsimp only [Tryd.f66, dr66, dd66, Option.getD_some]
      refine ev_start ?_
      simp (disch := omega) only [hz, bin_eql_str, go_sem, Int.reduceEq, Int.reduceLT, Int.reduceLE, Int.reduceNeg, Nat.reduceAdd, Nat.reduceLT, Nat.reduceEqDiff, Nat.reduceMul, Nat.reduceLeDiff, reduceIte, Nat.reduceBEq, reduceCtorEq, evP_D, evD_guard, evD_cons, evD_zero, evD_nil]
    · have hz : ¬ s = ⟨#[]⟩ := fun h => h1 (by rw [h]; rfl)
      by_cases h2 : s.size ≤ 8
      · have h2' : ¬ 8 < (s.size : Int) := by omega
        have hlen : s.data.toList.length = s.size := rfl
        have hok := ok_all (s := s) ⟨by omega, h2⟩
        refine evFn (l := []) (nv := nv0) (fz := fz0) (dr := dr66) (dd := dd66) (lam := []) (ms := ms0) trivial hJ trivial ms0_ok Tryd.func66 rfl rfl (Nat.le_of_ble_eq_true rfl) (Nat.le_of_ble_eq_true rfl) drOk66 ?_
        dsimp only [Tryd.f66, dr66, dd66, Option.getD_some]
        refine ev_start ?_
        simp (disch := omega) only [hz, h2', bin_eql_str, go_sem, Int.reduceEq, Int.reduceLT, Int.reduceLE, Int.reduceNeg, Nat.reduceAdd, Nat.reduceLT, Nat.reduceEqDiff, Nat.reduceMul, Nat.reduceLeDiff, reduceIte, Nat.reduceBEq, reduceCtorEq, evP_D, evD_guard, evD_cons, evD_zero, evD_nil]
        refine evQ_loop [0, 12, 13] [] (fun σ => ∃ (k : Nat), (k ≤ s.size ∧ ∀ i b, i < k → s.data.toList[i]? = some b → dig b = true) ∧ σ = ⟨[(0, .str s), (12, .int .i64 s.size), (13, .int .i64 k)], []⟩)
          (fun σ => s.size - (match Ev.look 13 σ.env with | some (.int _ n) => n.toNat | _ => 0)) ?_ ?_
        · simp only [go_sem, Int.reduceEq, Int.reduceLT, Int.reduceLE, Int.reduceNeg, Nat.reduceAdd, Nat.reduceLT, Nat.reduceEqDiff, Nat.reduceMul, Nat.reduceLeDiff, reduceIte, Nat.reduceBEq, reduceCtorEq, evP_D, evD_guard, evD_cons, evD_zero, evD_nil]
          exact ⟨0, ⟨Nat.zero_le _, fun i b h => by omega⟩, rfl⟩
        · rintro σ ⟨k, ⟨hk, hall⟩, rfl⟩
          by_cases hlt : k < s.size
          · have hlt' : (k : Int) < s.size := by omega
            have hk0 : (0 : Int) ≤ k := by omega
            have hb : s.data.toList[k]? = some (s.data.toList[k]'hlt) := List.getElem?_eq_getElem _
            obtain ⟨b, hbd⟩ : ∃ b, b = s.data.toList[k]'hlt := ⟨_, rfl⟩
            rw [← hbd] at hb
            have hg : s[k]? = some b := by rw [str_get]; exact hb
            have hmem : b ∈ s.data.toList := List.mem_of_getElem? hb
            by_cases c1 : ((b.toNat : Nat) : Int) < 48
            · have e : codeOk s = false := by rw [hok, List.all_eq_false]; exact ⟨b, hmem, by simp [dig]; omega⟩
              simp (disch := omega) only [hlt', hk0, Int.toNat_natCast, hg, c1, e, go_sem, Int.reduceEq, Int.reduceLT, Int.reduceLE, Int.reduceNeg, Nat.reduceAdd, Nat.reduceLT, Nat.reduceEqDiff, Nat.reduceMul, Nat.reduceLeDiff, reduceIte, Nat.reduceBEq, reduceCtorEq, evP_D, evD_guard, evD_cons, evD_zero, evD_nil]
            · by_cases c2 : 57 < ((b.toNat : Nat) : Int)
              · have e : codeOk s = false := by rw [hok, List.all_eq_false]; exact ⟨b, hmem, by simp [dig]; omega⟩
                simp (disch := omega) only [hlt', hk0, Int.toNat_natCast, hg, c1, c2, e, go_sem, Int.reduceEq, Int.reduceLT, Int.reduceLE, Int.reduceNeg, Nat.reduceAdd, Nat.reduceLT, Nat.reduceEqDiff, Nat.reduceMul, Nat.reduceLeDiff, reduceIte, Nat.reduceBEq, reduceCtorEq, evP_D, evD_guard, evD_cons, evD_zero, evD_nil]
              · simp (disch := omega) only [hlt', hk0, Int.toNat_natCast, hg, c1, c2, go_sem, Int.reduceEq, Int.reduceLT, Int.reduceLE, Int.reduceNeg, Nat.reduceAdd, Nat.reduceLT, Nat.reduceEqDiff, Nat.reduceMul, Nat.reduceLeDiff, reduceIte, Nat.reduceBEq, reduceCtorEq, evP_D, evD_guard, evD_cons, evD_zero, evD_nil]
                exact ⟨⟨k + 1, ⟨hlt, fun i b' hi hb' => by
                  by_cases e : i = k
                  · subst e
                    rw [hb] at hb'
                    cases hb'
                    simp [dig]; omega
                  · exact hall i b' (by omega) hb'⟩, rfl⟩, by
                  have e3 : ((k : Int) + 1).toNat = k + 1 := by omega
                  rw [e3]; exact Nat.sub_lt_sub_left hlt (Nat.lt_succ_self k)⟩
          · have hk' : k = s.size := by omega
            subst hk'
            have hlt' : ¬ ((s.size : Int) < s.size) := by omega
            have e : codeOk s = true := by
              rw [hok, List.all_eq_true]
              intro b hb
              obtain ⟨i, hi, rfl⟩ := List.mem_iff_getElem.1 hb
              exact hall i _ hi (List.getElem?_eq_getElem _)
            simp (disch := omega) only [hlt', e, go_sem, Int.reduceEq, Int.reduceLT, Int.reduceLE, Int.reduceNeg, Nat.reduceAdd, Nat.reduceLT, Nat.reduceEqDiff, Nat.reduceMul, Nat.reduceLeDiff, reduceIte, Nat.reduceBEq, reduceCtorEq, evP_D, evD_guard, evD_cons, evD_zero, evD_nil]
      · have h2' : 8 < (s.size : Int) := by omega
        have e := ok_long (s := s) (fun h => by omega)
        refine evFn (l := []) (nv := nv0) (fz := fz0) (dr := dr66) (dd := dd66) (lam := []) (ms := ms0) trivial hJ trivial ms0_ok Tryd.func66 rfl rfl (Nat.le_of_ble_eq_true rfl) (Nat.le_of_ble_eq_true rfl) drOk66 ?_
        dsimp only [Tryd.f66, dr66, dd66, Option.getD_some]
        refine ev_start ?_
        simp (disch := omega) only [hz, h2', e, bin_eql_str, go_sem, Int.reduceEq, Int.reduceLT, Int.reduceLE, Int.reduceNeg, Nat.reduceAdd, Nat.reduceLT, Nat.reduceEqDiff, Nat.reduceMul, Nat.reduceLeDiff, reduceIte, Nat.reduceBEq, reduceCtorEq, evP_D, evD_guard, evD_cons, evD_zero, evD_nil]
  · cases h
end Go.Proofs.YtdmkmbaaemhhhaaDoor
