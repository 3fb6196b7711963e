/-
  Keys, days and the lines of an entry, run by the machine.
-/
import Derived.Test.YtdmkmbaaemhhhaaDoorAcG
import Derived.Test.YtdmkmbaaemhhhaaDoorShK
namespace Go.Acc
open Go
def keyC (b : UInt8) : Bool := decide ((97 ≤ b.toNat ∧ b.toNat ≤ 122) ∨ (48 ≤ b.toNat ∧ b.toNat ≤ 57) ∨ b.toNat = 45)
def keyL : List UInt8 := [97, 98, 99, 100, 101, 102, 103, 104, 105, 106, 107, 108, 109, 110, 111, 112, 113, 114, 115, 116, 117, 118, 119, 120, 121, 122, 48, 49, 50, 51, 52, 53, 54, 55, 56, 57, 45]
def keyOk' (s : ByteArray) : Bool := decide (0 < s.size ∧ s.size ≤ 12) && s.data.toList.all keyC
set_option maxRecDepth 1000000 in
theorem key_iff (b : UInt8) : decide (Lib.indexByte keyL b < 0) = !(keyC b) := by
  have h : ∀ n : Nat, n < 256 → decide (Lib.indexByte keyL (UInt8.ofNat n) < 0) = !(keyC (UInt8.ofNat n)) := by decide +kernel
  have := h b.toNat b.toNat_lt
  rwa [UInt8.ofNat_toNat] at this
theorem key_all {s : ByteArray} (h : 0 < s.size ∧ s.size ≤ 12) : keyOk' s = s.data.toList.all keyC := by unfold keyOk'; rw [decide_eq_true h]; rfl
theorem key_long {s : ByteArray} (h : ¬ (0 < s.size ∧ s.size ≤ 12)) : keyOk' s = false := by unfold keyOk'; rw [decide_eq_false h]; rfl
theorem key_bad {s : ByteArray} {b : UInt8} (hb : b ∈ s.data.toList) (h : keyC b = false) : keyOk' s = false := by
  unfold keyOk'
  have : s.data.toList.all keyC = false := List.all_eq_false.2 ⟨b, hb, by rw [h]; simp⟩
  rw [this, Bool.and_false]
def hasC (c : ByteArray) (l : List ByteArray) : Bool := l.any fun x => decide (x = c)
/-- what is wrong with lines behind others -/
def lnE (seen : List ByteArray) : List (ByteArray × Int) → Int
  | [] => 0
  | (c, n) :: l => if codeOk c = false then 3 else if ¬ ((-1000000000000 ≤ n ∧ n ≤ 1000000000000) ∧ n ≠ 0) then 1 else if hasC c seen = true then 5 else lnE (seen ++ [c]) l
def lnSum (l : List (ByteArray × Int)) : Nat → Int
  | 0 => 0
  | k + 1 => lnSum l k + (l[k]?).elim 0 (·.2)
def lnChk (l : List (ByteArray × Int)) : Int := if 12 < l.length then 2 else if lnE [] l ≠ 0 then lnE [] l else if l.length < 2 ∨ lnSum l l.length ≠ 0 then 7 else 0
def codesTo (l : List (ByteArray × Int)) (k : Nat) : List ByteArray := (l.take k).map (·.1)
theorem lnE_drop {l : List (ByteArray × Int)} {k : Nat} {c : ByteArray} {n : Int} (h : l[k]? = some (c, n)) :
    lnE (codesTo l k) (l.drop k) = if codeOk c = false then 3 else if ¬ ((-1000000000000 ≤ n ∧ n ≤ 1000000000000) ∧ n ≠ 0) then 1 else if hasC c (codesTo l k) = true then 5 else lnE (codesTo l (k + 1)) (l.drop (k + 1)) := by
  have hlt : k < l.length := (List.getElem?_eq_some_iff.1 h).1
  have he : l[k] = (c, n) := (List.getElem?_eq_some_iff.1 h).2
  have hp : codesTo l (k + 1) = codesTo l k ++ [c] := by unfold codesTo; rw [List.take_succ_eq_append_getElem hlt, he, List.map_append]; rfl
  rw [List.drop_eq_getElem_cons hlt, he, hp]
  rfl
def enE (key : ByteArray) (day : Int) (l : List (ByteArray × Int)) : Int := if keyOk' key = false then 3 else if ¬ (0 ≤ day ∧ day ≤ 292193) then 1 else lnChk l
end Go.Acc
namespace Go.Proofs.YtdmkmbaaemhhhaaDoor
open Go Go.Ev Go.RowKit Go.Acc
set_option maxHeartbeats 4000000
set_option linter.unusedSimpArgs false
set_option linter.unusedVariables false
attribute [local go_sem] mutV getB mvB bkB V.mv V.mvL V.bk V.bkL Blk.mv Blk.bk posN nmN backN noDup app_writes setHL_nil setHL_cons postM_ret postM_normal resM hasB_nil hasB_cons St.mut names_nil names_cons sortV cellOf mkX_M mkX_S mkX_ln lnL_at ms0_mt ms0_st V.lone V.loneL List.zip_cons_cons List.zip_nil_left Option.isNone_none bornV subE partR unB bytesW boundsV ownP sliceW copyV clearV lenM takeV tk1 mapsV mkMapV hintOk lookV updV mapKE keyOk V.key app_lend callW_fn lendV postL_ret postL_normal postT_ret postT_normal takeR St.lent mkX_L bin_eql_vz bin_eql_zv bin_eql_rz bin_eql_zr bin_eql_zz bin_neq_vz bin_neq_zv bin_neq_rz bin_neq_zr bin_neq_zz eqH nilEq nonE plainI gOf_bool gOf_skip g_some g_none Int.ofNat_zero Int.cast_ofNat_Int Bool.false_and Bool.and_false sliceV noBox elemsZ V.scrub V.scrubL Blk.scrub appendV isSlice maxLen_eq leT List.contains_nil List.contains_cons nvL_at fzL_at fillV V.plain V.plainL Blk.plain List.size_toArray mapO_nil mapO_cons Option.isNone_some beqT beqF oI_not mkX_e phi_nil phi_cons bin_eql_bool bin_neq_bool bin_eql_agg bin_neq_agg eqV eqFs eqK_int eqK_bool' eqK_str mkX_T mkX_Φ mkX_n mkX_f mkX_d mkX_r nv0_at fz0_at evQ_dr evP_W evW_nil evW_cons evW_guard okW_eq tame_none tame_new tame_write wb_none wb_new wb_write okU_some offW_none offW_some touchOf V.noRef V.noRefL Option.isSome_some Option.isSome_none mild_none mild_new Option.getD_some Option.getD_none evQ_seq evQ_region evQ_block evQ_cond evQ_ret evQ_skip evQ_exit evO_cons evO_nil evO_guard freezeL_nil oS_some oS_none oS_ite oS_ite' oB_bool oI_true oI_false oE_normal oE_exit oE_ret bQ_normal bQ_ret bQ_exit lQ_normal lQ_ret lQ_exit List.zipIdx_cons List.zipIdx_nil List.map_cons List.map_nil evalOp opd_const opd_tmp opd_func ofC_int ofC_bool ofC_str ofC_nil app_none app_new app_write app_change putE_some putE_none setA_cons setA_nil setH_cons setH_nil mapA_cons mapA_nil look_cons look_nil e_mk h_mk drop_nil drop_mk keep_mk dstOk_some dstOk_none guardT_eq true_and and_true Bool.not_false Bool.not_true selB_true selB_false mem_nil mem_cons kpL_nil kpL_cons drL_nil drL_cons closed_mk V.refsIn V.refsInL Blk.refsIn List.all_cons List.all_nil lenV bin_add bin_sub bin_mul bin_quo bin_rem bin_eql bin_neq bin_lss bin_leq bin_gtr bin_geq un_neg un_not post_ret post_normal St.init Bool.false_eq_true List.length_map Bool.or_false Bool.or_true Bool.false_or Bool.true_or beq_self_eq_true Option.map_some Option.map_none Option.bind_some List.getElem?_cons_zero List.getElem?_cons_succ scalar stor isAggV V.cells List.cons_append List.nil_append if_true if_false wrap_of callV V.dataL V.data Bool.and_true Bool.true_and fresh names V.ren V.renL retV resV packL packV packC getBlks wrapR subV putV decide_true decide_false TK.agg List.length_cons List.length_nil List.take_succ_cons List.take_zero List.drop_succ_cons List.drop_zero List.take_nil List.drop_nil Nat.zero_add Nat.add_zero List.append_nil List.getElem?_nil elemsV ro ro0 ro1 roC ty1 ty2 ty3 ty4 ty5 ty6 ty7 ty8 ty9 ty10 ty11 ty12 ty13 ty14 ty15 ty16 ty17 ty18 ty19 ty21 ty22 ty23 ty24 ty26 ty27 ty28 ty29 ty30 ty31 ty32 ty33 ty34 ty35 ty36 ty37 ty38 ty39 ty40 ty41 ty42 ty44 ty45 ty47 ty49 ty51 ty53 ty54 ty55 ty56 ty57 ty58 ty59 ty60 ty61 ty62 ty63 ty64 ty65 ty66 ty67 ty68 ty69 ty70 ty71 ty72 ty73 ty74 ty75 ty76 ty77 ty78 ty79 ty80 ty81 ty82 ty83 ty84 ty85 ty86 ty87 ty88 ty89 ty90 ty92 ty93 ty94 ty95 ty96 ty97 ty98 ty99 ty100 ty101 ty102 ty103 ty104 ty105 ty107 ty108 ty109 ty110 ty111 ty112 ty113 ty114 ty115 ty116 ty117 ty118 ty119 ty123 ty124 ty125 ty126 ty127 ty128 ty129 ty130 ty131 ty132 ty133 ty135 ty136 ty137 ty138 ty139 ty141 ty142 ty143 ty144 ty146 ty147 ty148 ty149 ty153 ty154 ty155 ty156 ty157 ty158 ty159 ty160 ty161 eqs29 eqs61 eqs79 eqs94
def dayF : List V → Option (V × List Blk)
  | [.int .i64 x] => some (.bool (decide (0 ≤ x ∧ x ≤ 292193)), [])
  | _ => none
theorem dayF_eq (x : Int) : dayF [.int .i64 x] = some (.bool (decide (0 ≤ x ∧ x ≤ 292193)), []) := rfl
theorem is_snd {J : World → Prop} (hJ : Stable J) : Snd Tryd.prog J 21 dayF := by
  intro args r bs h
  unfold dayF at h
  split at h
  · rename_i x
    obtain ⟨rfl, rfl⟩ := some_pair h
    refine evFn (l := []) (nv := nv0) (fz := fz0) (dr := dr21) (dd := dd21) (lam := []) (ms := ms0) trivial hJ trivial ms0_ok Tryd.func21 rfl rfl (Nat.le_of_ble_eq_true rfl) (Nat.le_of_ble_eq_true rfl) drOk21 ?_
    dsimp only [Tryd.f21, dr21, dd21, Option.getD_some]
    refine ev_start ?_
    by_cases h1 : 0 ≤ x
    · by_cases h2 : x ≤ 292193
      · have h1' : (0 : Int) ≤ x := h1
        simp (disch := omega) only [h1, h2, and_self, go_sem, Int.reduceEq, Int.reduceLT, Int.reduceLE, Int.reduceNeg, Nat.reduceAdd, Nat.reduceLT, Nat.reduceEqDiff, Nat.reduceMul, Nat.reduceLeDiff, reduceIte, Nat.reduceBEq, reduceCtorEq, evP_D, evD_guard, evD_cons, evD_zero, evD_nil]
      · simp (disch := omega) only [h1, h2, and_false, go_sem, Int.reduceEq, Int.reduceLT, Int.reduceLE, Int.reduceNeg, Nat.reduceAdd, Nat.reduceLT, Nat.reduceEqDiff, Nat.reduceMul, Nat.reduceLeDiff, reduceIte, Nat.reduceBEq, reduceCtorEq, evP_D, evD_guard, evD_cons, evD_zero, evD_nil]
    · simp (disch := omega) only [h1, false_and, go_sem, Int.reduceEq, Int.reduceLT, Int.reduceLE, Int.reduceNeg, Nat.reduceAdd, Nat.reduceLT, Nat.reduceEqDiff, Nat.reduceMul, Nat.reduceLeDiff, reduceIte, Nat.reduceBEq, reduceCtorEq, evP_D, evD_guard, evD_cons, evD_zero, evD_nil]
  · cases h
theorem day_snd {J : World → Prop} (hJ : Stable J) : Snd Tryd.prog J 8 dayF := by
  intro args r bs h
  unfold dayF at h
  split at h
  · rename_i x
    obtain ⟨rfl, rfl⟩ := some_pair h
    refine evFn (l := [(27, withinF)]) (nv := nv0) (fz := fz0) (dr := dr8) (dd := dd8) (lam := []) (ms := ms0) ⟨within_snd hJ, trivial⟩ hJ trivial ms0_ok Tryd.func8 rfl rfl (Nat.le_of_ble_eq_true rfl) (Nat.le_of_ble_eq_true rfl) drOk8 ?_
    dsimp only [Tryd.f8, dr8, dd8, Option.getD_some]
    refine ev_start ?_
    simp (disch := omega) only [withinF_eq, go_sem, Int.reduceEq, Int.reduceLT, Int.reduceLE, Int.reduceNeg, Nat.reduceAdd, Nat.reduceLT, Nat.reduceEqDiff, Nat.reduceMul, Nat.reduceLeDiff, reduceIte, Nat.reduceBEq, reduceCtorEq, evP_D, evD_guard, evD_cons, evD_zero, evD_nil]
  · cases h
theorem spmoney_snd {J : World → Prop} (hJ : Stable J) : Snd Tryd.prog J 105 moneyF := by
  intro args r bs h
  unfold moneyF at h
  split at h
  · rename_i x
    obtain ⟨rfl, rfl⟩ := some_pair h
    refine evFn (l := []) (nv := nv0) (fz := fz0) (dr := dr105) (dd := dd105) (lam := []) (ms := ms0) trivial hJ trivial ms0_ok Tryd.func105 rfl rfl (Nat.le_of_ble_eq_true rfl) (Nat.le_of_ble_eq_true rfl) drOk105 ?_
    dsimp only [Tryd.f105, dr105, dd105, Option.getD_some]
    refine ev_start ?_
    by_cases h1 : -1000000000000 ≤ x
    · by_cases h2 : x ≤ 1000000000000
      · have h1' : -1000000000000 ≤ x := h1
        simp (disch := omega) only [h1, h2, and_self, go_sem, Int.reduceEq, Int.reduceLT, Int.reduceLE, Int.reduceNeg, Nat.reduceAdd, Nat.reduceLT, Nat.reduceEqDiff, Nat.reduceMul, Nat.reduceLeDiff, reduceIte, Nat.reduceBEq, reduceCtorEq, evP_D, evD_guard, evD_cons, evD_zero, evD_nil]
      · simp (disch := omega) only [h1, h2, and_false, go_sem, Int.reduceEq, Int.reduceLT, Int.reduceLE, Int.reduceNeg, Nat.reduceAdd, Nat.reduceLT, Nat.reduceEqDiff, Nat.reduceMul, Nat.reduceLeDiff, reduceIte, Nat.reduceBEq, reduceCtorEq, evP_D, evD_guard, evD_cons, evD_zero, evD_nil]
    · simp (disch := omega) only [h1, false_and, go_sem, Int.reduceEq, Int.reduceLT, Int.reduceLE, Int.reduceNeg, Nat.reduceAdd, Nat.reduceLT, Nat.reduceEqDiff, Nat.reduceMul, Nat.reduceLeDiff, reduceIte, Nat.reduceBEq, reduceCtorEq, evP_D, evD_guard, evD_cons, evD_zero, evD_nil]
  · cases h
def keyB : ByteArray := ⟨#[97, 98, 99, 100, 101, 102, 103, 104, 105, 106, 107, 108, 109, 110, 111, 112, 113, 114, 115, 116, 117, 118, 119, 120, 121, 122, 48, 49, 50, 51, 52, 53, 54, 55, 56, 57, 45]⟩
def ixF : List V → Option (V × List Blk)
  | [.str k, .int .u8 n] => if k = keyB then some (.int .i64 (Lib.indexByte keyL n.toNat.toUInt8), []) else none
  | _ => none
theorem ixF_eq (b : UInt8) : ixF [.str ⟨#[97, 98, 99, 100, 101, 102, 103, 104, 105, 106, 107, 108, 109, 110, 111, 112, 113, 114, 115, 116, 117, 118, 119, 120, 121, 122, 48, 49, 50, 51, 52, 53, 54, 55, 56, 57, 45]⟩, .int .u8 ((b.toNat : Nat) : Int)] = some (.int .i64 (Lib.indexByte keyL b), []) := by
  have e : ((b.toNat : Nat) : Int).toNat.toUInt8 = b := by rw [Int.toNat_natCast]; exact UInt8.ofNat_toNat
  simp only [ixF, e]
  exact if_pos rfl
theorem ix_snd {J : World → Prop} : Snd Tryd.prog J 26 ixF := by
  intro args r bs h
  unfold ixF at h
  split at h
  · rename_i s c
    split at h
    · rename_i hc
      obtain ⟨rfl, rfl⟩ := some_pair h
      subst hc
      exact sound_plain (callOk Tryd.func26 rfl rfl) rfl rfl fun w _ => (show Calls Tryd.prog 26 _ w _ from Any.strings_IndexByte Tryd.lays137 keyB c w).mono (by rintro e w' ⟨rfl, rfl⟩; exact ⟨rfl, .refl _ _⟩)
    · cases h
  · cases h
def keyF : List V → Option (V × List Blk)
  | [.str s] => some (.bool (keyOk' s), [])
  | _ => none
theorem keyF_eq (s : ByteArray) : keyF [.str s] = some (.bool (keyOk' s), []) := rfl
theorem key_snd {J : World → Prop} (hJ : Stable J) : Snd Tryd.prog J 64 keyF := by
  intro args r bs h
  unfold keyF at h
  split at h
  · rename_i s
    obtain ⟨rfl, rfl⟩ := some_pair h
    by_cases h1 : s.size = 0
    · have e := key_long (s := s) (fun h => by omega)
      have hz : s = ⟨#[]⟩ := by
        obtain ⟨⟨l⟩⟩ := s
        have : l = [] := List.eq_nil_of_length_eq_zero h1
        rw [this]
      rw [e]
      refine evFn (l := []) (nv := nv0) (fz := fz0) (dr := dr64) (dd := dd64) (lam := []) (ms := ms0) trivial hJ trivial ms0_ok Tryd.func64 rfl rfl (Nat.le_of_ble_eq_true rfl) (Nat.le_of_ble_eq_true rfl) drOk64 ?_
      dsimp only [Tryd.f64, dr64, dd64, Option.getD_some]
      refine ev_start ?_
      simp (disch := omega) only [hz, bin_eql_str, go_sem, Int.reduceEq, Int.reduceLT, Int.reduceLE, Int.reduceNeg, Nat.reduceAdd, Nat.reduceLT, Nat.reduceEqDiff, Nat.reduceMul, Nat.reduceLeDiff, reduceIte, Nat.reduceBEq, reduceCtorEq, evP_D, evD_guard, evD_cons, evD_zero, evD_nil]
    · have hz : ¬ s = ⟨#[]⟩ := fun h => h1 (by rw [h]; rfl)
      by_cases h2 : s.size ≤ 12
      · have h2' : ¬ 12 < (s.size : Int) := by omega
        have hok := key_all (s := s) ⟨by omega, h2⟩
        refine evFn (l := []) (nv := nv0) (fz := fz0) (dr := dr64) (dd := dd64) (lam := []) (ms := ms0) trivial hJ trivial ms0_ok Tryd.func64 rfl rfl (Nat.le_of_ble_eq_true rfl) (Nat.le_of_ble_eq_true rfl) drOk64 ?_
        dsimp only [Tryd.f64, dr64, dd64, Option.getD_some]
        refine ev_start ?_
        simp (disch := omega) only [hz, h2', bin_eql_str, go_sem, Int.reduceEq, Int.reduceLT, Int.reduceLE, Int.reduceNeg, Nat.reduceAdd, Nat.reduceLT, Nat.reduceEqDiff, Nat.reduceMul, Nat.reduceLeDiff, reduceIte, Nat.reduceBEq, reduceCtorEq, evP_D, evD_guard, evD_cons, evD_zero, evD_nil]
        refine evQ_loop [0, 13, 14] [] (fun σ => ∃ (k : Nat), (k ≤ s.size ∧ ∀ i b, i < k → s.data.toList[i]? = some b → keyC b = true) ∧ σ = ⟨[(0, .str s), (13, .int .i64 s.size), (14, .int .i64 k)], []⟩)
          (fun σ => s.size - (match Ev.look 14 σ.env with | some (.int _ n) => n.toNat | _ => 0)) ?_ ?_
        · simp only [go_sem, Int.reduceEq, Int.reduceLT, Int.reduceLE, Int.reduceNeg, Nat.reduceAdd, Nat.reduceLT, Nat.reduceEqDiff, Nat.reduceMul, Nat.reduceLeDiff, reduceIte, Nat.reduceBEq, reduceCtorEq, evP_D, evD_guard, evD_cons, evD_zero, evD_nil]
          exact ⟨0, ⟨Nat.zero_le _, fun i b h => by omega⟩, rfl⟩
        · rintro σ ⟨k, ⟨hk, hall⟩, rfl⟩
          by_cases hlt : k < s.size
          · have hlt' : (k : Int) < s.size := by omega
            have hk0 : (0 : Int) ≤ k := by omega
            obtain ⟨b, hbd⟩ : ∃ b, b = s.data.toList[k]'hlt := ⟨_, rfl⟩
            have hb : s.data.toList[k]? = some b := by rw [hbd]; exact List.getElem?_eq_getElem _
            have hg : s[k]? = some b := by rw [str_get]; exact hb
            have hmem : b ∈ s.data.toList := List.mem_of_getElem? hb
            have hms : s.size - ((k : Int) + 1).toNat < s.size - (k : Int).toNat := by
              have e3 : ((k : Int) + 1).toNat = k + 1 := by omega
              rw [e3, Int.toNat_natCast]; exact Nat.sub_lt_sub_left hlt (Nat.lt_succ_self k)
            have hnext : keyC b = true → ∀ i b', i < k + 1 → s.data.toList[i]? = some b' → keyC b' = true := fun hc i b' hi hb' => by
              by_cases e : i = k
              · subst e
                rw [hb] at hb'
                cases hb'
                exact hc
              · exact hall i b' (by omega) hb'
            by_cases c1 : ((b.toNat : Nat) : Int) ≥ 97
            · by_cases c2 : ((b.toNat : Nat) : Int) ≤ 122
              · simp (disch := omega) only [hlt', hk0, Int.toNat_natCast, hg, c1, c2, go_sem, Int.reduceEq, Int.reduceLT, Int.reduceLE, Int.reduceNeg, Nat.reduceAdd, Nat.reduceLT, Nat.reduceEqDiff, Nat.reduceMul, Nat.reduceLeDiff, reduceIte, Nat.reduceBEq, reduceCtorEq, evP_D, evD_guard, evD_cons, evD_zero, evD_nil]
                exact ⟨⟨k + 1, ⟨hlt, hnext (by simp [keyC]; omega)⟩, rfl⟩, hms⟩
              · have c3 : ((b.toNat : Nat) : Int) ≥ 48 := by omega
                have c4 : ¬ ((b.toNat : Nat) : Int) ≤ 57 := by omega
                have c5 : ¬ ((b.toNat : Nat) : Int) = 45 := by omega
                have e : keyOk' s = false := key_bad hmem (by simp [keyC]; omega)
                simp (disch := omega) only [hlt', hk0, Int.toNat_natCast, hg, c1, c2, c3, c4, c5, e, go_sem, Int.reduceEq, Int.reduceLT, Int.reduceLE, Int.reduceNeg, Nat.reduceAdd, Nat.reduceLT, Nat.reduceEqDiff, Nat.reduceMul, Nat.reduceLeDiff, reduceIte, Nat.reduceBEq, reduceCtorEq, evP_D, evD_guard, evD_cons, evD_zero, evD_nil]
            · by_cases c3 : ((b.toNat : Nat) : Int) ≥ 48
              · by_cases c4 : ((b.toNat : Nat) : Int) ≤ 57
                · simp (disch := omega) only [hlt', hk0, Int.toNat_natCast, hg, c1, c3, c4, go_sem, Int.reduceEq, Int.reduceLT, Int.reduceLE, Int.reduceNeg, Nat.reduceAdd, Nat.reduceLT, Nat.reduceEqDiff, Nat.reduceMul, Nat.reduceLeDiff, reduceIte, Nat.reduceBEq, reduceCtorEq, evP_D, evD_guard, evD_cons, evD_zero, evD_nil]
                  exact ⟨⟨k + 1, ⟨hlt, hnext (by simp [keyC]; omega)⟩, rfl⟩, hms⟩
                · have c5 : ¬ ((b.toNat : Nat) : Int) = 45 := by omega
                  have e : keyOk' s = false := key_bad hmem (by simp [keyC]; omega)
                  simp (disch := omega) only [hlt', hk0, Int.toNat_natCast, hg, c1, c3, c4, c5, e, go_sem, Int.reduceEq, Int.reduceLT, Int.reduceLE, Int.reduceNeg, Nat.reduceAdd, Nat.reduceLT, Nat.reduceEqDiff, Nat.reduceMul, Nat.reduceLeDiff, reduceIte, Nat.reduceBEq, reduceCtorEq, evP_D, evD_guard, evD_cons, evD_zero, evD_nil]
              · by_cases c5 : ((b.toNat : Nat) : Int) = 45
                · simp (disch := omega) only [hlt', hk0, Int.toNat_natCast, hg, c1, c3, c5, go_sem, Int.reduceEq, Int.reduceLT, Int.reduceLE, Int.reduceNeg, Nat.reduceAdd, Nat.reduceLT, Nat.reduceEqDiff, Nat.reduceMul, Nat.reduceLeDiff, reduceIte, Nat.reduceBEq, reduceCtorEq, evP_D, evD_guard, evD_cons, evD_zero, evD_nil]
                  exact ⟨⟨k + 1, ⟨hlt, hnext (by simp [keyC]; omega)⟩, rfl⟩, hms⟩
                · have e : keyOk' s = false := key_bad hmem (by simp [keyC]; omega)
                  simp (disch := omega) only [hlt', hk0, Int.toNat_natCast, hg, c1, c3, c5, e, go_sem, Int.reduceEq, Int.reduceLT, Int.reduceLE, Int.reduceNeg, Nat.reduceAdd, Nat.reduceLT, Nat.reduceEqDiff, Nat.reduceMul, Nat.reduceLeDiff, reduceIte, Nat.reduceBEq, reduceCtorEq, evP_D, evD_guard, evD_cons, evD_zero, evD_nil]
          · have hk' : k = s.size := by omega
            subst hk'
            have hlt' : ¬ ((s.size : Int) < s.size) := by omega
            have e : keyOk' s = true := by
              rw [hok, List.all_eq_true]
              intro b hb
              obtain ⟨i, hi, rfl⟩ := List.mem_iff_getElem.1 hb
              exact hall i _ hi (List.getElem?_eq_getElem _)
            simp (disch := omega) only [hlt', e, go_sem, Int.reduceEq, Int.reduceLT, Int.reduceLE, Int.reduceNeg, Nat.reduceAdd, Nat.reduceLT, Nat.reduceEqDiff, Nat.reduceMul, Nat.reduceLeDiff, reduceIte, Nat.reduceBEq, reduceCtorEq, evP_D, evD_guard, evD_cons, evD_zero, evD_nil]
      · have h2' : 12 < (s.size : Int) := by omega
        have e := key_long (s := s) (fun h => by omega)
        refine evFn (l := []) (nv := nv0) (fz := fz0) (dr := dr64) (dd := dd64) (lam := []) (ms := ms0) trivial hJ trivial ms0_ok Tryd.func64 rfl rfl (Nat.le_of_ble_eq_true rfl) (Nat.le_of_ble_eq_true rfl) drOk64 ?_
        dsimp only [Tryd.f64, dr64, dd64, Option.getD_some]
        refine ev_start ?_
        simp (disch := omega) only [hz, h2', e, bin_eql_str, go_sem, Int.reduceEq, Int.reduceLT, Int.reduceLE, Int.reduceNeg, Nat.reduceAdd, Nat.reduceLT, Nat.reduceEqDiff, Nat.reduceMul, Nat.reduceLeDiff, reduceIte, Nat.reduceBEq, reduceCtorEq, evP_D, evD_guard, evD_cons, evD_zero, evD_nil]
  · cases h
theorem rkey_sound {J : World → Prop} (hJ : Stable J) (s : ByteArray) (hs : s.size ≤ maxLen) : SoundAt Tryd.prog J 25 [.str s] (.bool (keyOk' s)) [] := by
  have hs' : (s.size : Int) ≤ 9223372036854775807 := by unfold maxLen at hs; omega
  refine evFn (l := [(26, ixF)]) (nv := nv0) (fz := fz0) (dr := dr25) (dd := dd25) (lam := []) (ms := ms0) ⟨ix_snd, trivial⟩ hJ trivial ms0_ok Tryd.func25 rfl rfl (Nat.le_of_ble_eq_true rfl) (Nat.le_of_ble_eq_true rfl) drOk25 ?_
  dsimp only [Tryd.f25, dr25, dd25, Option.getD_some]
  refine ev_start ?_
  simp (disch := omega) only [go_sem, Int.reduceEq, Int.reduceLT, Int.reduceLE, Int.reduceNeg, Nat.reduceAdd, Nat.reduceLT, Nat.reduceEqDiff, Nat.reduceMul, Nat.reduceLeDiff, reduceIte, Nat.reduceBEq, reduceCtorEq, evP_D, evD_guard, evD_cons, evD_zero, evD_nil]
  refine evQ_loop [0, 5, 6] [] (fun σ => ∃ (k : Nat), (k ≤ s.size ∧ ∀ i b, i < k → s.data.toList[i]? = some b → keyC b = true) ∧ σ = ⟨[(0, .str s), (5, .int .i64 s.size), (6, .int .i64 k)], []⟩)
    (fun σ => s.size - (match Ev.look 6 σ.env with | some (.int _ n) => n.toNat | _ => 0)) ?_ ?_
  · simp only [go_sem, Int.reduceEq, Int.reduceLT, Int.reduceLE, Int.reduceNeg, Nat.reduceAdd, Nat.reduceLT, Nat.reduceEqDiff, Nat.reduceMul, Nat.reduceLeDiff, reduceIte, Nat.reduceBEq, reduceCtorEq, evP_D, evD_guard, evD_cons, evD_zero, evD_nil]
    exact ⟨0, ⟨Nat.zero_le _, fun i b h => by omega⟩, rfl⟩
  · rintro σ ⟨k, ⟨hk, hall⟩, rfl⟩
    by_cases hlt : k < s.size
    · have hlt' : (k : Int) < s.size := by omega
      have hk0 : (0 : Int) ≤ k := by omega
      obtain ⟨b, hbd⟩ : ∃ b, b = s.data.toList[k]'hlt := ⟨_, rfl⟩
      have hb : s.data.toList[k]? = some b := by rw [hbd]; exact List.getElem?_eq_getElem _
      have hg : s[k]? = some b := by rw [str_get]; exact hb
      have hmem : b ∈ s.data.toList := List.mem_of_getElem? hb
      have hms : s.size - ((k : Int) + 1).toNat < s.size - (k : Int).toNat := by
        have e3 : ((k : Int) + 1).toNat = k + 1 := by omega
        rw [e3, Int.toNat_natCast]; exact Nat.sub_lt_sub_left hlt (Nat.lt_succ_self k)
      have hi := key_iff b
      cases hc : keyC b with
      | true =>
        rw [hc] at hi
        have hi' : ¬ Lib.indexByte keyL b < 0 := by simpa using hi
        simp (disch := (first | omega | assumption)) only [hlt', hk0, Int.toNat_natCast, hg, ixF_eq, hi', go_sem, Int.reduceEq, Int.reduceLT, Int.reduceLE, Int.reduceNeg, Nat.reduceAdd, Nat.reduceLT, Nat.reduceEqDiff, Nat.reduceMul, Nat.reduceLeDiff, reduceIte, Nat.reduceBEq, reduceCtorEq, evP_D, evD_guard, evD_cons, evD_zero, evD_nil]
        exact ⟨⟨k + 1, ⟨hlt, fun i b' hi hb' => by
          by_cases e : i = k
          · subst e
            rw [hb] at hb'
            cases hb'
            exact hc
          · exact hall i b' (by omega) hb'⟩, rfl⟩, hms⟩
      | false =>
        rw [hc] at hi
        have hi' : Lib.indexByte keyL b < 0 := by simpa using hi
        have e : keyOk' s = false := key_bad hmem hc
        simp (disch := (first | omega | assumption)) only [hlt', hk0, Int.toNat_natCast, hg, ixF_eq, hi', e, go_sem, Int.reduceEq, Int.reduceLT, Int.reduceLE, Int.reduceNeg, Nat.reduceAdd, Nat.reduceLT, Nat.reduceEqDiff, Nat.reduceMul, Nat.reduceLeDiff, reduceIte, Nat.reduceBEq, reduceCtorEq, evP_D, evD_guard, evD_cons, evD_zero, evD_nil]
    · have hk' : k = s.size := by omega
      subst hk'
      have hlt' : ¬ ((s.size : Int) < s.size) := by omega
      have hall' : s.data.toList.all keyC = true := by
        rw [List.all_eq_true]
        intro b hb
        obtain ⟨i, hi, rfl⟩ := List.mem_iff_getElem.1 hb
        exact hall i _ hi (List.getElem?_eq_getElem _)
      by_cases h1 : 0 < s.size
      · have h1' : (0 : Int) < s.size := by omega
        by_cases h2 : s.size ≤ 12
        · have h2' : (s.size : Int) < 13 := by omega
          have e : keyOk' s = true := by rw [key_all ⟨h1, h2⟩]; exact hall'
          simp (disch := omega) only [hlt', h1', h2', e, go_sem, Int.reduceEq, Int.reduceLT, Int.reduceLE, Int.reduceNeg, Nat.reduceAdd, Nat.reduceLT, Nat.reduceEqDiff, Nat.reduceMul, Nat.reduceLeDiff, reduceIte, Nat.reduceBEq, reduceCtorEq, evP_D, evD_guard, evD_cons, evD_zero, evD_nil]
        · have h2' : ¬ (s.size : Int) < 13 := by omega
          have e := key_long (s := s) (fun h => h2 h.2)
          simp (disch := omega) only [hlt', h1', h2', e, go_sem, Int.reduceEq, Int.reduceLT, Int.reduceLE, Int.reduceNeg, Nat.reduceAdd, Nat.reduceLT, Nat.reduceEqDiff, Nat.reduceMul, Nat.reduceLeDiff, reduceIte, Nat.reduceBEq, reduceCtorEq, evP_D, evD_guard, evD_cons, evD_zero, evD_nil]
      · have h1' : ¬ (0 : Int) < s.size := by omega
        have e := key_long (s := s) (fun h => h1 h.1)
        simp (disch := omega) only [hlt', h1', e, go_sem, Int.reduceEq, Int.reduceLT, Int.reduceLE, Int.reduceNeg, Nat.reduceAdd, Nat.reduceLT, Nat.reduceEqDiff, Nat.reduceMul, Nat.reduceLeDiff, reduceIte, Nat.reduceBEq, reduceCtorEq, evP_D, evD_guard, evD_cons, evD_zero, evD_nil]
end Go.Proofs.YtdmkmbaaemhhhaaDoor
