/-
  Books, run by the machine: what an account has: the program's Of, the reference's Sums, Balance.
-/
import Derived.Test.YtdmkmbaaemhhhaaDoorBkG
namespace Go.Acc
open Go
/-! ### sums by codes, in a map -/
def lookM (c : ByteArray) : List (ByteArray × Int) → Option Int
  | [] => none
  | p :: M => if c = p.1 then some p.2 else lookM c M
def putM (c : ByteArray) (v : Int) : List (ByteArray × Int) → List (ByteArray × Int)
  | [] => [(c, v)]
  | p :: M => if c = p.1 then (p.1, v) :: M else p :: putM c v M
def addM (M : List (ByteArray × Int)) (p : ByteArray × Int) : List (ByteArray × Int) := putM p.1 ((lookM p.1 M).getD 0 + p.2) M
def addE (f t : Int) (M : List (ByteArray × Int)) (x : En) : List (ByteArray × Int) := if f ≤ x.2.1 ∧ x.2.1 ≤ t then x.2.2.foldl addM M else M
def sumsM (f t : Int) (E : List En) : List (ByteArray × Int) := E.foldl (addE f t) []
theorem lookM_put (c c' : ByteArray) (v : Int) : ∀ M, lookM c (putM c' v M) = if c = c' then some v else lookM c M
  | [] => by simp only [putM, lookM]
  | p :: M => by
    unfold putM
    by_cases h : c' = p.1
    · rw [if_pos h]
      simp only [lookM, h]
      split <;> rfl
    · rw [if_neg h]
      simp only [lookM]
      rw [lookM_put c c' v M]
      by_cases h1 : c = p.1
      · rw [if_pos h1, if_pos h1, if_neg (fun e => h (by rw [← e]; exact h1))]
      · rw [if_neg h1, if_neg h1]
theorem lookM_add (c : ByteArray) (M : List (ByteArray × Int)) (p : ByteArray × Int) : (lookM c (addM M p)).getD 0 = (lookM c M).getD 0 + lnW c p := by
  unfold addM
  rw [lookM_put]
  unfold lnW isC
  by_cases h : c = p.1
  · rw [if_pos h, if_pos (decide_eq_true h.symm), h]; rfl
  · rw [if_neg h, if_neg (by simpa using fun e : p.1 = c => h e.symm)]; simp
theorem lookM_lines (c : ByteArray) : ∀ (l M : List (ByteArray × Int)), (lookM c (l.foldl addM M)).getD 0 = (lookM c M).getD 0 + ofL c l
  | [], M => by simp [ofL]
  | p :: l, M => by
    rw [List.foldl_cons, lookM_lines c l, lookM_add]
    simp only [ofL, List.map_cons, List.sum_cons]
    omega
theorem lookM_addE (c : ByteArray) (f t : Int) (M : List (ByteArray × Int)) (x : En) : (lookM c (addE f t M x)).getD 0 = (lookM c M).getD 0 + ofX c f t x := by
  unfold addE ofX
  split
  · exact lookM_lines c _ _
  · simp
theorem lookM_fold (c : ByteArray) (f t : Int) : ∀ (E : List En) (M : List (ByteArray × Int)), (lookM c (E.foldl (addE f t) M)).getD 0 = (lookM c M).getD 0 + ofB c f t E
  | [], M => by simp [ofB]
  | x :: E, M => by
    rw [List.foldl_cons, lookM_fold c f t E, lookM_addE]
    simp only [ofB, List.map_cons, List.sum_cons]
    omega
theorem lookM_sums (c : ByteArray) (f t : Int) (E : List En) : (lookM c (sumsM f t E)).getD 0 = ofB c f t E := by
  unfold sumsM
  rw [lookM_fold]
  simp [lookM]
theorem sumsM_succ {f t : Int} {E : List En} {k : Nat} {x : En} (h : E[k]? = some x) : sumsM f t (E.take (k + 1)) = addE f t (sumsM f t (E.take k)) x := by
  have hlt : k < E.length := (List.getElem?_eq_some_iff.1 h).1
  have he : E[k] = x := (List.getElem?_eq_some_iff.1 h).2
  unfold sumsM
  rw [List.take_succ_eq_append_getElem hlt, he, List.foldl_append]
  rfl
theorem linesM_succ {l M : List (ByteArray × Int)} {j : Nat} {p : ByteArray × Int} (h : l[j]? = some p) : (l.take (j + 1)).foldl addM M = addM ((l.take j).foldl addM M) p := by
  have hlt : j < l.length := (List.getElem?_eq_some_iff.1 h).1
  have he : l[j] = p := (List.getElem?_eq_some_iff.1 h).2
  rw [List.take_succ_eq_append_getElem hlt, he, List.foldl_append]
  rfl
end Go.Acc
namespace Go.Proofs.YtdmkmbaaemhhhaaDoor
open Go Go.Ev Go.RowKit Go.Acc
set_option maxHeartbeats 4000000
set_option linter.unusedSimpArgs false
set_option linter.unusedVariables false
attribute [local go_sem] mutV getB mvB bkB V.mv V.mvL V.bk V.bkL Blk.mv Blk.bk posN nmN backN noDup app_writes setHL_nil setHL_cons postM_ret postM_normal resM hasB_nil hasB_cons St.mut names_nil names_cons sortV cellOf mkX_M mkX_S mkX_ln lnL_at ms0_mt ms0_st V.lone V.loneL List.zip_cons_cons List.zip_nil_left Option.isNone_none bornV subE partR unB bytesW boundsV ownP sliceW copyV clearV lenM takeV tk1 mapsV mkMapV hintOk lookV updV mapKE keyOk V.key app_lend callW_fn lendV postL_ret postL_normal postT_ret postT_normal takeR St.lent mkX_L bin_eql_vz bin_eql_zv bin_eql_rz bin_eql_zr bin_eql_zz bin_neq_vz bin_neq_zv bin_neq_rz bin_neq_zr bin_neq_zz eqH nilEq nonE plainI gOf_bool gOf_skip g_some g_none Int.ofNat_zero Int.cast_ofNat_Int Bool.false_and Bool.and_false sliceV noBox elemsZ V.scrub V.scrubL Blk.scrub appendV isSlice maxLen_eq leT List.contains_nil List.contains_cons nvL_at fzL_at fillV V.plain V.plainL Blk.plain List.size_toArray mapO_nil mapO_cons Option.isNone_some beqT beqF oI_not mkX_e phi_nil phi_cons bin_eql_bool bin_neq_bool bin_eql_agg bin_neq_agg eqV eqFs eqK_int eqK_bool' eqK_str mkX_T mkX_Φ mkX_n mkX_f mkX_d mkX_r nv0_at fz0_at evQ_dr evP_W evW_nil evW_cons evW_guard okW_eq tame_none tame_new tame_write wb_none wb_new wb_write okU_some offW_none offW_some touchOf V.noRef V.noRefL Option.isSome_some Option.isSome_none mild_none mild_new Option.getD_some Option.getD_none evQ_seq evQ_region evQ_block evQ_cond evQ_ret evQ_skip evQ_exit evO_cons evO_nil evO_guard freezeL_nil oS_some oS_none oS_ite oS_ite' oB_bool oI_true oI_false oE_normal oE_exit oE_ret bQ_normal bQ_ret bQ_exit lQ_normal lQ_ret lQ_exit List.zipIdx_cons List.zipIdx_nil List.map_cons List.map_nil evalOp opd_const opd_tmp opd_func ofC_int ofC_bool ofC_str ofC_nil app_none app_new app_write app_change putE_some putE_none setA_cons setA_nil setH_cons setH_nil mapA_cons mapA_nil look_cons look_nil e_mk h_mk drop_nil drop_mk keep_mk dstOk_some dstOk_none guardT_eq true_and and_true Bool.not_false Bool.not_true selB_true selB_false mem_nil mem_cons kpL_nil kpL_cons drL_nil drL_cons closed_mk V.refsIn V.refsInL Blk.refsIn List.all_cons List.all_nil lenV bin_add bin_sub bin_mul bin_quo bin_rem bin_eql bin_neq bin_lss bin_leq bin_gtr bin_geq un_neg un_not post_ret post_normal St.init Bool.false_eq_true List.length_map Bool.or_false Bool.or_true Bool.false_or Bool.true_or beq_self_eq_true Option.map_some Option.map_none Option.bind_some List.getElem?_cons_zero List.getElem?_cons_succ scalar stor isAggV V.cells List.cons_append List.nil_append if_true if_false wrap_of callV V.dataL V.data Bool.and_true Bool.true_and fresh names V.ren V.renL retV resV packL packV packC getBlks wrapR subV putV decide_true decide_false TK.agg List.length_cons List.length_nil List.take_succ_cons List.take_zero List.drop_succ_cons List.drop_zero List.take_nil List.drop_nil Nat.zero_add Nat.add_zero List.append_nil List.getElem?_nil elemsV ro ro0 ro1 roC ty1 ty2 ty3 ty4 ty5 ty6 ty7 ty8 ty9 ty10 ty11 ty12 ty13 ty14 ty15 ty16 ty17 ty18 ty19 ty21 ty22 ty23 ty24 ty26 ty27 ty28 ty29 ty30 ty31 ty32 ty33 ty34 ty35 ty36 ty37 ty38 ty39 ty40 ty41 ty42 ty44 ty45 ty47 ty49 ty51 ty53 ty54 ty55 ty56 ty57 ty58 ty59 ty60 ty61 ty62 ty63 ty64 ty65 ty66 ty67 ty68 ty69 ty70 ty71 ty72 ty73 ty74 ty75 ty76 ty77 ty78 ty79 ty80 ty81 ty82 ty83 ty84 ty85 ty86 ty87 ty88 ty89 ty90 ty92 ty93 ty94 ty95 ty96 ty97 ty98 ty99 ty100 ty101 ty102 ty103 ty104 ty105 ty107 ty108 ty109 ty110 ty111 ty112 ty113 ty114 ty115 ty116 ty117 ty118 ty119 ty123 ty124 ty125 ty126 ty127 ty128 ty129 ty130 ty131 ty132 ty133 ty135 ty136 ty137 ty138 ty139 ty141 ty142 ty143 ty144 ty146 ty147 ty148 ty149 ty153 ty154 ty155 ty156 ty157 ty158 ty159 ty160 ty161 eqs29 eqs61 eqs79 eqs94
theorem enX_lines {x : En} (h : enX x = 0) (c : ByteArray) (j : Nat) : -12000000000000 ≤ ofL c (x.2.2.take j) ∧ ofL c (x.2.2.take j) ≤ 12000000000000 :=
  ofL_bd c (fun p hp => (enX_ok h).2.2 p (List.mem_of_mem_take hp)) (by rw [List.length_take]; have := (enX_ok h).2.1; omega)
theorem ofB_bdk (c : ByteArray) (f t : Int) {E : List En} (h : ∀ x ∈ E, enX x = 0) (hl : E.length ≤ 60) (k : Nat) : -720000000000000 ≤ ofB c f t (E.take k) ∧ ofB c f t (E.take k) ≤ 720000000000000 :=
  ofB_bd c f t (fun x hx => h x (List.mem_of_mem_take hx)) (by rw [List.length_take]; omega)
set_option maxHeartbeats 4000000 in
theorem of_sound {J : World → Prop} (hJ : Stable J) (A : List (ByteArray × Int)) (E : List En) (s : Int) (c : ByteArray) (f t : Int) (hE : ∀ x ∈ E, enX x = 0) (hl : E.length ≤ 60) : SoundAt Tryd.prog J 42 [bkV A E s, .str c, .int .i64 f, .int .i64 t] (.int .i64 (ofB c f t E)) [] := by
  unfold bkV
  refine evFn (l := []) (nv := nv0) (fz := fz0) (dr := dr42) (dd := dd42) (lam := []) (ms := ms0) trivial hJ trivial ms0_ok Tryd.func42 rfl rfl (Nat.le_of_ble_eq_true rfl) (Nat.le_of_ble_eq_true rfl) drOk42 ?_
  dsimp only [Tryd.f42, dr42, dd42, Option.getD_some]
  refine ev_start ?_
  simp (disch := omega) only [List.length_map, go_sem, Int.reduceEq, Int.reduceLT, Int.reduceLE, Int.reduceNeg, Nat.reduceAdd, Nat.reduceLT, Nat.reduceEqDiff, Nat.reduceMul, Nat.reduceLeDiff, reduceIte, Nat.reduceBEq, reduceCtorEq, evP_D, evD_guard, evD_cons, evD_zero, evD_nil]
  refine evQ_loop [1, 2, 3, 9, 15, 16, 17] [] (fun σ => ∃ (k : Nat), k ≤ E.length ∧ σ = ⟨[(1, .str c), (2, .int .i64 f), (3, .int .i64 t), (9, .int .i64 (ofB c f t (E.take k))), (15, .row 3 (E.map enW)), (16, .int .i64 E.length), (17, .int .i64 k)], []⟩)
    (fun σ => E.length - (match Ev.look 17 σ.env with | some (.int _ n) => n.toNat | _ => 0)) ?_ ?_
  · simp only [go_sem, Int.reduceEq, Int.reduceLT, Int.reduceLE, Int.reduceNeg, Nat.reduceAdd, Nat.reduceLT, Nat.reduceEqDiff, Nat.reduceMul, Nat.reduceLeDiff, reduceIte, Nat.reduceBEq, reduceCtorEq, evP_D, evD_guard, evD_cons, evD_zero, evD_nil]
    exact ⟨0, Nat.zero_le _, rfl⟩
  · rintro σ ⟨k, hkl, rfl⟩
    by_cases hlt : k < E.length
    · have hlt' : (k : Int) < E.length := by omega
      obtain ⟨⟨ky, d, l⟩, hcn⟩ : ∃ p, E[k]? = some p := ⟨_, List.getElem?_eq_getElem hlt⟩
      have hx := hE _ (List.mem_of_getElem? hcn)
      have hll : l.length ≤ 12 := (enX_ok hx).2.1
      have hg := enW_get hcn
      have hsu := ofB_succ (c := c) (f := f) (t := t) hcn
      have hb0 := ofB_bdk c f t hE hl k
      have hms : E.length - ((k : Int) + 1).toNat < E.length - (k : Int).toNat := by
        have e3 : ((k : Int) + 1).toNat = k + 1 := by omega
        rw [e3, Int.toNat_natCast]; exact Nat.sub_lt_sub_left hlt (Nat.lt_succ_self k)
      by_cases h1 : d < f
      · have e : ofX c f t (ky, d, l) = 0 := if_neg (fun h => by have := h.1; simp only at this; omega)
        rw [e, Int.add_zero] at hsu
        simp (disch := (first | omega | assumption)) only [hlt', idx_nat, List.length_map, hg, h1, go_sem, Int.reduceEq, Int.reduceLT, Int.reduceLE, Int.reduceNeg, Nat.reduceAdd, Nat.reduceLT, Nat.reduceEqDiff, Nat.reduceMul, Nat.reduceLeDiff, reduceIte, Nat.reduceBEq, reduceCtorEq, evP_D, evD_guard, evD_cons, evD_zero, evD_nil]
        exact ⟨⟨k + 1, hlt, by rw [hsu]; rfl⟩, hms⟩
      by_cases h2 : t < d
      · have e : ofX c f t (ky, d, l) = 0 := if_neg (fun h => by have := h.2; simp only at this; omega)
        rw [e, Int.add_zero] at hsu
        simp (disch := (first | omega | assumption)) only [hlt', idx_nat, List.length_map, hg, h1, h2, go_sem, Int.reduceEq, Int.reduceLT, Int.reduceLE, Int.reduceNeg, Nat.reduceAdd, Nat.reduceLT, Nat.reduceEqDiff, Nat.reduceMul, Nat.reduceLeDiff, reduceIte, Nat.reduceBEq, reduceCtorEq, evP_D, evD_guard, evD_cons, evD_zero, evD_nil]
        exact ⟨⟨k + 1, hlt, by rw [hsu]; rfl⟩, hms⟩
      have e : ofX c f t (ky, d, l) = ofL c l := if_pos ⟨by show f ≤ d; omega, by show d ≤ t; omega⟩
      rw [e] at hsu
      simp (disch := (first | omega | assumption)) only [hlt', idx_nat, List.length_map, hg, h1, h2, go_sem, Int.reduceEq, Int.reduceLT, Int.reduceLE, Int.reduceNeg, Nat.reduceAdd, Nat.reduceLT, Nat.reduceEqDiff, Nat.reduceMul, Nat.reduceLeDiff, reduceIte, Nat.reduceBEq, reduceCtorEq, evP_D, evD_guard, evD_cons, evD_zero, evD_nil]
      refine evQ_loop [1, 2, 3, 9, 15, 16, 17, 32, 33, 34] [] (fun σ => ∃ (j : Nat), j ≤ l.length ∧ σ = ⟨[(1, .str c), (2, .int .i64 f), (3, .int .i64 t), (9, .int .i64 (ofB c f t (E.take k) + ofL c (l.take j))), (15, .row 3 (E.map enW)), (16, .int .i64 E.length), (17, .int .i64 k), (32, .row 2 (l.map acV)), (33, .int .i64 l.length), (34, .int .i64 j)], []⟩)
        (fun σ => l.length - (match Ev.look 34 σ.env with | some (.int _ n) => n.toNat | _ => 0)) ?_ ?_
      · simp only [go_sem, Int.reduceEq, Int.reduceLT, Int.reduceLE, Int.reduceNeg, Nat.reduceAdd, Nat.reduceLT, Nat.reduceEqDiff, Nat.reduceMul, Nat.reduceLeDiff, reduceIte, Nat.reduceBEq, reduceCtorEq, evP_D, evD_guard, evD_cons, evD_zero, evD_nil]
        exact ⟨0, Nat.zero_le _, by rw [List.take_zero]; simp [ofL]⟩
      · rintro σ ⟨j, hjl, rfl⟩
        by_cases hjt : j < l.length
        · have hjt' : (j : Int) < l.length := by omega
          obtain ⟨⟨c', n⟩, hcl⟩ : ∃ p, l[j]? = some p := ⟨_, List.getElem?_eq_getElem hjt⟩
          have hgl := acV_get hcl
          have hsl := ofL_succ (c := c) hcl
          have hb1 := enX_lines hx c j
          have hn := (enX_ok hx).2.2 _ (List.mem_of_getElem? hcl)
          simp only at hb1 hn
          have hmj : l.length - ((j : Int) + 1).toNat < l.length - (j : Int).toNat := by
            have e3 : ((j : Int) + 1).toNat = j + 1 := by omega
            rw [e3, Int.toNat_natCast]; exact Nat.sub_lt_sub_left hjt (Nat.lt_succ_self j)
          by_cases hc : c' = c
          · have hct := eq_true hc
            have ew : lnW c (c', n) = n := if_pos (decide_eq_true hc)
            rw [ew] at hsl
            simp (disch := (first | omega | assumption)) only [hjt', idx_nat, List.length_map, hgl, bin_eql_str, hct, decide_true, go_sem, Int.reduceEq, Int.reduceLT, Int.reduceLE, Int.reduceNeg, Nat.reduceAdd, Nat.reduceLT, Nat.reduceEqDiff, Nat.reduceMul, Nat.reduceLeDiff, reduceIte, Nat.reduceBEq, reduceCtorEq, evP_D, evD_guard, evD_cons, evD_zero, evD_nil]
            exact ⟨⟨j + 1, hjt, by rw [hsl, Int.add_assoc]; rfl⟩, hmj⟩
          · have ew : lnW c (c', n) = 0 := if_neg (by simpa [isC] using hc)
            rw [ew, Int.add_zero] at hsl
            simp (disch := (first | omega | assumption)) only [hjt', idx_nat, List.length_map, hgl, bin_eql_str, hc, decide_false, go_sem, Int.reduceEq, Int.reduceLT, Int.reduceLE, Int.reduceNeg, Nat.reduceAdd, Nat.reduceLT, Nat.reduceEqDiff, Nat.reduceMul, Nat.reduceLeDiff, reduceIte, Nat.reduceBEq, reduceCtorEq, evP_D, evD_guard, evD_cons, evD_zero, evD_nil]
            exact ⟨⟨j + 1, hjt, by rw [hsl]; rfl⟩, hmj⟩
        · have hj' : j = l.length := by omega
          subst hj'
          have hjt' : ¬ ((l.length : Int) < l.length) := by omega
          simp (disch := (first | omega | assumption)) only [hjt', go_sem, Int.reduceEq, Int.reduceLT, Int.reduceLE, Int.reduceNeg, Nat.reduceAdd, Nat.reduceLT, Nat.reduceEqDiff, Nat.reduceMul, Nat.reduceLeDiff, reduceIte, Nat.reduceBEq, reduceCtorEq, evP_D, evD_guard, evD_cons, evD_zero, evD_nil]
          exact ⟨⟨k + 1, hlt, by rw [hsu, List.take_length]; rfl⟩, hms⟩
    · have hk' : k = E.length := by omega
      subst hk'
      have hlt' : ¬ ((E.length : Int) < E.length) := by omega
      simp (disch := (first | omega | assumption)) only [hlt', List.take_length, go_sem, Int.reduceEq, Int.reduceLT, Int.reduceLE, Int.reduceNeg, Nat.reduceAdd, Nat.reduceLT, Nat.reduceEqDiff, Nat.reduceMul, Nat.reduceLeDiff, reduceIte, Nat.reduceBEq, reduceCtorEq, evP_D, evD_guard, evD_cons, evD_zero, evD_nil]
def mV (M : List (ByteArray × Int)) : List (V × V) := M.map fun p => (.str p.1, .int .i64 p.2)
theorem find_mV (c : ByteArray) : ∀ M : List (ByteArray × Int), findK .str (.str c) (mV M) = some ((lookM c M).map (V.int .i64))
  | [] => rfl
  | p :: M => by
    show (match eqK .str (.str c) (.str p.1) with | some true => _ | some false => _ | none => _) = _
    rw [eqK_strs]
    by_cases h : c = p.1
    · simp only [decide_eq_true h, lookM, if_pos h]; rfl
    · simp only [decide_eq_false h, lookM, if_neg h]
      exact find_mV c M
theorem upd_mV (c : ByteArray) (v : Int) : ∀ M : List (ByteArray × Int), updK .str (.str c) (.int .i64 v) (mV M) = some (mV (putM c v M))
  | [] => rfl
  | p :: M => by
    show (match eqK .str (.str c) (.str p.1) with | some true => _ | some false => _ | none => _) = _
    rw [eqK_strs]
    by_cases h : c = p.1
    · simp only [decide_eq_true h, putM, if_pos h]; rfl
    · simp only [decide_eq_false h, putM, if_neg h]
      show (updK .str (.str c) (.int .i64 v) (mV M)).map _ = _
      rw [upd_mV c v M]
      rfl
end Go.Proofs.YtdmkmbaaemhhhaaDoor
