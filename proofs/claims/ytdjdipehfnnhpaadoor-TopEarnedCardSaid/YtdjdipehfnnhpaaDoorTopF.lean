/-
  TopEarned's law, run by the machine.
-/
import Derived.Test.YtdjdipehfnnhpaaDoorTopE
import Derived.Test.YtdjdipehfnnhpaaDoorTopQ
import Derived.Test.YtdjdipehfnnhpaaDoorBkJ
namespace Go.Proofs.YtdjdipehfnnhpaaDoor
open Go Go.Ev Go.RowKit Go.Acc Earn
set_option maxHeartbeats 4000000
set_option linter.unusedSimpArgs false
set_option linter.unusedVariables false
attribute [local go_sem] lenM takeV tk1 mapsV mkMapV hintOk lookV updV mapKE keyOk V.key app_lend callW_fn lendV postL_ret postL_normal St.lent mkX_L bin_eql_vz bin_eql_zv bin_eql_rz bin_eql_zr bin_eql_zz bin_neq_vz bin_neq_zv bin_neq_rz bin_neq_zr bin_neq_zz eqH nilEq nonE plainI gOf_bool gOf_skip g_some g_none Int.ofNat_zero Int.cast_ofNat_Int Bool.false_and Bool.and_false sliceV noBox elemsZ V.scrub V.scrubL Blk.scrub appendV isSlice maxLen_eq leT List.contains_nil List.contains_cons nvL_at fzL_at fillV V.plain V.plainL Blk.plain List.size_toArray mapO_nil mapO_cons Option.isNone_none Option.isNone_some beqT beqF oI_not mkX_e phi_nil phi_cons bin_eql_bool bin_neq_bool bin_eql_agg bin_neq_agg eqV eqFs eqK_int eqK_bool' eqK_str mkX_T mkX_Φ mkX_n mkX_f mkX_d mkX_r nv0_at fz0_at evQ_dr evP_W evW_nil evW_cons evW_guard okW_eq tame_none tame_new tame_write wb_none wb_new wb_write okU_some offW_none offW_some touchOf V.noRef V.noRefL Option.isSome_some Option.isSome_none mild_none mild_new Option.getD_some Option.getD_none evQ_seq evQ_region evQ_block evQ_cond evQ_ret evQ_skip evQ_exit evO_cons evO_nil evO_guard freezeL_nil oS_some oS_none oS_ite oS_ite' oB_bool oI_true oI_false oE_normal oE_exit oE_ret bQ_normal bQ_ret bQ_exit lQ_normal lQ_ret lQ_exit List.zipIdx_cons List.zipIdx_nil List.map_cons List.map_nil evalOp opd_const opd_tmp opd_func ofC_int ofC_bool ofC_str ofC_nil app_none app_new app_write app_change putE_some putE_none setA_cons setA_nil setH_cons setH_nil mapA_cons mapA_nil look_cons look_nil e_mk h_mk drop_nil drop_mk keep_mk dstOk_some dstOk_none guardT_eq true_and and_true Bool.not_false Bool.not_true selB_true selB_false mem_nil mem_cons kpL_nil kpL_cons drL_nil drL_cons closed_mk V.refsIn V.refsInL Blk.refsIn List.all_cons List.all_nil lenV bin_add bin_sub bin_mul bin_quo bin_rem bin_eql bin_neq bin_lss bin_leq bin_gtr bin_geq un_neg un_not post_ret post_normal St.init Bool.false_eq_true List.length_map Bool.or_false Bool.or_true Bool.false_or Bool.true_or beq_self_eq_true Option.map_some Option.map_none Option.bind_some List.getElem?_cons_zero List.getElem?_cons_succ scalar stor isAggV V.cells List.cons_append List.nil_append if_true if_false wrap_of callV V.dataL V.data Bool.and_true Bool.true_and fresh names V.ren V.renL retV resV packL packV packC getBlks wrapR subV putV decide_true decide_false TK.agg List.length_cons List.length_nil List.take_succ_cons List.take_zero List.drop_succ_cons List.drop_zero List.take_nil List.drop_nil Nat.zero_add Nat.add_zero List.append_nil List.getElem?_nil elemsV ro ro0 ro1 roC ty2 ty3 ty4 ty5 ty6 ty7 ty8 ty9 ty10 ty11 ty12 ty13 ty14 ty18 ty19 ty21 ty24 ty25 ty28 ty29 ty30 ty31 ty35 ty36 ty37 ty45 ty50 ty51 ty71 ty75 ty79 ty80 ty84 ty91 ty92 ty98 ty99 ty109 ty114 ty129 ty134 ty146 ty158 ty159 ty160 ty161 ty165 ty166 ty171 ty172 ty175 ty176 ty177 ty178 eqs51 eqs80 eqs92 eqs99
theorem within_ex {J : World → Prop} (hJ : Stable J) : ∃ F : List V → Option (V × List Blk), (∀ (k n : Int), 0 < n → n ≤ 9223372036854775807 → F [.int .i64 k, .int .i64 n] = some (.int .i64 (wthn k n), [])) ∧ Snd Tryd.prog J 10 F := by
  obtain ⟨F, h1, h2⟩ := fam_ex (P := Tryd.prog) (J := J) (f := 10) (fun x : { x : Int × Int // 0 < x.2 ∧ x.2 ≤ 9223372036854775807 } => [.int .i64 x.1.1, .int .i64 x.1.2]) (fun x => (.int .i64 (wthn x.1.1 x.1.2), [])) (fun i j h => by
    simp only [List.cons.injEq, V.int.injEq, true_and, and_true] at h
    rw [h.1, h.2]) fun x => within_sound hJ x.1.1 x.1.2 x.2.1 x.2.2
  exact ⟨F, fun k n h0 hn => h1 ⟨(k, n), h0, hn⟩, h2⟩
theorem moved_ex {J : World → Prop} (hJ : Stable J) : ∃ F : List V → Option (V × List Blk), (∀ (n : Nat) (at_ a : Int) (to from_ : ByteArray), n < 100 → -1000000000000 ≤ a → a ≤ 1000000000000 → F [.int .i64 n, .int .i64 at_, .int .i64 a, .str to, .str from_] = some (enW (mvX n at_ a to from_), [])) ∧ Snd Tryd.prog J 14 F := by
  obtain ⟨F, h1, h2⟩ := fam_ex (P := Tryd.prog) (J := J) (f := 14) (fun x : { x : Nat × Int × Int × ByteArray × ByteArray // x.1 < 100 ∧ -1000000000000 ≤ x.2.2.1 ∧ x.2.2.1 ≤ 1000000000000 } => [.int .i64 x.1.1, .int .i64 x.1.2.1, .int .i64 x.1.2.2.1, .str x.1.2.2.2.1, .str x.1.2.2.2.2]) (fun x => (enW (mvX x.1.1 x.1.2.1 x.1.2.2.1 x.1.2.2.2.1 x.1.2.2.2.2), [])) (fun i j h => by
    simp only [List.cons.injEq, V.int.injEq, V.str.injEq, true_and, and_true] at h
    have h0 : i.1.1 = j.1.1 := by omega
    rw [h0, h.2.1, h.2.2.1, h.2.2.2.1, h.2.2.2.2]) fun x => moved_sound hJ x.1.1 x.1.2.1 x.1.2.2.1 x.1.2.2.2.1 x.1.2.2.2.2 x.2.1 x.2.2.1 x.2.2.2
  exact ⟨F, fun n at_ a to from_ hn h0 h1' => h1 ⟨(n, at_, a, to, from_), hn, h0, h1'⟩, h2⟩
theorem enW_inj {E E' : List En} (h : E.map enW = E'.map enW) : E = E' := by
  have := congrArg unEn h
  rw [unEn_map, unEn_map] at this
  exact Option.some.inj this
theorem enW_inj1 {x x' : En} (h : enW x = enW x') : x = x' := by
  have := enW_inj (E := [x]) (E' := [x']) (by simp [h])
  simpa using this
theorem post_ex {J : World → Prop} (hJ : Stable J) (A : List (ByteArray × Int)) (s : Int) : ∃ F : List V → Option (V × List Blk), (∀ (E : List En) (x : En), E.length ≤ maxLen → F [.agg [.row 2 (A.map acV), .row 3 (E.map enW), .int .i64 s], enW x] = some (posR A E s x, [])) ∧ Snd Tryd.prog J 12 F := by
  obtain ⟨F, h1, h2⟩ := fam_ex (P := Tryd.prog) (J := J) (f := 12) (fun x : { x : List En × En // x.1.length ≤ maxLen } => [bkV A x.1.1 s, enW x.1.2]) (fun x => (posR A x.1.1 s x.1.2, [])) (fun i j h => by
    simp only [List.cons.injEq, bkV, V.agg.injEq, V.row.injEq, true_and, and_true] at h
    rw [enW_inj h.1, enW_inj1 h.2]) fun x => post_sound hJ A x.1.1 s x.1.2 x.2
  exact ⟨F, fun E x hE => h1 ⟨(E, x), hE⟩, h2⟩
theorem balance_ex {J : World → Prop} (hJ : Stable J) (A : List (ByteArray × Int)) (s : Int) : ∃ F : List V → Option (V × List Blk), (∀ (E : List En) (c : ByteArray) (d : Int), E.length ≤ maxLen → F [.agg [.row 2 (A.map acV), .row 3 (E.map enW), .int .i64 s], .str c, .int .i64 d] = some (.tup [.int .i64 (balN A E s c d), .int .i64 (balE A E s c d)], [])) ∧ Snd Tryd.prog J 16 F := by
  obtain ⟨F, h1, h2⟩ := fam_ex (P := Tryd.prog) (J := J) (f := 16) (fun x : { x : List En × ByteArray × Int // x.1.length ≤ maxLen } => [bkV A x.1.1 s, .str x.1.2.1, .int .i64 x.1.2.2]) (fun x => (.tup [.int .i64 (balN A x.1.1 s x.1.2.1 x.1.2.2), .int .i64 (balE A x.1.1 s x.1.2.1 x.1.2.2)], [])) (fun i j h => by
    simp only [List.cons.injEq, bkV, V.agg.injEq, V.row.injEq, V.str.injEq, V.int.injEq, true_and, and_true] at h
    rw [enW_inj h.1, h.2.1, h.2.2]) fun x => balance_sound hJ A x.1.1 s x.1.2.1 x.1.2.2 x.2
  exact ⟨F, fun E c d hE => h1 ⟨(E, c, d), hE⟩, h2⟩
theorem bal_ok {A : List (ByteArray × Int)} {E : List En} {s : Int} {c : ByteArray} {d : Int} (h : bkChk A E s = 0) (hc : hasA A c = true) (h0 : 0 ≤ d) (h1 : d ≤ 292193) : balE A E s c d = 0 ∧ balN A E s c d = ofB c 0 d E := by
  have b1 : balE A E s c d = 0 := by unfold balE; rw [if_neg (fun hh => hh h), if_neg (by rw [hc]; simp), if_neg (fun hh => hh ⟨h0, h1⟩)]
  exact ⟨b1, by unfold balN; rw [if_pos b1]⟩
def endsL (f : Int) (i : Nat) : List V := (List.range i).map fun j => V.int .i64 (endI f j)
theorem endsL_len (f : Int) (i : Nat) : (endsL f i).length = i := by simp [endsL]
theorem endsL_get {f : Int} {i j : Nat} (h : j < i) : (endsL f i)[j]? = some (.int .i64 (endI f j)) := by
  unfold endsL
  rw [List.getElem?_map, List.getElem?_range h]
  rfl
theorem endsL_succ (f : Int) (i : Nat) : endsL f (i + 1) = endsL f i ++ [.int .i64 (endI f i)] := by
  unfold endsL
  rw [List.range_succ, List.map_append]
  rfl
theorem steps_getV (F : Int → Int) {m i : Nat} (h : i < m) : ((steps F m).map (V.int .i64))[i]? = some (.int .i64 (F ((i + 1 : Nat) : Int) - F i)) := by
  unfold steps
  rw [List.getElem?_map, List.getElem?_map, List.getElem?_range h]
  rfl
set_option maxRecDepth 20000 in
set_option maxHeartbeats 16000000 in
theorem earned_law (amount from_ long k : Int) : SoundAt Tryd.prog Tab 3 [.int .i64 amount, .int .i64 from_, .int .i64 long, .int .i64 k] (.bool true) [] := by
  have hJ := stableT
  have hBg := begun_sound hJ
  have hPl := tplain_sound hJ
  obtain ⟨WF, hWF, hWFs⟩ := within_ex hJ
  obtain ⟨MF, hMF, hMFs⟩ := moved_ex hJ
  obtain ⟨PF, hPF, hPFs⟩ := post_ex hJ plA (-1)
  obtain ⟨BF, hBF, hBFs⟩ := balance_ex hJ plA (-1)
  have W1 := hWF from_ 290993 (by decide) (by decide)
  have W2 := hWF long 1000 (by decide) (by decide)
  have W3 := hWF amount 1000000000000 (by decide) (by decide)
  have wb1 := wthn_bd from_ (n := 290993) (by decide)
  have wb2 := wthn_bd long (n := 1000) (by decide)
  have wb3 := wthn_bd amount (n := 1000000000000) (by decide)
  obtain ⟨f, hf⟩ : ∃ f, f = wthn from_ 290993 := ⟨_, rfl⟩
  obtain ⟨t, ht⟩ : ∃ t, t = f + wthn long 1000 := ⟨_, rfl⟩
  obtain ⟨a, ha⟩ : ∃ a, a = 1 + wthn amount 1000000000000 := ⟨_, rfl⟩
  rw [← hf] at wb1 W1
  generalize wthn long 1000 = L at *
  generalize wthn amount 1000000000000 = Q at *
  have f0 : 0 ≤ f := wb1.1
  have hft : f ≤ t := by omega
  have t1 : t ≤ 292193 := by omega
  have a0 : 1 ≤ a := by omega
  have a1 : a ≤ 1000000000000 := by omega
  have hok : okE a f t := ⟨⟨by omega, a1⟩, ⟨f0, by omega⟩, ⟨by omega, t1⟩, hft⟩
  have h37 := many_bd f0 hft t1 (by omega)
  have hm1 := many_pos f0 hft t1
  obtain ⟨M, hM⟩ : ∃ M : Nat, (M : Int) = many f t := ⟨(many f t).toNat, by omega⟩
  have hMo := months_sound a f t
  have eM : monthsV a f t = (.tup [.vec 0, .int .i64 0], [.vec 3 1 ((steps (F a f t) M).map (V.int .i64))]) := by
    unfold monthsV; rw [if_pos hok, if_pos (by omega), ← hM, Int.toNat_natCast]
  rw [eM] at hMo
  simp only at hMo
  have W4 := hWF k M (by omega) (by omega)
  have wb4 := wthn_bd k (n := (M : Int)) (by omega)
  obtain ⟨K, hK⟩ : ∃ K : Nat, (K : Int) = wthn k M := ⟨(wthn k M).toNat, by omega⟩
  rw [← hK] at W4 wb4
  have hKM : K < M := by omega
  have hBy := eby_sound hJ a f t (endI f K)
  have eK := endI_eq f0 hft t1 (i := K) (by omega)
  have eBy : ebyV a f t (endI f K) = .tup [.int .i64 (F a f t ((K + 1 : Nat) : Int)), .int .i64 0] := by
    unfold ebyV; rw [if_pos hok, if_pos ⟨eK.2.1, eK.2.2.1⟩, F_end f0 hft t1 (by omega)]
  rw [eBy] at hBy
  obtain ⟨z1, z2⟩ := erd_zero (t := t) a0 a1 f0 (by omega)
  have P0 := hPF [] (mvX 99 f a c10 c20) (by simp)
  have R0 : posR plA [] (-1) (mvX 99 f a c10 c20) = .tup [.agg [.row 2 (plA.map acV), .row 3 ((postB [] (mvX 99 f a c10 c20)).map enW), .int .i64 (-1)], .int .i64 0] := by unfold posR; rw [z1, if_pos rfl]; rfl
  rw [R0] at P0
  have M0 := hMF 99 f a c10 c20 (by omega) (by omega) a1
  unfold bkV at hPl
  generalize hE0 : postB [] (mvX 99 f a c10 c20) = E0 at *
  obtain ⟨⟨xk, xd, xl⟩, hX0⟩ : ∃ x, x = mvX 99 f a c10 c20 := ⟨_, rfl⟩
  rw [← hX0] at P0 M0
  rw [enW_mk] at P0 M0
  have hlen0 : ¬ ((M : Int) = 0) := by omega
  simp only [c10, c20] at M0
  rw [show ((99 : Nat) : Int) = 99 from rfl] at M0
  simp only [List.map_nil] at P0
  refine evFn (l := [(9, at1 _ (_, [])), (13, at1 _ (_, [])), (10, WF), (14, MF), (12, PF), (16, BF), (11, at1 _ (_, _)), (17, at1 _ (_, [])), (15, lastF)]) (nv := (nvL [(13, (3, 1))])) (fz := fz0) (dr := dr3) (dd := dd3) (lam := []) ⟨at1_snd hBg, at1_snd hPl, hWFs, hMFs, hPFs, hBFs, at1_snd hMo, at1_snd hBy, last_snd, trivial⟩ hJ trivial Tryd.func3 rfl rfl (Nat.le_of_ble_eq_true rfl) (Nat.le_of_ble_eq_true rfl) drOk3 ?_
  dsimp only [Tryd.f3, dr3, dd3, Option.getD_some]
  refine ev_start ?_
  simp (disch := omega) only [at1_eq, W1, W2, W3, ← ht, ← ha, M0, P0, List.length_map, steps_len, hlen0, go_sem, Int.reduceEq, Int.reduceLT, Int.reduceLE, Int.reduceNeg, Nat.reduceAdd, Nat.reduceLT, Nat.reduceEqDiff, Nat.reduceMul, Nat.reduceLeDiff, reduceIte, Nat.reduceBEq, reduceCtorEq, evP_D, evD_guard, evD_cons, evD_zero, evD_nil]
  refine evQ_loop [0, 1, 3, 9, 12, 13, 60, 61, 62] [96, 104, 320] (fun σ => ∃ (i : Nat) (E : List En), (i ≤ M ∧ Erd a f t i E) ∧ σ = ⟨[(0, .int .i64 a), (1, .int .i64 f), (3, .int .i64 k), (9, .int .i64 t), (12, .ptr 96 0), (13, .vec 104), (60, .vec 320), (61, .int .i64 M), (62, .int .i64 i)], [(320, .vec 3 1 ((steps (F a f t) M).map (V.int .i64))), (96, .box (.agg [.row 2 (plA.map acV), .row 3 (E.map enW), .int .i64 (-1)])), (104, .vec 3 1 (endsL f i))]⟩)
    (fun σ => M - (match Ev.look 62 σ.env with | some (.int _ n) => n.toNat | _ => 0)) ?_ ?_
  · simp only [go_sem, Int.reduceEq, Int.reduceLT, Int.reduceLE, Int.reduceNeg, Nat.reduceAdd, Nat.reduceLT, Nat.reduceEqDiff, Nat.reduceMul, Nat.reduceLeDiff, reduceIte, Nat.reduceBEq, reduceCtorEq, evP_D, evD_guard, evD_cons, evD_zero, evD_nil]
    exact ⟨0, E0, ⟨Nat.zero_le _, z2⟩, rfl⟩
  · rintro σ ⟨i, E, ⟨hiM, hEr⟩, rfl⟩
    have hEl := (bkChk_iff.1 hEr.ok).2.2.1
    have hEm : E.length ≤ maxLen := by unfold maxLen; omega
    by_cases hlt : i < M
    · have hlt' : (i : Int) < M := by omega
      have him : (i : Int) < many f t := by omega
      have eI := endI_eq f0 hft t1 him
      have L1 : lastF [.int .i64 (dayI f i)] = some (.tup [.int .i64 (endI f i), .int .i64 0], []) := lastF_eq eI.2.2.2.2
      have hst := steps_getV (F a f t) hlt
      have hes := endsL_succ f i
      have hel := endsL_len f i
      have r1 := F_range (a := a) (f := f) (t := t) (k := ((i + 1 : Nat) : Int)) (by omega) hft
      have r2 := F_range (a := a) (f := f) (t := t) (k := (i : Int)) (by omega) hft
      have hms : M - ((i : Int) + 1).toNat < M - (i : Int).toNat := by
        have e3 : ((i : Int) + 1).toNat = i + 1 := by omega
        rw [e3, Int.toNat_natCast]; exact Nat.sub_lt_sub_left hlt (Nat.lt_succ_self i)
      have hnxt : (if i = 0 then f else endI f (i - 1) + 1) = dayI f i := by
        by_cases h0 : i = 0
        · rw [if_pos h0, h0]; rfl
        · rw [if_neg h0, ← endI_next f0 hft t1 (i := i - 1) (by omega), show i - 1 + 1 = i by omega]
      by_cases hn : F a f t ((i + 1 : Nat) : Int) - F a f t i = 0
      · have hsk := erd_skip hEr f0 hft t1 him hn
        rw [hn] at hst
        by_cases h0 : i = 0
        · subst h0
          rw [if_pos rfl] at hnxt
          rw [← hnxt] at L1
          have z0 : ((0 : Nat) : Int) = 0 := rfl
          have hi0 := idx_nat M 0 hlt
          rw [z0] at hlt' hi0 hms
          rw [z0]
          simp (disch := (first | omega | assumption)) only [hlt', hi0, List.length_map, steps_len, hst, L1, hel, Nat.zero_add, go_sem, Int.reduceEq, Int.reduceLT, Int.reduceLE, Int.reduceNeg, Nat.reduceAdd, Nat.reduceLT, Nat.reduceEqDiff, Nat.reduceMul, Nat.reduceLeDiff, reduceIte, Nat.reduceBEq, reduceCtorEq, evP_D, evD_guard, evD_cons, evD_zero, evD_nil]
          exact ⟨⟨1, E, ⟨hlt, hsk⟩, by rw [hes]; rfl⟩, hms⟩
        · have h0' : (0 : Int) < i := by omega
          rw [if_neg h0] at hnxt
          have e1 : (i : Int) - 1 = ((i - 1 : Nat) : Int) := by omega
          have hgt := endsL_get (f := f) (show i - 1 < i by omega)
          have eP := endI_eq f0 hft t1 (i := i - 1) (by omega)
          rw [← hnxt] at L1
          simp (disch := (first | omega | assumption)) only [hlt', h0', e1, idx_nat, List.length_map, steps_len, hst, L1, hgt, hel, go_sem, Int.reduceEq, Int.reduceLT, Int.reduceLE, Int.reduceNeg, Nat.reduceAdd, Nat.reduceLT, Nat.reduceEqDiff, Nat.reduceMul, Nat.reduceLeDiff, reduceIte, Nat.reduceBEq, reduceCtorEq, evP_D, evD_guard, evD_cons, evD_zero, evD_nil]
          exact ⟨⟨i + 1, E, ⟨hlt, hsk⟩, by rw [hes]; rfl⟩, hms⟩
      · obtain ⟨q1, q2⟩ := erd_post hEr a0 a1 f0 hft t1 him h37 hn
        have M1 := hMF i (endI f i) (F a f t ((i + 1 : Nat) : Int) - F a f t i) c20 c40 (by omega) (by omega) (by omega)
        have P1 := hPF E (mvX i (endI f i) (F a f t ((i + 1 : Nat) : Int) - F a f t i) c20 c40) hEm
        have R1 : posR plA E (-1) (mvX i (endI f i) (F a f t ((i + 1 : Nat) : Int) - F a f t i) c20 c40) = .tup [.agg [.row 2 (plA.map acV), .row 3 ((postB E (mvX i (endI f i) (F a f t ((i + 1 : Nat) : Int) - F a f t i) c20 c40)).map enW), .int .i64 (-1)], .int .i64 0] := by unfold posR; rw [q1, if_pos rfl]; rfl
        rw [R1] at P1
        generalize postB E (mvX i (endI f i) (F a f t ((i + 1 : Nat) : Int) - F a f t i) c20 c40) = E' at *
        obtain ⟨⟨yk, yd, yl⟩, hX⟩ : ∃ x, x = mvX i (endI f i) (F a f t ((i + 1 : Nat) : Int) - F a f t i) c20 c40 := ⟨_, rfl⟩
        rw [← hX] at P1 M1
        rw [enW_mk] at P1 M1
        simp only [c20, c40] at M1
        clear R1 hX q1
        generalize F a f t ((i + 1 : Nat) : Int) - F a f t i = N at *
        by_cases h0 : i = 0
        · subst h0
          rw [if_pos rfl] at hnxt
          rw [← hnxt] at L1
          have z0 : ((0 : Nat) : Int) = 0 := rfl
          have hi0 := idx_nat M 0 hlt
          rw [z0] at hlt' hi0 hms M1
          rw [z0]
          simp (disch := (first | omega | assumption)) only [hlt', hi0, List.length_map, steps_len, hst, L1, hel, Nat.zero_add, hn, M1, P1, go_sem, Int.reduceEq, Int.reduceLT, Int.reduceLE, Int.reduceNeg, Nat.reduceAdd, Nat.reduceLT, Nat.reduceEqDiff, Nat.reduceMul, Nat.reduceLeDiff, reduceIte, Nat.reduceBEq, reduceCtorEq, evP_D, evD_guard, evD_cons, evD_zero, evD_nil]
          exact ⟨⟨1, E', ⟨hlt, q2⟩, by rw [hes]; rfl⟩, hms⟩
        · have h0' : (0 : Int) < i := by omega
          rw [if_neg h0] at hnxt
          have e1 : (i : Int) - 1 = ((i - 1 : Nat) : Int) := by omega
          have hgt := endsL_get (f := f) (show i - 1 < i by omega)
          have eP := endI_eq f0 hft t1 (i := i - 1) (by omega)
          rw [← hnxt] at L1
          simp (disch := (first | omega | assumption)) only [hlt', h0', e1, idx_nat, List.length_map, steps_len, hst, L1, hgt, hel, hn, M1, P1, go_sem, Int.reduceEq, Int.reduceLT, Int.reduceLE, Int.reduceNeg, Nat.reduceAdd, Nat.reduceLT, Nat.reduceEqDiff, Nat.reduceMul, Nat.reduceLeDiff, reduceIte, Nat.reduceBEq, reduceCtorEq, evP_D, evD_guard, evD_cons, evD_zero, evD_nil]
          exact ⟨⟨i + 1, E', ⟨hlt, q2⟩, by rw [hes]; rfl⟩, hms⟩
    · have hiM' : i = M := by omega
      subst hiM'
      have hlt' : ¬ ((i : Int) < (i : Int)) := by omega
      have hel := endsL_len f i
      have gK := endsL_get (f := f) hKM
      have e1 : (i : Int) - 1 = ((i - 1 : Nat) : Int) := by omega
      have gL := endsL_get (f := f) (show i - 1 < i by omega)
      have eL := endI_eq f0 hft t1 (i := i - 1) (by omega)
      have BK := hBF E c40 (endI f K) hEm
      have BL := hBF E c20 (endI f (i - 1)) hEm
      obtain ⟨k1, k2⟩ := bal_ok (d := endI f K) hEr.ok plA_has.2.2.2.2.1 eK.2.1 eK.2.2.1
      obtain ⟨l1, l2⟩ := bal_ok (d := endI f (i - 1)) hEr.ok plA_has.2.2.1 eL.2.1 eL.2.2.1
      have hall := end_all f0 hft t1 (i := i - 1) (by omega)
      have hFM : F a f t (i : Int) = a := by
        have := F_end (a := a) f0 hft t1 (i := i - 1) (by omega)
        rw [show i - 1 + 1 = i by omega] at this
        rw [this, ear_all (by omega) hft hall]
      have hnow := (hEr.now (endI f (i - 1)) eL.2.2.2.1 fun m hm => by
        by_cases hmi : m = i - 1
        · subst hmi; exact Int.le_refl _
        · exact Int.le_of_lt (endI_lt f0 hft t1 (by omega) (by omega))).2
      rw [k1, k2, hEr.was K hKM] at BK
      rw [l1, l2, hnow, hFM, show -a + a = 0 by omega] at BL
      have rK := F_range (a := a) (f := f) (t := t) (k := ((K + 1 : Nat) : Int)) (by omega) hft
      simp only [c40] at BK
      simp only [c20] at BL
      generalize F a f t ((K + 1 : Nat) : Int) = FK at *
      simp (disch := (first | omega | assumption)) only [hlt', at1_eq, hel, W4, idx_nat, gK, e1, gL, BK, BL, Int.zero_sub, go_sem, Int.reduceEq, Int.reduceLT, Int.reduceLE, Int.reduceNeg, Nat.reduceAdd, Nat.reduceLT, Nat.reduceEqDiff, Nat.reduceMul, Nat.reduceLeDiff, reduceIte, Nat.reduceBEq, reduceCtorEq, evP_D, evD_guard, evD_cons, evD_zero, evD_nil]
end Go.Proofs.YtdjdipehfnnhpaaDoor
