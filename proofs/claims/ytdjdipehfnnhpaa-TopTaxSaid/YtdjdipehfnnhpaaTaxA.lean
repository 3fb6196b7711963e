/-
  Bills with a tax in them, in plain words: what is posted is all of it; parts add up.
  Contracts for bills with a tax in them: sums, what is moved as lines of one's own, taxes, profits.
-/
import Derived.Test.YtdjdipehfnnhpaaTopG
import Derived.Test.YtdjdipehfnnhpaaTsG
import Derived.Test.YtdjdipehfnnhpaaSplF
import Derived.Test.YtdjdipehfnnhpaaMoney
namespace Go.Proofs.Ytdjdipehfnnhpaa
open Go Go.Acc Go.Spl Go.Srt
set_option linter.unusedVariables false
set_option linter.unusedSimpArgs false
/-! ### parts of an amount add up to it -/
theorem sum_set : ∀ (l : List Int) (i : Nat) (v x : Int), l[i]? = some x → (l.set i v).sum = l.sum - x + v
  | [], i, v, x, h => by simp at h
  | y :: l, 0, v, x, h => by
    simp at h
    subst h
    simp only [List.set_cons_zero, List.sum_cons]
    omega
  | y :: l, i + 1, v, x, h => by
    have := sum_set l i v x (by simpa using h)
    simp only [List.set_cons_succ, List.sum_cons, this]
    omega
theorem outL_sum {q : Nat → Int} {σ : Nat → Nat} {n : Nat} (hp : PermOn 0 n σ) : ∀ t, t ≤ n → (outL q σ n t).sum = ((List.range n).map q).sum + t
  | 0, _ => by rw [outL_zero]; simp
  | t + 1, h => by
    have hs : σ t < n := (PermOn.lt hp (Nat.le_refl n) (show t < n by omega))
    rw [← outL_step, sum_set _ _ _ _ (outL_get q σ t hs (took_self hp)), outL_sum hp t (by omega)]
    omega
theorem dsum_sum (a W : Int) (l : List Int) : ∀ k, ((List.range k).map (qt a W l)).sum = dsum a W l k
  | 0 => rfl
  | k + 1 => by
    rw [List.range_succ, List.map_append, List.sum_append, dsum_sum a W l k]
    simp [dsum]
theorem parts_sum {a : Int} {l : List Int} (h : byE a l = 0) : (partsL (mag a) l).sum = mag a := by
  have hS := spl_of h
  obtain ⟨L, hL, hLn⟩ := hS.left
  rw [partsL_eq hS hL, outL_sum (ord_perm _ _) L (by omega), dsum_sum]
  omega
theorem parts_bd {a : Int} {l : List Int} (h : byE a l = 0) (x : Int) (hx : x ∈ partsL (mag a) l) : 0 ≤ x ∧ x ≤ 1000000000001 := by
  have hS := spl_of h
  obtain ⟨L, hL, hLn⟩ := hS.left
  rw [partsL_eq hS hL] at hx
  obtain ⟨i, hi, rfl⟩ := List.mem_iff_getElem.1 hx
  have hi' : i < l.length := by rw [outL_len] at hi; exact hi
  have := outL_bd (q := qt (mag a) (wsum l l.length) l) (σ := ord (rm (mag a) (wsum l l.length) l) l.length) (t := L) (M := mag a) (fun i hi => hS.qt hi) hi'
  have e : ge (outL (qt (mag a) (wsum l l.length) l) (ord (rm (mag a) (wsum l l.length) l) l.length) l.length L) i = (outL (qt (mag a) (wsum l l.length) l) (ord (rm (mag a) (wsum l l.length) l) l.length) l.length L)[i] := by
    unfold ge
    rw [List.getD_eq_getElem?_getD, List.getElem?_eq_getElem hi]
    rfl
  rw [e] at this
  have := hS.m1
  omega
end Go.Proofs.Ytdjdipehfnnhpaa
namespace Go.Acc
open Go
/-! ### bills -/
def txX (n : Nat) (net tax : Int) : En := if 0 < tax then (keyT n, (n : Int), [(c10, net + tax), (c40, -net), (c20, -tax)]) else mvX n n net c10 c40
theorem post_any {E : List En} {x : En} (hb : bkChk plA E (-1) = 0) (hx : enX x = 0) (hno : ∀ y ∈ E, y.1 ≠ x.1) (hk : knownB plA x = true) (h0 : 0 ≤ x.2.1) (hl : E.length < 60) :
    postE plA E (-1) x = 0 ∧ postB E x = insE x E := by
  have hg : getE x.1 E = none := by
    unfold getE
    rw [List.find?_eq_none]
    intro y hy
    rw [decide_eq_true_eq]
    exact hno y hy
  constructor
  · unfold postE
    rw [if_neg (fun h => h hb), if_neg (fun h => h hx)]
    simp only [hg]
    rw [if_neg (by rw [hk]; simp), if_neg (by omega), if_neg (by omega)]
  · unfold postB
    simp only [hg]
theorem cs_ne : c10 ≠ c40 ∧ c10 ≠ c20 ∧ c40 ≠ c20 ∧ c10 ≠ c50 ∧ c40 ≠ c50 ∧ c20 ≠ c50 := by decide +kernel
theorem txX_key (n : Nat) (net tax : Int) : (txX n net tax).1 = keyT n ∧ (txX n net tax).2.1 = n := by
  unfold txX
  split <;> exact ⟨rfl, rfl⟩
theorem txX_ok {n : Nat} {net tax : Int} (hn : n < 100) (h1 : 1 ≤ net) (h2 : 0 ≤ tax) (h3 : net + tax ≤ 1000000000000) : enX (txX n net tax) = 0 ∧ knownB plA (txX n net tax) = true := by
  have hc := codes_ok
  have hh := plA_has
  unfold txX
  split
  · rename_i ht
    have hk := keyT_ok ⟨n, hn⟩
    simp only at hk
    have d1 : decide (c10 = c40) = false := decide_eq_false cs_ne.1
    have d2 : decide (c10 = c20) = false := decide_eq_false cs_ne.2.1
    have d3 : decide (c40 = c20) = false := decide_eq_false cs_ne.2.2.1
    constructor
    · have e1 : lnE [] [(c10, net + tax), (c40, -net), (c20, -tax)] = 0 := by
        simp only [lnE, hc.1, hc.2.2.1, hc.2.2.2.2.1, hasC, List.any_nil, List.nil_append, List.cons_append, List.any_cons, d1, d2, d3, Bool.or_false, Bool.true_eq_false, if_false, Bool.false_eq_true]
        rw [if_neg (fun h => h ⟨⟨by omega, by omega⟩, by omega⟩), if_neg (fun h => h ⟨⟨by omega, by omega⟩, by omega⟩), if_neg (fun h => h ⟨⟨by omega, by omega⟩, by omega⟩)]
      have e2 : lnSum [(c10, net + tax), (c40, -net), (c20, -tax)] 3 = 0 := by
        simp [lnSum]
        omega
      unfold enX enE lnChk
      simp only [hk, e1, Bool.true_eq_false, if_false, List.length_cons, List.length_nil]
      rw [if_neg (fun h => h ⟨by omega, by omega⟩), if_neg (by omega), if_neg (fun h => h rfl), if_neg (fun h => by rcases h with h | h; omega; exact h e2)]
    · unfold knownB
      simp [hh.1, hh.2.2.1, hh.2.2.2.2.1]
  · exact ⟨enX_mv hn (by omega) (by omega) (by omega) (by omega) (by omega) hc.1 hc.2.2.2.2.1 cs_ne.1, known_mv hh.1 hh.2.2.2.2.1⟩
theorem txX_of {n : Nat} {net tax : Int} (hn : n ≤ 99) (h2 : 0 ≤ tax) : ofX c10 0 99 (txX n net tax) = net + tax ∧ ofX c20 0 99 (txX n net tax) = -tax ∧ ofX c40 0 99 (txX n net tax) = -net ∧ ofX c50 0 99 (txX n net tax) = 0 := by
  have hd := eq_true (show (0 : Int) ≤ (n : Int) ∧ (n : Int) ≤ 99 by omega)
  obtain ⟨n1, n2, n3, n4, n5, n6⟩ := cs_ne
  unfold txX
  split
  · unfold ofX
    simp only [hd, if_true, ofL, List.map_cons, List.map_nil, List.sum_cons, List.sum_nil, lnW, isC, decide_eq_true_eq, n1, n2, n3, n4, n5, n6, Ne.symm n1, Ne.symm n2, Ne.symm n3, if_false]
    omega
  · simp only [ofX_mv, hd, if_true, n1, n2, n3, n4, n5, Ne.symm n1, if_false]
    omega
structure Txd (i : Nat) (all taxes : Int) (E : List En) : Prop where
  ok : bkChk plA E (-1) = 0
  len : E.length ≤ i
  keys : ∀ y ∈ E, ∃ j, j < i ∧ y.1 = keyT j
  a10 : ofB c10 0 99 E = all
  a20 : ofB c20 0 99 E = -taxes
  a40 : ofB c40 0 99 E = -(all - taxes)
  a50 : ofB c50 0 99 E = 0
theorem txd_zero : Txd 0 0 0 [] := ⟨plain_ok, Nat.le_refl _, (fun y hy => by cases hy), rfl, rfl, rfl, rfl⟩
theorem txd_post {i : Nat} {all taxes net tax : Int} {E : List En} (h : Txd i all taxes E) (hi : i < 30) (h1 : 1 ≤ net) (h2 : 0 ≤ tax) (h3 : net + tax ≤ 1000000000000) :
    postE plA E (-1) (txX i net tax) = 0 ∧ Txd (i + 1) (all + (net + tax)) (taxes + tax) (postB E (txX i net tax)) := by
  obtain ⟨hx, hk⟩ := txX_ok (n := i) (by omega) h1 h2 h3
  obtain ⟨k1, k2⟩ := txX_key i net tax
  have hno : ∀ y ∈ E, y.1 ≠ (txX i net tax).1 := fun y hy hyk => by
    obtain ⟨j, hj, hk'⟩ := h.keys y hy
    rw [k1] at hyk
    have := congrArg Fin.val (keyT_inj ⟨j, by omega⟩ ⟨i, by omega⟩ (hk'.symm.trans hyk))
    simp only at this
    omega
  obtain ⟨e1, e2⟩ := post_any h.ok hx hno hk (by rw [k2]; omega) (by have := h.len; omega)
  obtain ⟨o1, o2, o3, o4⟩ := txX_of (n := i) (net := net) (tax := tax) (by omega) h2
  refine ⟨e1, (postE_ok e1).2.2, ?_, ?_, ?_, ?_, ?_, ?_⟩
  · rw [e2, insE_len]; have := h.len; omega
  · rw [e2]
    intro y hy
    rcases mem_insE.1 hy with rfl | hy
    · exact ⟨i, by omega, k1⟩
    · obtain ⟨j, hj, hk'⟩ := h.keys y hy
      exact ⟨j, by omega, hk'⟩
  · rw [e2, ofB_ins, o1, h.a10]; omega
  · rw [e2, ofB_ins, o2, h.a20]; omega
  · rw [e2, ofB_ins, o3, h.a40]; omega
  · rw [e2, ofB_ins, o4, h.a50]; omega
theorem kdS_pl (E : List En) (f t : Int) : kdS E f t 3 plA = ofB c40 f t E ∧ kdS E f t 4 plA = ofB c50 f t E := by
  unfold kdS plA
  simp only [List.map_cons, List.map_nil, List.sum_cons, List.sum_nil, Int.reduceEq, if_false, if_true]
  omega
end Go.Acc
namespace Go.Proofs.Ytdjdipehfnnhpaa
open Go Go.Ev Go.RowKit Go.Acc
set_option maxHeartbeats 4000000
set_option linter.unusedSimpArgs false
set_option linter.unusedVariables false
attribute [local go_sem] lenM takeV tk1 mapsV mkMapV hintOk lookV updV mapKE keyOk V.key app_lend callW_fn lendV postL_ret postL_normal St.lent mkX_L bin_eql_vz bin_eql_zv bin_eql_rz bin_eql_zr bin_eql_zz bin_neq_vz bin_neq_zv bin_neq_rz bin_neq_zr bin_neq_zz eqH nilEq nonE plainI gOf_bool gOf_skip g_some g_none Int.ofNat_zero Int.cast_ofNat_Int Bool.false_and Bool.and_false sliceV noBox elemsZ V.scrub V.scrubL Blk.scrub appendV isSlice maxLen_eq leT List.contains_nil List.contains_cons nvL_at fzL_at fillV V.plain V.plainL Blk.plain List.size_toArray mapO_nil mapO_cons Option.isNone_none Option.isNone_some beqT beqF oI_not mkX_e phi_nil phi_cons bin_eql_bool bin_neq_bool bin_eql_agg bin_neq_agg eqV eqFs eqK_int eqK_bool' eqK_str mkX_T mkX_Φ mkX_n mkX_f mkX_d mkX_r nv0_at fz0_at evQ_dr evP_W evW_nil evW_cons evW_guard okW_eq tame_none tame_new tame_write wb_none wb_new wb_write okU_some offW_none offW_some touchOf V.noRef V.noRefL Option.isSome_some Option.isSome_none mild_none mild_new Option.getD_some Option.getD_none evQ_seq evQ_region evQ_block evQ_cond evQ_ret evQ_skip evQ_exit evO_cons evO_nil evO_guard freezeL_nil oS_some oS_none oS_ite oS_ite' oB_bool oI_true oI_false oE_normal oE_exit oE_ret bQ_normal bQ_ret bQ_exit lQ_normal lQ_ret lQ_exit List.zipIdx_cons List.zipIdx_nil List.map_cons List.map_nil evalOp opd_const opd_tmp opd_func ofC_int ofC_bool ofC_str ofC_nil app_none app_new app_write app_change putE_some putE_none setA_cons setA_nil setH_cons setH_nil mapA_cons mapA_nil look_cons look_nil e_mk h_mk drop_nil drop_mk keep_mk dstOk_some dstOk_none guardT_eq true_and and_true Bool.not_false Bool.not_true selB_true selB_false mem_nil mem_cons kpL_nil kpL_cons drL_nil drL_cons closed_mk V.refsIn V.refsInL Blk.refsIn List.all_cons List.all_nil lenV bin_add bin_sub bin_mul bin_quo bin_rem bin_eql bin_neq bin_lss bin_leq bin_gtr bin_geq un_neg un_not post_ret post_normal St.init Bool.false_eq_true List.length_map Bool.or_false Bool.or_true Bool.false_or Bool.true_or beq_self_eq_true Option.map_some Option.map_none Option.bind_some List.getElem?_cons_zero List.getElem?_cons_succ scalar stor isAggV V.cells List.cons_append List.nil_append if_true if_false wrap_of callV V.dataL V.data Bool.and_true Bool.true_and fresh names V.ren V.renL retV resV packL packV packC getBlks wrapR subV putV decide_true decide_false TK.agg List.length_cons List.length_nil List.take_succ_cons List.take_zero List.drop_succ_cons List.drop_zero List.take_nil List.drop_nil Nat.zero_add Nat.add_zero List.append_nil List.getElem?_nil elemsV ro ro0 ro1 roC ty2 ty3 ty4 ty5 ty6 ty7 ty8 ty9 ty10 ty11 ty12 ty13 ty14 ty18 ty19 ty21 ty24 ty25 ty33 ty34 ty35 ty36 ty41 ty42 ty43 ty45 ty46 ty53 ty63 ty64 ty69 ty74 ty77 ty78 ty96 ty98 ty108 ty115 ty142 ty143 ty148 ty149 ty152 ty153 ty154 ty155 eqs46 eqs64 eqs78
theorem tsum_sound {J : World → Prop} (hJ : Stable J) (l : List Int) (hl : l.length ≤ 40) (hx : ∀ x ∈ l, 0 ≤ x ∧ x ≤ 1000000000001) : SoundAt Try.prog J 14 [.row 1 (l.map (V.int .i64))] (.int .i64 l.sum) [] := by
  have hb : ∀ k, 0 ≤ (l.take k).sum ∧ (l.take k).sum ≤ 40000000000040 := fun k => by
    have : ∀ m : List Int, m.length ≤ 40 → (∀ x ∈ m, 0 ≤ x ∧ x ≤ 1000000000001) → 0 ≤ m.sum ∧ m.sum ≤ m.length * 1000000000001 := by
      intro m
      induction m with
      | nil => intro _ _; simp
      | cons x m ih =>
        intro hm hx
        have h1 := hx x List.mem_cons_self
        have h2 := ih (by simp at hm; omega) fun y hy => hx y (List.mem_cons_of_mem _ hy)
        simp only [List.sum_cons, List.length_cons, Int.natCast_add, Int.natCast_one, Int.add_mul]
        omega
    have h1 := this (l.take k) (by rw [List.length_take]; omega) fun x h => hx x (List.mem_of_mem_take h)
    have h2 : ((l.take k).length : Int) ≤ 40 := by rw [List.length_take]; omega
    omega
  refine evFn (l := []) (nv := nv0) (fz := fz0) (dr := dr14) (dd := dd14) (lam := []) trivial hJ trivial Try.func14 rfl rfl (Nat.le_of_ble_eq_true rfl) (Nat.le_of_ble_eq_true rfl) drOk14 ?_
  dsimp only [Try.f14, dr14, dd14, Option.getD_some]
  refine ev_start ?_
  simp (disch := omega) only [List.length_map, go_sem, Int.reduceEq, Int.reduceLT, Int.reduceLE, Int.reduceNeg, Nat.reduceAdd, Nat.reduceLT, Nat.reduceEqDiff, Nat.reduceMul, Nat.reduceLeDiff, reduceIte, Nat.reduceBEq, reduceCtorEq, evP_D, evD_guard, evD_cons, evD_zero, evD_nil]
  refine evQ_loop [3, 6, 7, 8] [] (fun σ => ∃ k : Nat, k ≤ l.length ∧ σ = ⟨[(3, .int .i64 (l.take k).sum), (6, .row 1 (l.map (V.int .i64))), (7, .int .i64 l.length), (8, .int .i64 k)], []⟩) (fun σ => l.length - (match Ev.look 8 σ.env with | some (.int _ n) => n.toNat | _ => 0)) ?_ ?_
  · simp only [go_sem, Int.reduceEq, Int.reduceLT, Int.reduceLE, Int.reduceNeg, Nat.reduceAdd, Nat.reduceLT, Nat.reduceEqDiff, Nat.reduceMul, Nat.reduceLeDiff, reduceIte, Nat.reduceBEq, reduceCtorEq, evP_D, evD_guard, evD_cons, evD_zero, evD_nil]
    exact ⟨0, Nat.zero_le _, rfl⟩
  · rintro σ ⟨k, hk, rfl⟩
    by_cases hlt : k < l.length
    · have hlt' : (k : Int) < l.length := by omega
      obtain ⟨x, hg⟩ : ∃ x, l[k]? = some x := ⟨_, List.getElem?_eq_getElem hlt⟩
      have hg' := get_map (V.int .i64) l k x hg
      have hs : (l.take (k + 1)).sum = (l.take k).sum + x := by
        have he := (List.getElem?_eq_some_iff.1 hg).2
        rw [List.take_succ_eq_append_getElem hlt, he, List.sum_append]
        simp
      have b0 := hb k
      have b1 := hx x (List.mem_of_getElem? hg)
      have hms : l.length - ((k : Int) + 1).toNat < l.length - (k : Int).toNat := by
        have e3 : ((k : Int) + 1).toNat = k + 1 := by omega
        rw [e3, Int.toNat_natCast]; exact Nat.sub_lt_sub_left hlt (Nat.lt_succ_self k)
      simp (disch := (first | omega | assumption)) only [hlt', idx_nat, List.length_map, hg', go_sem, Int.reduceEq, Int.reduceLT, Int.reduceLE, Int.reduceNeg, Nat.reduceAdd, Nat.reduceLT, Nat.reduceEqDiff, Nat.reduceMul, Nat.reduceLeDiff, reduceIte, Nat.reduceBEq, reduceCtorEq, evP_D, evD_guard, evD_cons, evD_zero, evD_nil]
      exact ⟨⟨k + 1, hlt, by rw [hs]; rfl⟩, hms⟩
    · have hk' : k = l.length := by omega
      subst hk'
      have hlt' : ¬ ((l.length : Int) < l.length) := by omega
      simp (disch := (first | omega | assumption)) only [hlt', List.take_length, go_sem, Int.reduceEq, Int.reduceLT, Int.reduceLE, Int.reduceNeg, Nat.reduceAdd, Nat.reduceLT, Nat.reduceEqDiff, Nat.reduceMul, Nat.reduceLeDiff, reduceIte, Nat.reduceBEq, reduceCtorEq, evP_D, evD_guard, evD_cons, evD_zero, evD_nil]
theorem moved_own {J : World → Prop} (hJ : Stable J) (n : Nat) (at_ a : Int) (to from_ : ByteArray) (h : n < 100) (h0 : -1000000000000 ≤ a) (h1 : a ≤ 1000000000000) :
    SoundAt Try.prog J 18 [.int .i64 n, .int .i64 at_, .int .i64 a, .str to, .str from_] (.agg [.str (keyT n), .int .i64 at_, .vec 0]) [.vec 46 2 [.agg [.str to, .int .i64 a], .agg [.str from_, .int .i64 (-a)]]] := by
  have hK := tkey_sound hJ n h
  refine evFn (l := [(43, at1 _ (_, []))]) (nv := nv0) (fz := fz0) (dr := dr18) (dd := dd18) (lam := []) ⟨at1_snd hK, trivial⟩ hJ trivial Try.func18 rfl rfl (Nat.le_of_ble_eq_true rfl) (Nat.le_of_ble_eq_true rfl) drOk18 ?_
  dsimp only [Try.f18, dr18, dd18, Option.getD_some]
  refine ev_start ?_
  simp (disch := omega) only [at1_eq, Int.zero_sub, go_sem, Int.reduceEq, Int.reduceLT, Int.reduceLE, Int.reduceNeg, Nat.reduceAdd, Nat.reduceLT, Nat.reduceEqDiff, Nat.reduceMul, Nat.reduceLeDiff, reduceIte, Nat.reduceBEq, reduceCtorEq, evP_D, evD_guard, evD_cons, evD_zero, evD_nil]
theorem movedo_ex {J : World → Prop} (hJ : Stable J) : ∃ F : List V → Option (V × List Blk), (∀ (n : Nat) (at_ a : Int) (to from_ : ByteArray), n < 100 → -1000000000000 ≤ a → a ≤ 1000000000000 → F [.int .i64 n, .int .i64 at_, .int .i64 a, .str to, .str from_] = some (.agg [.str (keyT n), .int .i64 at_, .vec 0], [.vec 46 2 [.agg [.str to, .int .i64 a], .agg [.str from_, .int .i64 (-a)]]])) ∧ Snd Try.prog J 18 F := by
  obtain ⟨F, h1, h2⟩ := fam_ex (P := Try.prog) (J := J) (f := 18) (fun x : { x : Nat × Int × Int × ByteArray × ByteArray // x.1 < 100 ∧ -1000000000000 ≤ x.2.2.1 ∧ x.2.2.1 ≤ 1000000000000 } => [.int .i64 x.1.1, .int .i64 x.1.2.1, .int .i64 x.1.2.2.1, .str x.1.2.2.2.1, .str x.1.2.2.2.2]) (fun x => (.agg [.str (keyT x.1.1), .int .i64 x.1.2.1, .vec 0], [.vec 46 2 [.agg [.str x.1.2.2.2.1, .int .i64 x.1.2.2.1], .agg [.str x.1.2.2.2.2, .int .i64 (-x.1.2.2.1)]]])) (fun i j h => by
    simp only [List.cons.injEq, V.int.injEq, V.str.injEq, true_and, and_true] at h
    have h0 : i.1.1 = j.1.1 := by omega
    rw [h0, h.2.1, h.2.2.1, h.2.2.2.1, h.2.2.2.2]) fun x => moved_own hJ x.1.1 x.1.2.1 x.1.2.2.1 x.1.2.2.2.1 x.1.2.2.2.2 x.2.1 x.2.2.1 x.2.2.2
  exact ⟨F, fun n at_ a to from_ hn h0 h1' => h1 ⟨(n, at_, a, to, from_), hn, h0, h1'⟩, h2⟩
def netI (g r : Int) : Int := Rnd.rnd (g * 1000000) (1000000 + r) 2
theorem netI_bd {g r : Int} (h0 : 2 ≤ g) (r0 : 0 ≤ r) (r1 : r ≤ 1000000) : 1 ≤ netI g r ∧ netI g r ≤ g := by
  unfold netI
  rw [Rnd.rnd2]
  have hd : 0 < 1000000 + r := by omega
  have e := Int.mul_ediv_add_emod (g * 1000000) (1000000 + r)
  have q0 : 1 ≤ g * 1000000 / (1000000 + r) := (Int.le_ediv_iff_mul_le hd).2 (by omega)
  have hle : g * 1000000 ≤ g * (1000000 + r) := Int.mul_le_mul_of_nonneg_left (by omega) (by omega)
  have q1 : g * 1000000 / (1000000 + r) ≤ g := Int.ediv_le_of_le_mul hd hle
  have key : ¬ (g * 1000000 / (1000000 + r) = g ∧ 0 < g * 1000000 % (1000000 + r)) := by
    rintro ⟨h2, h3⟩
    rw [h2, Int.mul_comm] at e
    omega
  split <;> omega
theorem mwithin_sound {J : World → Prop} (g r : Int) (h0 : -1000000000000 ≤ g) (h1 : g ≤ 1000000000000) (r0 : 0 ≤ r) (r1 : r ≤ 1000000) : SoundAt Try.prog J 16 [.int .i64 g, .int .i64 r, .int .i64 2] (.tup [.int .i64 (netI g r), .int .i64 (g - netI g r), .int .i64 0]) [] :=
  sound_plain (callOk Try.func16 rfl rfl) rfl rfl fun w _ => (within_ok g r 2 w h0 h1 r0 r1 (by omega) (by omega)).mono (by rintro e w' ⟨rfl, k, rfl⟩; exact ⟨rfl, below_drewN (Below.refl _ _) k⟩)
theorem mwithin_ex {J : World → Prop} : ∃ F : List V → Option (V × List Blk), (∀ (g r : Int), -1000000000000 ≤ g → g ≤ 1000000000000 → 0 ≤ r → r ≤ 1000000 → F [.int .i64 g, .int .i64 r, .int .i64 2] = some (.tup [.int .i64 (netI g r), .int .i64 (g - netI g r), .int .i64 0], [])) ∧ Snd Try.prog J 16 F := by
  obtain ⟨F, h1, h2⟩ := fam_ex (P := Try.prog) (J := J) (f := 16) (fun x : { x : Int × Int // (-1000000000000 ≤ x.1 ∧ x.1 ≤ 1000000000000) ∧ 0 ≤ x.2 ∧ x.2 ≤ 1000000 } => [.int .i64 x.1.1, .int .i64 x.1.2, .int .i64 2]) (fun x => (.tup [.int .i64 (netI x.1.1 x.1.2), .int .i64 (x.1.1 - netI x.1.1 x.1.2), .int .i64 0], [])) (fun i j h => by
    simp only [List.cons.injEq, V.int.injEq, true_and, and_true] at h
    rw [h.1, h.2]) fun x => mwithin_sound x.1.1 x.1.2 x.2.1.1 x.2.1.2 x.2.2.1 x.2.2.2
  exact ⟨F, fun g r a b c d => h1 ⟨(g, r), ⟨a, b⟩, c, d⟩, h2⟩
/-- parts of an amount, or none -/
noncomputable def byR (a : Int) (l : List Int) : V × List Blk := open Classical in if byE a l = 0 then (.tup [.vec 0, .int .i64 0], [.vec 3 1 (((partsL (mag a) l).map fun x => x * sgn a).map (V.int .i64))]) else (.tup [.zero, .int .i64 (byE a l)], [])
theorem by_ex {J : World → Prop} (hJ : Stable J) (l : List Int) : ∃ F : List V → Option (V × List Blk), (∀ (a : Int), F [.int .i64 a, .row 1 (l.map (V.int .i64))] = some (byR a l)) ∧ Snd Try.prog J 17 F :=
  fam_ex (fun a : Int => [.int .i64 a, .row 1 (l.map (V.int .i64))]) (fun a => byR a l) (fun i j h => by
    simp only [List.cons.injEq, V.int.injEq, true_and, and_true] at h
    rw [h]) fun a => by
    by_cases h : byE a l = 0
    · have e : byR a l = (.tup [.vec 0, .int .i64 0], [.vec 3 1 (((partsL (mag a) l).map fun x => x * sgn a).map (V.int .i64))]) := if_pos h
      rw [e]; exact by_sound hJ a l h
    · have e : byR a l = (.tup [.zero, .int .i64 (byE a l)], []) := if_neg h
      rw [e]; exact by_bad hJ a l h
theorem parts_len {a : Int} {l : List Int} (h : byE a l = 0) : (partsL (mag a) l).length ≤ 40 := by
  have hS := spl_of h
  obtain ⟨L, hL, hLn⟩ := hS.left
  rw [partsL_eq hS hL, Go.Spl.outL_len]
  exact hS.len
theorem psum_ex {J : World → Prop} (hJ : Stable J) (l : List Int) : ∃ F : List V → Option (V × List Blk), (∀ (a : Int), byE a l = 0 → F [.row 1 ((partsL (mag a) l).map (V.int .i64))] = some (.int .i64 (mag a), [])) ∧ Snd Try.prog J 14 F := by
  obtain ⟨F, h1, h2⟩ := fam_ex (P := Try.prog) (J := J) (f := 14) (fun x : { x : List Int // x.length ≤ 40 ∧ ∀ y ∈ x, 0 ≤ y ∧ y ≤ 1000000000001 } => [.row 1 (x.1.map (V.int .i64))]) (fun x => (.int .i64 x.1.sum, [])) (fun i j h => by
    simp only [List.cons.injEq, V.row.injEq, true_and, and_true] at h
    have : i.1 = j.1 := List.map_inj_right (f := V.int .i64) (fun a b hab => by simpa using hab) |>.1 h
    rw [this]) fun x => tsum_sound hJ x.1 x.2.1 x.2.2
  refine ⟨F, fun a ha => ?_, h2⟩
  have := h1 ⟨partsL (mag a) l, parts_len ha, fun y hy => parts_bd ha y hy⟩
  simp only at this
  rw [this, parts_sum ha]
theorem profit_ex {J : World → Prop} (hJ : Stable J) (A : List (ByteArray × Int)) (s f t : Int) : ∃ F : List V → Option (V × List Blk), (∀ (E : List En), E.length ≤ maxLen → F [.agg [.row 2 (A.map acV), .row 3 (E.map enW), .int .i64 s], .int .i64 f, .int .i64 t] = some (.tup [.int .i64 (profN A E s f t), .int .i64 (profE A E s f t)], [])) ∧ Snd Try.prog J 21 F := by
  obtain ⟨F, h1, h2⟩ := fam_ex (P := Try.prog) (J := J) (f := 21) (fun x : { x : List En // x.length ≤ maxLen } => [bkV A x.1 s, .int .i64 f, .int .i64 t]) (fun x => (.tup [.int .i64 (profN A x.1 s f t), .int .i64 (profE A x.1 s f t)], [])) (fun i j h => by
    simp only [List.cons.injEq, bkV, V.agg.injEq, V.row.injEq, true_and, and_true] at h
    rw [enW_inj h]) fun x => profit_sound hJ A x.1 s f t x.2
  exact ⟨F, fun E hE => h1 ⟨E, hE⟩, h2⟩
end Go.Proofs.Ytdjdipehfnnhpaa
