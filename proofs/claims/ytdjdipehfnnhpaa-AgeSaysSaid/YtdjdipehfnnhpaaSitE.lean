/-
  The library's stable sort at rows of api.Item, run by the machine: ranges that change places, rotations, insertion.
-/
import Derived.Test.YtdjdipehfnnhpaaSrtF
import Derived.Test.YtdjdipehfnnhpaaTiF
namespace Go.Proofs.Ytdjdipehfnnhpaa
open Go Go.Ev Go.RowKit Go.Srt Go.Tie
set_option maxHeartbeats 4000000
set_option linter.unusedSimpArgs false
set_option linter.unusedVariables false
attribute [local go_sem] subE partR boundsV ownP sliceW copyV clearV lenM takeV tk1 mapsV mkMapV hintOk lookV updV mapKE keyOk V.key app_lend callW_fn lendV postL_ret postL_normal postT_ret postT_normal takeR St.lent mkX_L bin_eql_vz bin_eql_zv bin_eql_rz bin_eql_zr bin_eql_zz bin_neq_vz bin_neq_zv bin_neq_rz bin_neq_zr bin_neq_zz eqH nilEq nonE plainI gOf_bool gOf_skip g_some g_none Int.ofNat_zero Int.cast_ofNat_Int Bool.false_and Bool.and_false sliceV noBox elemsZ V.scrub V.scrubL Blk.scrub appendV isSlice maxLen_eq leT List.contains_nil List.contains_cons nvL_at fzL_at fillV V.plain V.plainL Blk.plain List.size_toArray mapO_nil mapO_cons Option.isNone_none Option.isNone_some beqT beqF oI_not mkX_e phi_nil phi_cons bin_eql_bool bin_neq_bool bin_eql_agg bin_neq_agg eqV eqFs eqK_int eqK_bool' eqK_str mkX_T mkX_Φ mkX_n mkX_f mkX_d mkX_r nv0_at fz0_at evQ_dr evP_W evW_nil evW_cons evW_guard okW_eq tame_none tame_new tame_write wb_none wb_new wb_write okU_some offW_none offW_some touchOf V.noRef V.noRefL Option.isSome_some Option.isSome_none mild_none mild_new Option.getD_some Option.getD_none evQ_seq evQ_region evQ_block evQ_cond evQ_ret evQ_skip evQ_exit evO_cons evO_nil evO_guard freezeL_nil oS_some oS_none oS_ite oS_ite' oB_bool oI_true oI_false oE_normal oE_exit oE_ret bQ_normal bQ_ret bQ_exit lQ_normal lQ_ret lQ_exit List.zipIdx_cons List.zipIdx_nil List.map_cons List.map_nil evalOp opd_const opd_tmp opd_func ofC_int ofC_bool ofC_str ofC_nil app_none app_new app_write app_change putE_some putE_none setA_cons setA_nil setH_cons setH_nil mapA_cons mapA_nil look_cons look_nil e_mk h_mk drop_nil drop_mk keep_mk dstOk_some dstOk_none guardT_eq true_and and_true Bool.not_false Bool.not_true selB_true selB_false mem_nil mem_cons kpL_nil kpL_cons drL_nil drL_cons closed_mk V.refsIn V.refsInL Blk.refsIn List.all_cons List.all_nil lenV bin_add bin_sub bin_mul bin_quo bin_rem bin_eql bin_neq bin_lss bin_leq bin_gtr bin_geq un_neg un_not post_ret post_normal St.init Bool.false_eq_true List.length_map Bool.or_false Bool.or_true Bool.false_or Bool.true_or beq_self_eq_true Option.map_some Option.map_none Option.bind_some List.getElem?_cons_zero List.getElem?_cons_succ scalar stor isAggV V.cells List.cons_append List.nil_append if_true if_false wrap_of callV V.dataL V.data Bool.and_true Bool.true_and fresh names V.ren V.renL retV resV packL packV packC getBlks wrapR subV putV decide_true decide_false TK.agg List.length_cons List.length_nil List.take_succ_cons List.take_zero List.drop_succ_cons List.drop_zero List.take_nil List.drop_nil Nat.zero_add Nat.add_zero List.append_nil List.getElem?_nil elemsV ro ro0 ro1 roC ty2 ty3 ty4 ty5 ty6 ty7 ty8 ty9 ty10 ty11 ty12 ty13 ty14 ty18 ty19 ty21 ty24 ty25 ty33 ty34 ty35 ty36 ty41 ty42 ty43 ty45 ty46 ty53 ty63 ty64 ty69 ty74 ty77 ty78 ty96 ty98 ty108 ty115 ty142 ty143 ty148 ty149 ty152 ty153 ty154 ty155 eqs46 eqs64 eqs78
theorem setit (l : List It) (i : Nat) (x : It) : (l.map itV).set i (.agg [.int .i64 (x).1, .int .i64 (x).2]) = (l.set i x).map itV := by rw [List.map_set]; rfl
theorem plainit (l : List It) : ((l.map itV).all fun v => V.plain v && V.data v) = true := by
  rw [List.all_eq_true]
  intro v hv
  obtain ⟨x, _, rfl⟩ := List.mem_map.1 hv
  rfl
section
variable {J : World → Prop} (hJ : Stable J) (g : FuncId) (cs : List V) (hd : V.dataL cs = true)
include hJ in
theorem swr_lendit (l : List It) (a b n : Nat) (h1 : a + n ≤ b) (h2 : b + n ≤ l.length) (hl : l.length ≤ 1000000) :
    LendAt Try.prog J 113 64 2 (l.map itV) [.int .i64 a, .int .i64 b, .int .i64 n, .fn g cs] ((tb l (swrI a b n)).map itV) := by
  refine evLend (l := []) (nv := nv0) (fz := fz0) (dr := dr113) (dd := dd113) (lam := []) trivial hJ trivial Try.func113 rfl rfl (Nat.le_of_ble_eq_true rfl) (Nat.le_of_ble_eq_true rfl) drOk113 rfl ?_ ?_
  rotate_left
  dsimp only [Try.f113, dr113, dd113, Option.getD_some]
  refine ev_start ?_
  · simp (disch := omega) only [go_sem, Int.reduceEq, Int.reduceLT, Int.reduceLE, Int.reduceNeg, Nat.reduceAdd, Nat.reduceLT, Nat.reduceEqDiff, Nat.reduceMul, Nat.reduceLeDiff, reduceIte, Nat.reduceBEq, reduceCtorEq, evP_D, evD_guard, evD_cons, evD_zero, evD_nil]
    refine evQ_loop [0, 1, 2, 3, 10] [1000000] (fun σ => ∃ i : Nat, i ≤ n ∧ σ = ⟨[(0, .vec 1000000), (1, .int .i64 a), (2, .int .i64 b), (3, .int .i64 n), (10, .int .i64 i)], [(1000000, .vec 64 2 ((tb l (swrI a b i)).map itV))]⟩)
      (fun σ => n - (match Ev.look 10 σ.env with | some (.int _ n) => n.toNat | _ => 0)) ?_ ?_
    · simp only [go_sem, Int.reduceEq, Int.reduceLT, Int.reduceLE, Int.reduceNeg, Nat.reduceAdd, Nat.reduceLT, Nat.reduceEqDiff, Nat.reduceMul, Nat.reduceLeDiff, reduceIte, Nat.reduceBEq, reduceCtorEq, evP_D, evD_guard, evD_cons, evD_zero, evD_nil]
      exact ⟨0, Nat.zero_le _, by rw [tab_congr l (fun k _ => swrI_zero a b k), tab_id]; rfl⟩
    · rintro σ ⟨i, hi, rfl⟩
      by_cases hlt : i < n
      · have hlt' : (i : Int) < n := by omega
        have e1 : (a : Int) + i = ((a + i : Nat) : Int) := by omega
        have e2 : (b : Int) + i = ((b + i : Nat) : Int) := by omega
        simp (disch := (first | omega | assumption)) only [hlt', e1, e2, idx_nat, List.length_map, tab_len, List.getElem?_map, tab_get, itV, List.length_set, List.getElem?_set_ne, go_sem, Int.reduceEq, Int.reduceLT, Int.reduceLE, Int.reduceNeg, Nat.reduceAdd, Nat.reduceLT, Nat.reduceEqDiff, Nat.reduceMul, Nat.reduceLeDiff, reduceIte, Nat.reduceBEq, reduceCtorEq, evP_D, evD_guard, evD_cons, evD_zero, evD_nil]
        refine ⟨⟨i + 1, by omega, by rw [setit, setit, tab_swap, tab_congr l (fun k _ => swrI_step (by omega) k)]; rfl⟩, ?_⟩
        have e3 : ((i : Int) + 1).toNat = i + 1 := by omega
        rw [e3, Int.toNat_natCast]; omega
      · have hi' : i = n := by omega
        subst hi'
        have hlt' : ¬ ((i : Int) < i) := by omega
        simp (disch := (first | omega | assumption)) only [hlt', go_sem, Int.reduceEq, Int.reduceLT, Int.reduceLE, Int.reduceNeg, Nat.reduceAdd, Nat.reduceLT, Nat.reduceEqDiff, Nat.reduceMul, Nat.reduceLeDiff, reduceIte, Nat.reduceBEq, reduceCtorEq, evP_D, evD_guard, evD_cons, evD_zero, evD_nil]
  · intro e he
    obtain ⟨x, _, rfl⟩ := List.mem_map.1 he
    rfl
def Rswrit (g : FuncId) (cs : List V) (T : TypeId) (sz : Nat) (es xs es' : List V) : Prop := (T = 64 ∧ sz = 2) ∧ ∃ (l : List It) (a b n : Nat), es = l.map itV ∧ xs = [.int .i64 a, .int .i64 b, .int .i64 n, .fn g cs] ∧ (a + n ≤ b ∧ b + n ≤ l.length ∧ l.length ≤ 1000000) ∧ es' = (tb l (swrI a b n)).map itV
theorem Rswr_eqit (l : List It) (a b n : Nat) (h : a + n ≤ b ∧ b + n ≤ l.length ∧ l.length ≤ 1000000) : pickL (Rswrit g cs) 64 2 (l.map itV) [.int .i64 a, .int .i64 b, .int .i64 n, .fn g cs] = some ((tb l (swrI a b n)).map itV) := by
  refine pickL_eq ⟨⟨rfl, rfl⟩, l, a, b, n, rfl, rfl, h, rfl⟩ ?_
  rintro e ⟨_, l', a', b', n', h1, h2, _, rfl⟩
  have := itV_inj h1
  subst this
  simp only [List.cons.injEq, V.int.injEq, true_and, and_true, Int.natCast_inj] at h2
  obtain ⟨rfl, rfl, rfl⟩ := h2
  rfl
include hJ in
theorem Rswr_okit : ∀ T sz es xs es', pickL (Rswrit g cs) T sz es xs = some es' → LendAt Try.prog J 113 T sz es xs es' := by
  intro T sz es xs es' h
  obtain ⟨⟨rfl, rfl⟩, l, a, b, n, rfl, rfl, ⟨h1, h2, h3⟩, rfl⟩ := pickL_of h
  exact swr_lendit hJ g cs l a b n h1 h2 h3
include hJ hd in
theorem rot_lendit (l : List It) (a m b : Nat) (h1 : a < m) (h2 : m < b) (hb : b ≤ l.length) (hl : l.length ≤ 1000000) :
    LendAt Try.prog J 110 64 2 (l.map itV) [.int .i64 a, .int .i64 m, .int .i64 b, .fn g cs] ((tb l (rotI a m b)).map itV) := by
  refine evLend (l := []) (nv := nv0) (fz := fz0) (dr := dr110) (dd := dd110) (lam := [(113, false, pickL (Rswrit g cs))]) trivial hJ ⟨Rswr_okit hJ g cs, trivial⟩ Try.func110 rfl rfl (Nat.le_of_ble_eq_true rfl) (Nat.le_of_ble_eq_true rfl) drOk110 rfl ?_ ?_
  rotate_left
  dsimp only [Try.f110, dr110, dd110, Option.getD_some]
  refine ev_start ?_
  · simp (disch := omega) only [go_sem, Int.reduceEq, Int.reduceLT, Int.reduceLE, Int.reduceNeg, Nat.reduceAdd, Nat.reduceLT, Nat.reduceEqDiff, Nat.reduceMul, Nat.reduceLeDiff, reduceIte, Nat.reduceBEq, reduceCtorEq, evP_D, evD_guard, evD_cons, evD_zero, evD_nil]
    refine evQ_loop [0, 2, 4, 10, 11] [1000000] (fun σ => ∃ (i j : Nat) (π : Nat → Nat), (0 < i ∧ 0 < j ∧ a + i ≤ m ∧ m + j ≤ b ∧ ∀ k, π (rotI (m - i) m (m + j) k) = rotI a m b k) ∧
      σ = ⟨[(0, .vec 1000000), (2, .int .i64 m), (4, .fn g cs), (10, .int .i64 i), (11, .int .i64 j)], [(1000000, .vec 64 2 ((tb l π).map itV))]⟩)
      (fun σ => (match Ev.look 10 σ.env with | some (.int _ n) => n.toNat | _ => 0) + (match Ev.look 11 σ.env with | some (.int _ n) => n.toNat | _ => 0)) ?_ ?_
    · simp only [refsInL_data hd, go_sem, Int.reduceEq, Int.reduceLT, Int.reduceLE, Int.reduceNeg, Nat.reduceAdd, Nat.reduceLT, Nat.reduceEqDiff, Nat.reduceMul, Nat.reduceLeDiff, reduceIte, Nat.reduceBEq, reduceCtorEq, evP_D, evD_guard, evD_cons, evD_zero, evD_nil]
      refine ⟨m - a, b - m, fun k => k, ⟨by omega, by omega, by omega, by omega, fun k => ?_⟩, ?_⟩
      · rw [show m - (m - a) = a by omega, show m + (b - m) = b by omega]
      · rw [tab_id, show ((m - a : Nat) : Int) = (m : Int) - a by omega, show ((b - m : Nat) : Int) = (b : Int) - m by omega]
    · rintro σ ⟨i, j, π, ⟨hi, hj, him, hjb, hπ⟩, rfl⟩
      have e1 : (m : Int) - i = ((m - i : Nat) : Int) := by omega
      by_cases hne : i = j
      · subst hne
        have hne' : (i : Int) = i := rfl
        have hp := Rswr_eqit g cs (tb l π) (m - i) m i ⟨by omega, by rw [tab_len]; omega, by rw [tab_len]; exact hl⟩
        have hfin : tb (tb l π) (swrI (m - i) m i) = tb l (rotI a m b) := by
          rw [tab_tab l π _ (fun k hk => swrI_lt (by omega) (by omega) hk)]
          exact tab_congr l fun k _ => by rw [rotI_last (by omega), hπ]
        simp (disch := (first | omega | assumption)) only [hp, hfin, e1, mapM_ro1 hd, scrubL_data hd, hd, plainit, go_sem, Int.reduceEq, Int.reduceLT, Int.reduceLE, Int.reduceNeg, Nat.reduceAdd, Nat.reduceLT, Nat.reduceEqDiff, Nat.reduceMul, Nat.reduceLeDiff, reduceIte, Nat.reduceBEq, reduceCtorEq, evP_D, evD_guard, evD_cons, evD_zero, evD_nil]
      · have hne' : ¬ (i : Int) = j := by omega
        by_cases hlt : j < i
        · have hlt' : (j : Int) < i := by omega
          have e2 : (i : Int) - j = ((i - j : Nat) : Int) := by omega
          have hp := Rswr_eqit g cs (tb l π) (m - i) m j ⟨by omega, by rw [tab_len]; omega, by rw [tab_len]; exact hl⟩
          simp (disch := (first | omega | assumption)) only [hp, hne', hlt', e1, e2, mapM_ro1 hd, scrubL_data hd, refsInL_data hd, hd, plainit, go_sem, Int.reduceEq, Int.reduceLT, Int.reduceLE, Int.reduceNeg, Nat.reduceAdd, Nat.reduceLT, Nat.reduceEqDiff, Nat.reduceMul, Nat.reduceLeDiff, reduceIte, Nat.reduceBEq, reduceCtorEq, evP_D, evD_guard, evD_cons, evD_zero, evD_nil]
          refine ⟨⟨i - j, j, fun k => π (swrI (m - i) m j k), ⟨by omega, hj, by omega, hjb, fun k => ?_⟩, by rw [tab_tab l π _ (fun k hk => swrI_lt (by omega) (by omega) hk)]⟩, by simp only [Int.toNat_natCast]; omega⟩
          show π (swrI (m - i) m j (rotI (m - (i - j)) m (m + j) k)) = _
          rw [rotI_left (a := 0) (b := 0) (by omega) hlt, hπ]
        · have hlt' : ¬ (j : Int) < i := by omega
          have e2 : (j : Int) - i = ((j - i : Nat) : Int) := by omega
          have e3 : (m : Int) + j = ((m + j : Nat) : Int) := by omega
          have e4 : ((m + j : Nat) : Int) - i = ((m + j - i : Nat) : Int) := by omega
          have hp := Rswr_eqit g cs (tb l π) (m - i) (m + j - i) i ⟨by omega, by rw [tab_len]; omega, by rw [tab_len]; exact hl⟩
          simp (disch := (first | omega | assumption)) only [hp, hne', hlt', e1, e2, e3, e4, mapM_ro1 hd, scrubL_data hd, refsInL_data hd, hd, plainit, go_sem, Int.reduceEq, Int.reduceLT, Int.reduceLE, Int.reduceNeg, Nat.reduceAdd, Nat.reduceLT, Nat.reduceEqDiff, Nat.reduceMul, Nat.reduceLeDiff, reduceIte, Nat.reduceBEq, reduceCtorEq, evP_D, evD_guard, evD_cons, evD_zero, evD_nil]
          refine ⟨⟨i, j - i, fun k => π (swrI (m - i) (m + j - i) i k), ⟨hi, by omega, him, by omega, fun k => ?_⟩, by rw [tab_tab l π _ (fun k hk => swrI_lt (by omega) (by omega) hk)]⟩, by simp only [Int.toNat_natCast]; omega⟩
          show π (swrI (m - i) (m + j - i) i (rotI (m - i) m (m + (j - i)) k)) = _
          rw [rotI_right (a := 0) (b := 0) (by omega) (by omega), hπ]
  · intro e he
    obtain ⟨x, _, rfl⟩ := List.mem_map.1 he
    rfl
section
variable {G : List V → Option (V × List Blk)} (hG : Snd Try.prog J g G) {c : It → It → Int} {D : It → Prop} (hc : ∀ x y, D x → D y → G (.agg [.int .i64 (x).1, .int .i64 (x).2] :: .agg [.int .i64 (y).1, .int .i64 (y).2] :: cs) = some (.int .i64 (c x y), [])) {lt : It → It → Prop} (hlt : ∀ x y, D x → D y → (c x y < 0 ↔ lt x y)) (hw : Swo lt)
include hJ hd hG hc hlt hw in
theorem ins_lendit (l : List It) (a b : Nat) (hD : ∀ x ∈ l, D x) (hb : b ≤ l.length) (hl : l.length ≤ 1000000) (ha : a ≤ l.length) :
    LendAt Try.prog J 103 64 2 (l.map itV) [.int .i64 a, .int .i64 b, .fn g cs] ((srtL lt l a b).map itV) := by
  refine evLend (l := [(g, G)]) (nv := nv0) (fz := fz0) (dr := dr103) (dd := dd103) (lam := []) ⟨hG, trivial⟩ hJ trivial Try.func103 rfl rfl (Nat.le_of_ble_eq_true rfl) (Nat.le_of_ble_eq_true rfl) drOk103 rfl ?_ ?_
  rotate_left
  dsimp only [Try.f103, dr103, dd103, Option.getD_some]
  refine ev_start ?_
  · simp (disch := omega) only [go_sem, Int.reduceEq, Int.reduceLT, Int.reduceLE, Int.reduceNeg, Nat.reduceAdd, Nat.reduceLT, Nat.reduceEqDiff, Nat.reduceMul, Nat.reduceLeDiff, reduceIte, Nat.reduceBEq, reduceCtorEq, evP_D, evD_guard, evD_cons, evD_zero, evD_nil]
    refine evQ_loop [0, 1, 2, 3, 8] [1000000] (fun σ => ∃ (i : Nat) (π : Nat → Nat), (a < i ∧ (i ≤ b ∨ i = a + 1) ∧ PermOn a i π ∧ Srtd (Lt lt l) π a i) ∧
      σ = ⟨[(0, .vec 1000000), (1, .int .i64 a), (2, .int .i64 b), (3, .fn g cs), (8, .int .i64 i)], [(1000000, .vec 64 2 ((tb l π).map itV))]⟩)
      (fun σ => b - (match Ev.look 8 σ.env with | some (.int _ n) => n.toNat | _ => 0)) ?_ ?_
    · simp only [refsInL_data hd, go_sem, Int.reduceEq, Int.reduceLT, Int.reduceLE, Int.reduceNeg, Nat.reduceAdd, Nat.reduceLT, Nat.reduceEqDiff, Nat.reduceMul, Nat.reduceLeDiff, reduceIte, Nat.reduceBEq, reduceCtorEq, evP_D, evD_guard, evD_cons, evD_zero, evD_nil]
      exact ⟨a + 1, fun k => k, ⟨by omega, .inr rfl, .id _ _, fun p q _ _ _ => by omega⟩, by rw [tab_id]; rfl⟩
    · rintro σ ⟨i, π, ⟨hi, hib, hπ, sπ⟩, rfl⟩
      by_cases hlt1 : i < b
      · have hlt' : (i : Int) < b := by omega
        simp (disch := (first | omega | assumption)) only [hlt', go_sem, Int.reduceEq, Int.reduceLT, Int.reduceLE, Int.reduceNeg, Nat.reduceAdd, Nat.reduceLT, Nat.reduceEqDiff, Nat.reduceMul, Nat.reduceLeDiff, reduceIte, Nat.reduceBEq, reduceCtorEq, evP_D, evD_guard, evD_cons, evD_zero, evD_nil]
        refine evQ_loop [0, 1, 2, 3, 8, 9] [1000000] (fun σ => ∃ (j : Nat), (a ≤ j ∧ j ≤ i ∧ ∀ q, j ≤ q → q < i → Lt lt l (π i) (π q)) ∧
          σ = ⟨[(0, .vec 1000000), (1, .int .i64 a), (2, .int .i64 b), (3, .fn g cs), (8, .int .i64 i), (9, .int .i64 j)], [(1000000, .vec 64 2 ((tb l (fun k => π (insI j i k))).map itV))]⟩)
          (fun σ => (match Ev.look 9 σ.env with | some (.int _ n) => n.toNat | _ => 0)) ?_ ?_
        · simp only [refsInL_data hd, go_sem, Int.reduceEq, Int.reduceLT, Int.reduceLE, Int.reduceNeg, Nat.reduceAdd, Nat.reduceLT, Nat.reduceEqDiff, Nat.reduceMul, Nat.reduceLeDiff, reduceIte, Nat.reduceBEq, reduceCtorEq, evP_D, evD_guard, evD_cons, evD_zero, evD_nil]
          exact ⟨i, ⟨by omega, Nat.le_refl _, fun q _ _ => by omega⟩, by rw [show tb l (fun k => π (insI i i k)) = tb l π from tab_congr l fun k _ => by rw [insI_top]]⟩
        · rintro σ ⟨j, ⟨hj, hji, hgt⟩, rfl⟩
          have hend : (a < j → Lt lt l (π (j - 1)) (π i)) → Srtd (Lt lt l) (fun k => π (insI j i k)) a (i + 1) := fun h => ins_sorted (Lt.ord hw l) hj hji sπ hgt h
          have hperm : PermOn a (i + 1) (fun k => π (insI j i k)) := (hπ.mono (Nat.le_refl _) (by omega)).comp (insI_perm hj hji)
          have e3 : (i : Int) + 1 = ((i + 1 : Nat) : Int) := by omega
          by_cases hja : a < j
          · have hja' : (a : Int) < j := by omega
            have e1 : (j : Int) - 1 = ((j - 1 : Nat) : Int) := by omega
            have r1 : insI j i j = i := by unfold insI; rw [if_pos rfl]
            have r2 : insI j i (j - 1) = j - 1 := by unfold insI; rw [if_neg (by omega), if_neg (by omega)]
            have hπi : π i = i := hπ.out (by omega)
            have hx := hπ.maps (k := j - 1) (by omega)
            have d1 : D (ge l (π i)) := hD _ (ge_mem l (by omega))
            have d2 : D (ge l (π (j - 1))) := hD _ (ge_mem l (by omega))
            have hcc := hc _ _ d1 d2
            have hlc := hlt _ _ d1 d2
            by_cases hneg : c (ge l (π i)) (ge l (π (j - 1))) < 0
            · simp (disch := (first | omega | assumption)) only [hja', e1, r1, r2, hcc, hneg, idx_nat, List.length_map, tab_len, List.getElem?_map, tab_get, itV, List.length_set, List.getElem?_set_ne, scrubL_data hd, refsInL_data hd, hd, V.dataL, V.data, go_sem, Int.reduceEq, Int.reduceLT, Int.reduceLE, Int.reduceNeg, Nat.reduceAdd, Nat.reduceLT, Nat.reduceEqDiff, Nat.reduceMul, Nat.reduceLeDiff, reduceIte, Nat.reduceBEq, reduceCtorEq, evP_D, evD_guard, evD_cons, evD_zero, evD_nil]
              refine ⟨⟨j - 1, ⟨by omega, by omega, fun q h1 h2 => ?_⟩, ?_⟩, ?_⟩
              · by_cases e : q = j - 1
                · rw [e]; exact .inl (hlc.1 hneg)
                · exact hgt q (by omega) h2
              · have := tab_swap l (fun k => π (insI j i k)) j (j - 1)
                simp only [r1, r2] at this
                rw [setit, setit, this, show tb l (fun k => π (insI j i (swI j (j - 1) k))) = tb l (fun k => π (insI (j - 1) i k)) from tab_congr l fun k _ => by rw [insI_step (by omega) hji]]
              · simp only [Int.toNat_natCast]; omega
            · have hs := hend fun _ => by
                have h1 : ¬ lt (ge l (π i)) (ge l (π (j - 1))) := fun h => hneg (hlc.2 h)
                rw [hπi] at h1 ⊢
                exact Lt.asc (by omega) h1
              simp (disch := (first | omega | assumption)) only [hja', e1, r1, r2, hcc, hneg, idx_nat, List.length_map, tab_len, List.getElem?_map, tab_get, itV, List.length_set, List.getElem?_set_ne, scrubL_data hd, refsInL_data hd, hd, V.dataL, V.data, go_sem, Int.reduceEq, Int.reduceLT, Int.reduceLE, Int.reduceNeg, Nat.reduceAdd, Nat.reduceLT, Nat.reduceEqDiff, Nat.reduceMul, Nat.reduceLeDiff, reduceIte, Nat.reduceBEq, reduceCtorEq, evP_D, evD_guard, evD_cons, evD_zero, evD_nil]
              exact ⟨⟨i + 1, _, ⟨by omega, .inl (by omega), hperm, hs⟩, by rw [e3]⟩, by
                have e4 : ((i : Int) + 1).toNat = i + 1 := by omega
                rw [e4, Int.toNat_natCast]; omega⟩
          · have hja2 : j = a := by omega
            subst hja2
            have hja' : ¬ (j : Int) < j := by omega
            have hs := hend fun h => by omega
            simp (disch := (first | omega | assumption)) only [hja', scrubL_data hd, refsInL_data hd, hd, V.dataL, V.data, go_sem, Int.reduceEq, Int.reduceLT, Int.reduceLE, Int.reduceNeg, Nat.reduceAdd, Nat.reduceLT, Nat.reduceEqDiff, Nat.reduceMul, Nat.reduceLeDiff, reduceIte, Nat.reduceBEq, reduceCtorEq, evP_D, evD_guard, evD_cons, evD_zero, evD_nil]
            exact ⟨⟨i + 1, _, ⟨by omega, .inl (by omega), hperm, hs⟩, by rw [e3]⟩, by
              have e4 : ((i : Int) + 1).toNat = i + 1 := by omega
              rw [e4, Int.toNat_natCast]; omega⟩
      · have hlt' : ¬ ((i : Int) < b) := by omega
        have hfin : tb l π = srtL lt l a b := by
          by_cases h : i = b
          · subst h; exact (srtL_eq hw hπ sπ).symm
          · rw [srtL_eq hw (π := π) (hπ.empty (by omega)) (fun p q _ _ _ => by omega)]
        simp (disch := (first | omega | assumption)) only [hlt', hfin, go_sem, Int.reduceEq, Int.reduceLT, Int.reduceLE, Int.reduceNeg, Nat.reduceAdd, Nat.reduceLT, Nat.reduceEqDiff, Nat.reduceMul, Nat.reduceLeDiff, reduceIte, Nat.reduceBEq, reduceCtorEq, evP_D, evD_guard, evD_cons, evD_zero, evD_nil]
  · intro e he
    obtain ⟨x, _, rfl⟩ := List.mem_map.1 he
    rfl
end
end
end Go.Proofs.Ytdjdipehfnnhpaa
