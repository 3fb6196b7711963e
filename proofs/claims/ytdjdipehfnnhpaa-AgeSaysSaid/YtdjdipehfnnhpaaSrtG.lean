/-
  The library's stable sort, run by the machine: blocks, and the whole, for at most forty elements.
-/
import Derived.Test.YtdjdipehfnnhpaaSrtF
namespace Go.Proofs.Ytdjdipehfnnhpaa
open Go Go.Ev Go.RowKit Go.Srt
set_option maxHeartbeats 4000000
set_option linter.unusedSimpArgs false
set_option linter.unusedVariables false
attribute [local go_sem] subE partR boundsV ownP sliceW copyV clearV lenM takeV tk1 mapsV mkMapV hintOk lookV updV mapKE keyOk V.key app_lend callW_fn lendV postL_ret postL_normal postT_ret postT_normal takeR St.lent mkX_L bin_eql_vz bin_eql_zv bin_eql_rz bin_eql_zr bin_eql_zz bin_neq_vz bin_neq_zv bin_neq_rz bin_neq_zr bin_neq_zz eqH nilEq nonE plainI gOf_bool gOf_skip g_some g_none Int.ofNat_zero Int.cast_ofNat_Int Bool.false_and Bool.and_false sliceV noBox elemsZ V.scrub V.scrubL Blk.scrub appendV isSlice maxLen_eq leT List.contains_nil List.contains_cons nvL_at fzL_at fillV V.plain V.plainL Blk.plain List.size_toArray mapO_nil mapO_cons Option.isNone_none Option.isNone_some beqT beqF oI_not mkX_e phi_nil phi_cons bin_eql_bool bin_neq_bool bin_eql_agg bin_neq_agg eqV eqFs eqK_int eqK_bool' eqK_str mkX_T mkX_Φ mkX_n mkX_f mkX_d mkX_r nv0_at fz0_at evQ_dr evP_W evW_nil evW_cons evW_guard okW_eq tame_none tame_new tame_write wb_none wb_new wb_write okU_some offW_none offW_some touchOf V.noRef V.noRefL Option.isSome_some Option.isSome_none mild_none mild_new Option.getD_some Option.getD_none evQ_seq evQ_region evQ_block evQ_cond evQ_ret evQ_skip evQ_exit evO_cons evO_nil evO_guard freezeL_nil oS_some oS_none oS_ite oS_ite' oB_bool oI_true oI_false oE_normal oE_exit oE_ret bQ_normal bQ_ret bQ_exit lQ_normal lQ_ret lQ_exit List.zipIdx_cons List.zipIdx_nil List.map_cons List.map_nil evalOp opd_const opd_tmp opd_func ofC_int ofC_bool ofC_str ofC_nil app_none app_new app_write app_change putE_some putE_none setA_cons setA_nil setH_cons setH_nil mapA_cons mapA_nil look_cons look_nil e_mk h_mk drop_nil drop_mk keep_mk dstOk_some dstOk_none guardT_eq true_and and_true Bool.not_false Bool.not_true selB_true selB_false mem_nil mem_cons kpL_nil kpL_cons drL_nil drL_cons closed_mk V.refsIn V.refsInL Blk.refsIn List.all_cons List.all_nil lenV bin_add bin_sub bin_mul bin_quo bin_rem bin_eql bin_neq bin_lss bin_leq bin_gtr bin_geq un_neg un_not post_ret post_normal St.init Bool.false_eq_true List.length_map Bool.or_false Bool.or_true Bool.false_or Bool.true_or beq_self_eq_true Option.map_some Option.map_none Option.bind_some List.getElem?_cons_zero List.getElem?_cons_succ scalar stor isAggV V.cells List.cons_append List.nil_append if_true if_false wrap_of callV V.dataL V.data Bool.and_true Bool.true_and fresh names V.ren V.renL retV resV packL packV packC getBlks wrapR subV putV decide_true decide_false TK.agg List.length_cons List.length_nil List.take_succ_cons List.take_zero List.drop_succ_cons List.drop_zero List.take_nil List.drop_nil Nat.zero_add Nat.add_zero List.append_nil List.getElem?_nil elemsV ro ro0 ro1 roC ty2 ty3 ty4 ty5 ty6 ty7 ty8 ty9 ty10 ty11 ty12 ty13 ty14 ty18 ty19 ty21 ty24 ty25 ty33 ty34 ty35 ty36 ty41 ty42 ty43 ty45 ty46 ty53 ty63 ty64 ty69 ty74 ty77 ty78 ty96 ty98 ty108 ty115 ty142 ty143 ty148 ty149 ty152 ty153 ty154 ty155 eqs46 eqs64 eqs78
section
variable {J : World → Prop} (hJ : Stable J) (g : FuncId) (cs : List V) (hd : V.dataL cs = true)
variable {G : List V → Option (V × List Blk)} (hG : Snd Try.prog J g G) {c : Int → Int → Int} {D : Int → Prop} (hc : ∀ x y, D x → D y → G (.int .i64 x :: .int .i64 y :: cs) = some (.int .i64 (c x y), [])) {lt : Int → Int → Prop} (hlt : ∀ x y, D x → D y → (c x y < 0 ↔ lt x y)) (hw : Swo lt)
def Rins (D : Int → Prop) (lt : Int → Int → Prop) (g : FuncId) (cs : List V) (T : TypeId) (sz : Nat) (es xs es' : List V) : Prop := (T = 3 ∧ sz = 1) ∧ ∃ (l : List Int) (a b : Nat), es = l.map (V.int .i64) ∧ xs = [.int .i64 a, .int .i64 b, .fn g cs] ∧ (a ≤ l.length ∧ b ≤ l.length ∧ l.length ≤ 1000000 ∧ ∀ x ∈ l, D x) ∧ es' = (srtL lt l a b).map (V.int .i64)
theorem Rins_eq (D : Int → Prop) (lt : Int → Int → Prop) (l : List Int) (a b : Nat) (h : a ≤ l.length ∧ b ≤ l.length ∧ l.length ≤ 1000000 ∧ ∀ x ∈ l, D x) : pickL (Rins D lt g cs) 3 1 (l.map (V.int .i64)) [.int .i64 a, .int .i64 b, .fn g cs] = some ((srtL lt l a b).map (V.int .i64)) := by
  refine pickL_eq ⟨⟨rfl, rfl⟩, l, a, b, rfl, rfl, h, rfl⟩ ?_
  rintro e ⟨_, l', a', b', h1, h2, _, rfl⟩
  have := mapI_inj h1
  subst this
  simp only [List.cons.injEq, V.int.injEq, true_and, and_true, Int.natCast_inj] at h2
  obtain ⟨rfl, rfl⟩ := h2
  rfl
include hJ hd hG hc hlt hw in
theorem Rins_ok : ∀ T sz es xs es', pickL (Rins D lt g cs) T sz es xs = some es' → LendAt Try.prog J 94 T sz es xs es' := by
  intro T sz es xs es' h
  obtain ⟨⟨rfl, rfl⟩, l, a, b, rfl, rfl, ⟨h1, h2, h3, h4⟩, rfl⟩ := pickL_of h
  exact ins_lend hJ g cs hd hG hc hlt hw l a b h4 h2 h3 h1
include hJ hd hG hc hlt hw in
theorem Rsym_ok (hg1 : g ≠ 106) (hg2 : g ≠ 95) (N : Nat) : ∀ T sz es xs es', pickL (Rsym N D lt g cs) T sz es xs = some es' → LendAt Try.prog J 95 T sz es xs es' := by
  intro T sz es xs es' h
  obtain ⟨⟨rfl, rfl⟩, l, a, m, b, rfl, rfl, ⟨h0, h1, h2, h3, h4, h5, h6, h7⟩, rfl⟩ := pickL_of h
  exact sym_lend hJ g cs hd hG hc hlt hw hg1 hg2 N l a m b h0 h1 h2 h3 h4 h5 h6 h7
/-- the row after so many blocks -/
noncomputable def blkL (lt : Int → Int → Prop) (l : List Int) : Nat → List Int
  | 0 => l
  | k + 1 => srtL lt (blkL lt l k) (20 * k) (20 * k + 20)
theorem blkL_len (lt : Int → Int → Prop) (l : List Int) : ∀ k, (blkL lt l k).length = l.length
  | 0 => rfl
  | k + 1 => by rw [blkL, srtL_len, blkL_len lt l k]
theorem blkL_mem (lt : Int → Int → Prop) (l : List Int) : ∀ k, 20 * k ≤ l.length → ∀ x ∈ blkL lt l k, x ∈ l
  | 0, _, x, h => h
  | k + 1, hk, x, h => blkL_mem lt l k (by omega) x (mem_srtL (by rw [blkL_len]; omega) h)
set_option maxHeartbeats 4000000 in
include hJ hd hG hc hlt hw in
theorem stb_lend (hg1 : g ≠ 106) (hg2 : g ≠ 95) (l : List Int) (hD : ∀ x ∈ l, D x) (hl : l.length ≤ 40) :
    LendAt Try.prog J 72 3 1 (l.map (V.int .i64)) [.int .i64 l.length, .fn g cs] ((srtL lt l 0 l.length).map (V.int .i64)) := by
  obtain ⟨n, hn⟩ : ∃ n, n = l.length := ⟨_, rfl⟩
  rw [← hn]
  refine evLend (l := []) (nv := nv0) (fz := fz0) (dr := dr72) (dd := dd72) (lam := [(94, false, pickL (Rins D lt g cs)), (95, false, pickL (Rsym 1000000 D lt g cs))]) trivial hJ ⟨Rins_ok hJ g cs hd hG hc hlt hw, Rsym_ok hJ g cs hd hG hc hlt hw hg1 hg2 1000000, trivial⟩ Try.func72 rfl rfl (Nat.le_of_ble_eq_true rfl) (Nat.le_of_ble_eq_true rfl) drOk72 rfl ?_ ?_
  rotate_left
  dsimp only [Try.f72, dr72, dd72, Option.getD_some]
  refine ev_start ?_
  · simp (disch := omega) only [go_sem, Int.reduceEq, Int.reduceLT, Int.reduceLE, Int.reduceNeg, Nat.reduceAdd, Nat.reduceLT, Nat.reduceEqDiff, Nat.reduceMul, Nat.reduceLeDiff, reduceIte, Nat.reduceBEq, reduceCtorEq, evP_D, evD_guard, evD_cons, evD_zero, evD_nil]
    refine evQ_loop [0, 1, 2, 6, 7, 8] [1000000] (fun σ => ∃ (k : Nat), 20 * k ≤ n ∧ σ = ⟨[(0, .vec 1000000), (1, .int .i64 n), (2, .fn g cs), (6, .int .i64 20), (7, .int .i64 ((20 * k : Nat) : Int)), (8, .int .i64 ((20 * k + 20 : Nat) : Int))], [(1000000, .vec 3 1 ((blkL lt l k).map (V.int .i64)))]⟩)
      (fun σ => n + 20 - (match Ev.look 8 σ.env with | some (.int _ n) => n.toNat | _ => 0)) ?_ ?_
    · simp only [refsInL_data hd, go_sem, Int.reduceEq, Int.reduceLT, Int.reduceLE, Int.reduceNeg, Nat.reduceAdd, Nat.reduceLT, Nat.reduceEqDiff, Nat.reduceMul, Nat.reduceLeDiff, reduceIte, Nat.reduceBEq, reduceCtorEq, evP_D, evD_guard, evD_cons, evD_zero, evD_nil]
      exact ⟨0, Nat.zero_le _, rfl⟩
    · rintro σ ⟨k, hk, rfl⟩
      by_cases hle : 20 * k + 20 ≤ n
      · have hle' : ((20 * k + 20 : Nat) : Int) ≤ n := by omega
        have hp := Rins_eq g cs D lt (blkL lt l k) (20 * k) (20 * k + 20) ⟨by rw [blkL_len]; omega, by rw [blkL_len]; omega, by rw [blkL_len]; omega, fun x hx => hD x (blkL_mem lt l k (by omega) x hx)⟩
        have y1 : 20 * k + 20 < n + 20 := by omega
        have y2 : 20 * k + 20 < 20 * (k + 1) + 20 := by omega
        have e1 : ((20 * k + 20 : Nat) : Int) + 20 = ((20 * (k + 1) + 20 : Nat) : Int) := by omega
        simp (disch := (first | assumption | omega)) only [hle', e1, hp, mapM_ro1 hd, scrubL_data hd, refsInL_data hd, hd, plainI, go_sem, Int.reduceEq, Int.reduceLT, Int.reduceLE, Int.reduceNeg, Nat.reduceAdd, Nat.reduceLT, Nat.reduceEqDiff, Nat.reduceMul, Nat.reduceLeDiff, reduceIte, Nat.reduceBEq, reduceCtorEq, evP_D, evD_guard, evD_cons, evD_zero, evD_nil]
        exact ⟨⟨k + 1, by omega, rfl⟩, by simp only [Int.toNat_natCast]; exact Nat.sub_lt_sub_left y1 y2⟩
      · have hle' : ¬ ((20 * k + 20 : Nat) : Int) ≤ n := by omega
        have hp := Rins_eq g cs D lt (blkL lt l k) (20 * k) n ⟨by rw [blkL_len]; omega, by rw [blkL_len]; omega, by rw [blkL_len]; omega, fun x hx => hD x (blkL_mem lt l k (by omega) x hx)⟩
        simp (disch := (first | assumption | omega)) only [hle', hp, mapM_ro1 hd, scrubL_data hd, refsInL_data hd, hd, plainI, go_sem, Int.reduceEq, Int.reduceLT, Int.reduceLE, Int.reduceNeg, Nat.reduceAdd, Nat.reduceLT, Nat.reduceEqDiff, Nat.reduceMul, Nat.reduceLeDiff, reduceIte, Nat.reduceBEq, reduceCtorEq, evP_D, evD_guard, evD_cons, evD_zero, evD_nil]
        obtain ⟨R, hR⟩ : ∃ R, R = srtL lt (blkL lt l k) (20 * k) n := ⟨_, rfl⟩
        rw [← hR]
        have hRl : R.length = n := by rw [hR, srtL_len, blkL_len, hn]
        have hRm : ∀ x ∈ R, D x := fun x hx => hD x (blkL_mem lt l k (by omega) x (mem_srtL (by rw [blkL_len]; omega) (hR ▸ hx)))
        have hR0 : n ≤ 20 → R = srtL lt l 0 n := fun h => by
          by_cases h0 : k = 0
          · subst h0; exact hR
          · have h1 : k = 1 := by omega
            have h2 : n = 20 := by omega
            subst h1
            rw [hR, h2]
            exact srtL_id hw (fun p q _ _ _ => by omega)
        have hR1 : 20 < n → NonDec lt R 0 20 ∧ NonDec lt R 20 n ∧ srtL lt R 0 n = srtL lt l 0 n := fun h => by
          have hRe : R = srtL lt (srtL lt l 0 20) 20 n := by
            by_cases h1 : k = 1
            · subst h1; exact hR
            · have h2 : k = 2 := by omega
              have h3 : n = 40 := by omega
              subst h2
              rw [hR, h3, srtL_id hw (fun p q _ _ _ => by omega)]
              rfl
          rw [hRe]
          exact blocks_merge hw (by omega) (by omega)
        clear hR hp
        refine evQ_loop [0, 1, 2, 6] [1000000] (fun σ => ∃ (b : Nat) (L : List Int), ((b = 20 ∧ L = R) ∨ (b = 40 ∧ 20 < n ∧ L = srtL lt l 0 n)) ∧ σ = ⟨[(0, .vec 1000000), (1, .int .i64 n), (2, .fn g cs), (6, .int .i64 b)], [(1000000, .vec 3 1 (L.map (V.int .i64)))]⟩)
          (fun σ => 40 - (match Ev.look 6 σ.env with | some (.int _ n) => n.toNat | _ => 0)) ?_ ?_
        · simp only [refsInL_data hd, go_sem, Int.reduceEq, Int.reduceLT, Int.reduceLE, Int.reduceNeg, Nat.reduceAdd, Nat.reduceLT, Nat.reduceEqDiff, Nat.reduceMul, Nat.reduceLeDiff, reduceIte, Nat.reduceBEq, reduceCtorEq, evP_D, evD_guard, evD_cons, evD_zero, evD_nil]
          exact ⟨20, R, .inl ⟨rfl, rfl⟩, rfl⟩
        · rintro σ ⟨b, L, h, rfl⟩
          by_cases hbn : b < n
          · have hb : b = 20 ∧ L = R := by
              rcases h with h | h
              · exact h
              · omega
            obtain ⟨rfl, rfl⟩ := hb
            obtain ⟨w1, w2, w3⟩ := hR1 hbn
            have hbn' : ((20 : Nat) : Int) < n := by omega
            have e20 : ((20 : Nat) : Int) = 20 := rfl
            rw [e20] at hbn' ⊢
            have hsym := Rsym_eq g cs 1000000 D lt L 0 20 n ⟨by omega, by omega, by omega, by omega, by omega, hRm, w1, w2⟩
            rw [w3] at hsym
            simp (disch := omega) only [hbn', go_sem, Int.reduceEq, Int.reduceLT, Int.reduceLE, Int.reduceNeg, Nat.reduceAdd, Nat.reduceLT, Nat.reduceEqDiff, Nat.reduceMul, Nat.reduceLeDiff, reduceIte, Nat.reduceBEq, reduceCtorEq, evP_D, evD_guard, evD_cons, evD_zero, evD_nil]
            refine evQ_loop [0, 1, 2, 6, 7, 8] [1000000] (fun σ => ∃ (a b : Nat) (M : List Int), ((a = 0 ∧ b = 40 ∧ M = L) ∨ (a = 40 ∧ b = 80 ∧ n = 40 ∧ M = srtL lt l 0 n)) ∧ σ = ⟨[(0, .vec 1000000), (1, .int .i64 n), (2, .fn g cs), (6, .int .i64 20), (7, .int .i64 a), (8, .int .i64 b)], [(1000000, .vec 3 1 (M.map (V.int .i64)))]⟩)
              (fun σ => 80 - (match Ev.look 8 σ.env with | some (.int _ n) => n.toNat | _ => 0)) ?_ ?_
            · simp only [refsInL_data hd, go_sem, Int.reduceEq, Int.reduceLT, Int.reduceLE, Int.reduceNeg, Nat.reduceAdd, Nat.reduceLT, Nat.reduceEqDiff, Nat.reduceMul, Nat.reduceLeDiff, reduceIte, Nat.reduceBEq, reduceCtorEq, evP_D, evD_guard, evD_cons, evD_zero, evD_nil]
              exact ⟨0, 40, L, .inl ⟨rfl, rfl, rfl⟩, rfl⟩
            · rintro σ ⟨a, b, M, (⟨rfl, rfl, rfl⟩ | ⟨rfl, rfl, h40, rfl⟩), rfl⟩
              · have e0 : ((0 : Nat) : Int) = 0 := rfl
                have e40 : ((40 : Nat) : Int) = 40 := rfl
                rw [e0, e20] at hsym
                rw [e0, e40]
                by_cases h40 : n = 40
                · subst h40
                  rw [e40] at hsym ⊢
                  simp (disch := (first | assumption | omega)) only [hsym, mapM_ro1 hd, scrubL_data hd, refsInL_data hd, hd, plainI, Int.reduceAdd, Int.reduceMul, go_sem, Int.reduceEq, Int.reduceLT, Int.reduceLE, Int.reduceNeg, Nat.reduceAdd, Nat.reduceLT, Nat.reduceEqDiff, Nat.reduceMul, Nat.reduceLeDiff, reduceIte, Nat.reduceBEq, reduceCtorEq, evP_D, evD_guard, evD_cons, evD_zero, evD_nil]
                  exact ⟨⟨40, 80, _, .inr ⟨rfl, rfl, rfl⟩, rfl⟩, by decide⟩
                · have g1 : ¬ (40 : Int) ≤ n := by omega
                  simp (disch := (first | assumption | omega)) only [g1, hbn', hsym, mapM_ro1 hd, scrubL_data hd, refsInL_data hd, hd, plainI, Int.reduceAdd, Int.reduceMul, go_sem, Int.reduceEq, Int.reduceLT, Int.reduceLE, Int.reduceNeg, Nat.reduceAdd, Nat.reduceLT, Nat.reduceEqDiff, Nat.reduceMul, Nat.reduceLeDiff, reduceIte, Nat.reduceBEq, reduceCtorEq, evP_D, evD_guard, evD_cons, evD_zero, evD_nil]
                  exact ⟨⟨40, _, .inr ⟨rfl, hbn, rfl⟩, rfl⟩, by decide⟩
              · subst h40
                have e40 : ((40 : Nat) : Int) = 40 := rfl
                have e80 : ((80 : Nat) : Int) = 80 := rfl
                rw [e40, e80]
                simp (disch := (first | assumption | omega)) only [mapM_ro1 hd, scrubL_data hd, refsInL_data hd, hd, plainI, Int.reduceAdd, Int.reduceMul, go_sem, Int.reduceEq, Int.reduceLT, Int.reduceLE, Int.reduceNeg, Nat.reduceAdd, Nat.reduceLT, Nat.reduceEqDiff, Nat.reduceMul, Nat.reduceLeDiff, reduceIte, Nat.reduceBEq, reduceCtorEq, evP_D, evD_guard, evD_cons, evD_zero, evD_nil]
                exact ⟨⟨40, _, .inr ⟨rfl, rfl⟩, rfl⟩, by decide⟩
          · have hbn' : ¬ (b : Int) < n := by omega
            have hfin : L = srtL lt l 0 n := by
              rcases h with ⟨rfl, rfl⟩ | ⟨_, _, h⟩
              · exact hR0 (by omega)
              · exact h
            simp (disch := (first | assumption | omega)) only [hbn', hfin, go_sem, Int.reduceEq, Int.reduceLT, Int.reduceLE, Int.reduceNeg, Nat.reduceAdd, Nat.reduceLT, Nat.reduceEqDiff, Nat.reduceMul, Nat.reduceLeDiff, reduceIte, Nat.reduceBEq, reduceCtorEq, evP_D, evD_guard, evD_cons, evD_zero, evD_nil]
  · intro e he
    obtain ⟨x, _, rfl⟩ := List.mem_map.1 he
    rfl
def Rstb (D : Int → Prop) (lt : Int → Int → Prop) (g : FuncId) (cs : List V) (T : TypeId) (sz : Nat) (es xs es' : List V) : Prop := (T = 3 ∧ sz = 1) ∧ ∃ (l : List Int), es = l.map (V.int .i64) ∧ xs = [.int .i64 l.length, .fn g cs] ∧ (l.length ≤ 40 ∧ ∀ x ∈ l, D x) ∧ es' = (srtL lt l 0 l.length).map (V.int .i64)
theorem Rstb_eq (D : Int → Prop) (lt : Int → Int → Prop) (l : List Int) (h : l.length ≤ 40 ∧ ∀ x ∈ l, D x) : pickL (Rstb D lt g cs) 3 1 (l.map (V.int .i64)) [.int .i64 l.length, .fn g cs] = some ((srtL lt l 0 l.length).map (V.int .i64)) := by
  refine pickL_eq ⟨⟨rfl, rfl⟩, l, rfl, rfl, h, rfl⟩ ?_
  rintro e ⟨_, l', h1, h2, _, rfl⟩
  have := mapI_inj h1
  subst this
  rfl
include hJ hd hG hc hlt hw in
theorem Rstb_ok (hg1 : g ≠ 106) (hg2 : g ≠ 95) : ∀ T sz es xs es', pickL (Rstb D lt g cs) T sz es xs = some es' → LendAt Try.prog J 72 T sz es xs es' := by
  intro T sz es xs es' h
  obtain ⟨⟨rfl, rfl⟩, l, rfl, rfl, ⟨h1, h2⟩, rfl⟩ := pickL_of h
  exact stb_lend hJ g cs hd hG hc hlt hw hg1 hg2 l h2 h1
include hJ hd hG hc hlt hw in
theorem sort_lend (hg1 : g ≠ 106) (hg2 : g ≠ 95) (l : List Int) (hD : ∀ x ∈ l, D x) (hl : l.length ≤ 40) :
    LendAt Try.prog J 41 3 1 (l.map (V.int .i64)) [.fn g cs] ((srtL lt l 0 l.length).map (V.int .i64)) := by
  have hp := Rstb_eq g cs D lt l ⟨hl, hD⟩
  refine evLend (l := []) (nv := nv0) (fz := fz0) (dr := dr41) (dd := dd41) (lam := [(72, false, pickL (Rstb D lt g cs))]) trivial hJ ⟨Rstb_ok hJ g cs hd hG hc hlt hw hg1 hg2, trivial⟩ Try.func41 rfl rfl (Nat.le_of_ble_eq_true rfl) (Nat.le_of_ble_eq_true rfl) drOk41 rfl ?_ ?_
  rotate_left
  dsimp only [Try.f41, dr41, dd41, Option.getD_some]
  refine ev_start ?_
  · simp (disch := (first | assumption | omega)) only [hp, mapM_ro1 hd, scrubL_data hd, refsInL_data hd, hd, plainI, go_sem, Int.reduceEq, Int.reduceLT, Int.reduceLE, Int.reduceNeg, Nat.reduceAdd, Nat.reduceLT, Nat.reduceEqDiff, Nat.reduceMul, Nat.reduceLeDiff, reduceIte, Nat.reduceBEq, reduceCtorEq, evP_D, evD_guard, evD_cons, evD_zero, evD_nil]
  · intro e he
    obtain ⟨x, _, rfl⟩ := List.mem_map.1 he
    rfl
def Rsrt (D : Int → Prop) (lt : Int → Int → Prop) (g : FuncId) (cs : List V) (T : TypeId) (sz : Nat) (es xs es' : List V) : Prop := (T = 3 ∧ sz = 1) ∧ ∃ (l : List Int), es = l.map (V.int .i64) ∧ xs = [.fn g cs] ∧ (l.length ≤ 40 ∧ ∀ x ∈ l, D x) ∧ es' = (srtL lt l 0 l.length).map (V.int .i64)
theorem Rsrt_eq (D : Int → Prop) (lt : Int → Int → Prop) (l : List Int) (h : l.length ≤ 40 ∧ ∀ x ∈ l, D x) : pickL (Rsrt D lt g cs) 3 1 (l.map (V.int .i64)) [.fn g cs] = some ((srtL lt l 0 l.length).map (V.int .i64)) := by
  refine pickL_eq ⟨⟨rfl, rfl⟩, l, rfl, rfl, h, rfl⟩ ?_
  rintro e ⟨_, l', h1, h2, _, rfl⟩
  have := mapI_inj h1
  subst this
  rfl
include hJ hd hG hc hlt hw in
theorem Rsrt_ok (hg1 : g ≠ 106) (hg2 : g ≠ 95) : ∀ T sz es xs es', pickL (Rsrt D lt g cs) T sz es xs = some es' → LendAt Try.prog J 41 T sz es xs es' := by
  intro T sz es xs es' h
  obtain ⟨⟨rfl, rfl⟩, l, rfl, rfl, ⟨h1, h2⟩, rfl⟩ := pickL_of h
  exact sort_lend hJ g cs hd hG hc hlt hw hg1 hg2 l h2 h1
end
end Go.Proofs.Ytdjdipehfnnhpaa
