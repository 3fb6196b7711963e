/-
  Amounts in parts, run by the machine: the weights, even parts.
-/
import Derived.Test.YtdjdipehfnnhpaaSrtG
import Derived.Test.YtdjdipehfnnhpaaSplP
namespace Go.Proofs.Ytdjdipehfnnhpaa
open Go Go.Ev Go.RowKit Go.Srt Go.Spl
set_option maxHeartbeats 4000000
set_option linter.unusedSimpArgs false
set_option linter.unusedVariables false
attribute [local go_sem] subE partR boundsV ownP sliceW copyV clearV lenM takeV tk1 mapsV mkMapV hintOk lookV updV mapKE keyOk V.key app_lend callW_fn lendV postL_ret postL_normal postT_ret postT_normal takeR St.lent mkX_L bin_eql_vz bin_eql_zv bin_eql_rz bin_eql_zr bin_eql_zz bin_neq_vz bin_neq_zv bin_neq_rz bin_neq_zr bin_neq_zz eqH nilEq nonE plainI gOf_bool gOf_skip g_some g_none Int.ofNat_zero Int.cast_ofNat_Int Bool.false_and Bool.and_false sliceV noBox elemsZ V.scrub V.scrubL Blk.scrub appendV isSlice maxLen_eq leT List.contains_nil List.contains_cons nvL_at fzL_at fillV V.plain V.plainL Blk.plain List.size_toArray mapO_nil mapO_cons Option.isNone_none Option.isNone_some beqT beqF oI_not mkX_e phi_nil phi_cons bin_eql_bool bin_neq_bool bin_eql_agg bin_neq_agg eqV eqFs eqK_int eqK_bool' eqK_str mkX_T mkX_Φ mkX_n mkX_f mkX_d mkX_r nv0_at fz0_at evQ_dr evP_W evW_nil evW_cons evW_guard okW_eq tame_none tame_new tame_write wb_none wb_new wb_write okU_some offW_none offW_some touchOf V.noRef V.noRefL Option.isSome_some Option.isSome_none mild_none mild_new Option.getD_some Option.getD_none evQ_seq evQ_region evQ_block evQ_cond evQ_ret evQ_skip evQ_exit evO_cons evO_nil evO_guard freezeL_nil oS_some oS_none oS_ite oS_ite' oB_bool oI_true oI_false oE_normal oE_exit oE_ret bQ_normal bQ_ret bQ_exit lQ_normal lQ_ret lQ_exit List.zipIdx_cons List.zipIdx_nil List.map_cons List.map_nil evalOp opd_const opd_tmp opd_func ofC_int ofC_bool ofC_str ofC_nil app_none app_new app_write app_change putE_some putE_none setA_cons setA_nil setH_cons setH_nil mapA_cons mapA_nil look_cons look_nil e_mk h_mk drop_nil drop_mk keep_mk dstOk_some dstOk_none guardT_eq true_and and_true Bool.not_false Bool.not_true selB_true selB_false mem_nil mem_cons kpL_nil kpL_cons drL_nil drL_cons closed_mk V.refsIn V.refsInL Blk.refsIn List.all_cons List.all_nil lenV bin_add bin_sub bin_mul bin_quo bin_rem bin_eql bin_neq bin_lss bin_leq bin_gtr bin_geq un_neg un_not post_ret post_normal St.init Bool.false_eq_true List.length_map Bool.or_false Bool.or_true Bool.false_or Bool.true_or beq_self_eq_true Option.map_some Option.map_none Option.bind_some List.getElem?_cons_zero List.getElem?_cons_succ scalar stor isAggV V.cells List.cons_append List.nil_append if_true if_false wrap_of callV V.dataL V.data Bool.and_true Bool.true_and fresh names V.ren V.renL retV resV packL packV packC getBlks wrapR subV putV decide_true decide_false TK.agg List.length_cons List.length_nil List.take_succ_cons List.take_zero List.drop_succ_cons List.drop_zero List.take_nil List.drop_nil Nat.zero_add Nat.add_zero List.append_nil List.getElem?_nil elemsV ro ro0 ro1 roC ty2 ty3 ty4 ty5 ty6 ty7 ty8 ty9 ty10 ty11 ty12 ty13 ty14 ty18 ty19 ty21 ty24 ty25 ty33 ty34 ty35 ty36 ty41 ty42 ty43 ty45 ty46 ty53 ty63 ty64 ty69 ty74 ty77 ty78 ty96 ty98 ty108 ty115 ty142 ty143 ty148 ty149 ty152 ty153 ty154 ty155 eqs46 eqs64 eqs78
theorem spmoney_snd {J : World → Prop} (hJ : Stable J) : Snd Try.prog J 40 moneyF := by
  intro args r bs h
  unfold moneyF at h
  split at h
  · rename_i x
    obtain ⟨rfl, rfl⟩ := some_pair h
    refine evFn (l := []) (nv := nv0) (fz := fz0) (dr := dr40) (dd := dd40) (lam := []) trivial hJ trivial Try.func40 rfl rfl (Nat.le_of_ble_eq_true rfl) (Nat.le_of_ble_eq_true rfl) drOk40 ?_
    dsimp only [Try.f40, dr40, dd40, Option.getD_some]
    refine ev_start ?_
    by_cases h1 : -1000000000000 ≤ x
    · by_cases h2 : x ≤ 1000000000000
      · have h1' : -1000000000000 ≤ x := h1
        simp (disch := omega) only [h1, h2, and_self, go_sem, Int.reduceEq, Int.reduceLT, Int.reduceLE, Int.reduceNeg, Nat.reduceAdd, Nat.reduceLT, Nat.reduceEqDiff, Nat.reduceMul, Nat.reduceLeDiff, reduceIte, Nat.reduceBEq, reduceCtorEq, evP_D, evD_guard, evD_cons, evD_zero, evD_nil]
      · simp (disch := omega) only [h1, h2, and_false, go_sem, Int.reduceEq, Int.reduceLT, Int.reduceLE, Int.reduceNeg, Nat.reduceAdd, Nat.reduceLT, Nat.reduceEqDiff, Nat.reduceMul, Nat.reduceLeDiff, reduceIte, Nat.reduceBEq, reduceCtorEq, evP_D, evD_guard, evD_cons, evD_zero, evD_nil]
    · simp (disch := omega) only [h1, false_and, go_sem, Int.reduceEq, Int.reduceLT, Int.reduceLE, Int.reduceNeg, Nat.reduceAdd, Nat.reduceLT, Nat.reduceEqDiff, Nat.reduceMul, Nat.reduceLeDiff, reduceIte, Nat.reduceBEq, reduceCtorEq, evP_D, evD_guard, evD_cons, evD_zero, evD_nil]
  · cases h
def badW (u : Int) : Bool := decide (u < 0 ∨ 1000000 < u)
def okW (l : List Int) : Prop := ∀ i, i < l.length → 0 ≤ ge l i ∧ ge l i ≤ 1000000
theorem okW_of {l : List Int} (h : l.any badW = false) : okW l := fun i hi => by
  rw [List.any_eq_false] at h
  have := h _ (ge_mem l hi)
  simp [badW] at this
  omega
theorem anyW {l : List Int} {i : Nat} (hi : i < l.length) (h : badW (ge l i) = true) : l.any badW = true := List.any_eq_true.2 ⟨_, ge_mem l hi, h⟩
theorem noW {l : List Int} (h : ∀ i, i < l.length → badW (ge l i) = false) : l.any badW = false := by
  rw [List.any_eq_false]
  intro x hx
  obtain ⟨i, hi, rfl⟩ := List.mem_iff_getElem.1 hx
  have := h i hi
  have e : ge l i = l[i] := by simp [ge, hi]
  rw [e] at this
  simp [this]
def wtE (l : List Int) : Int := if 40 < l.length then 2 else if l.any badW = true then 1 else 0
def wtS (l : List Int) : Int := if 40 < l.length then 0 else if l.any badW = true then 0 else wsum l l.length
theorem wt_0 {l : List Int} (h : wtE l = 0) : l.length ≤ 40 ∧ okW l ∧ wtS l = wsum l l.length := by
  unfold wtE at h
  split at h
  · omega
  · split at h
    · omega
    · rename_i h1 h2
      exact ⟨by omega, okW_of (by simpa using h2), by unfold wtS; rw [if_neg h1, if_neg h2]⟩
theorem wt_cases (l : List Int) : wtE l = 0 ∨ wtE l = 1 ∨ wtE l = 2 := by unfold wtE; (repeat' split) <;> simp
theorem weights_sound {J : World → Prop} (hJ : Stable J) (l : List Int) : SoundAt Try.prog J 39 [.row 1 (l.map (V.int .i64))] (.tup [.int .i64 (wtS l), .int .i64 (wtE l)]) [] := by
  refine SoundAt.row 0 rfl (callOk Try.func39 rfl rfl) fun hlen => ?_
  simp only [maxLen, List.length_map] at hlen
  refine evFn (l := []) (nv := nv0) (fz := fz0) (dr := dr39) (dd := dd39) (lam := []) trivial hJ trivial Try.func39 rfl rfl (Nat.le_of_ble_eq_true rfl) (Nat.le_of_ble_eq_true rfl) drOk39 ?_
  dsimp only [Try.f39, dr39, dd39, Option.getD_some]
  refine ev_start ?_
  by_cases h3 : 40 < l.length
  · have h3' : (40 : Int) < l.length := by omega
    have e1 : wtS l = 0 := by unfold wtS; rw [if_pos h3]
    have e2 : wtE l = 2 := by unfold wtE; rw [if_pos h3]
    simp (disch := omega) only [h3', e1, e2, go_sem, Int.reduceEq, Int.reduceLT, Int.reduceLE, Int.reduceNeg, Nat.reduceAdd, Nat.reduceLT, Nat.reduceEqDiff, Nat.reduceMul, Nat.reduceLeDiff, reduceIte, Nat.reduceBEq, reduceCtorEq, evP_D, evD_guard, evD_cons, evD_zero, evD_nil]
  have h3' : ¬ (40 : Int) < l.length := by omega
  simp (disch := omega) only [h3', go_sem, Int.reduceEq, Int.reduceLT, Int.reduceLE, Int.reduceNeg, Nat.reduceAdd, Nat.reduceLT, Nat.reduceEqDiff, Nat.reduceMul, Nat.reduceLeDiff, reduceIte, Nat.reduceBEq, reduceCtorEq, evP_D, evD_guard, evD_cons, evD_zero, evD_nil]
  refine evQ_loop [4, 10, 11, 12] [] (fun σ => ∃ (k : Nat), (k ≤ l.length ∧ ∀ i, i < k → 0 ≤ ge l i ∧ ge l i ≤ 1000000) ∧ σ = ⟨[(4, .int .i64 (wsum l k)), (10, .row 1 (l.map (V.int .i64))), (11, .int .i64 l.length), (12, .int .i64 k)], []⟩)
    (fun σ => l.length - (match Ev.look 12 σ.env with | some (.int _ n) => n.toNat | _ => 0)) ?_ ?_
  · simp only [go_sem, Int.reduceEq, Int.reduceLT, Int.reduceLE, Int.reduceNeg, Nat.reduceAdd, Nat.reduceLT, Nat.reduceEqDiff, Nat.reduceMul, Nat.reduceLeDiff, reduceIte, Nat.reduceBEq, reduceCtorEq, evP_D, evD_guard, evD_cons, evD_zero, evD_nil]
    exact ⟨0, ⟨Nat.zero_le _, fun i h => by omega⟩, rfl⟩
  · rintro σ ⟨k, ⟨hk, hall⟩, rfl⟩
    by_cases hlt : k < l.length
    · have hlt' : (k : Int) < l.length := by omega
      have hg : l[k]? = some (ge l k) := ge_get l hlt
      by_cases hb : badW (ge l k) = true
      · have e1 : wtS l = 0 := by unfold wtS; rw [if_neg h3, if_pos (anyW hlt hb)]
        have e2 : wtE l = 1 := by unfold wtE; rw [if_neg h3, if_pos (anyW hlt hb)]
        by_cases c1 : ge l k < 0
        · simp (disch := (first | omega | assumption)) only [e1, e2, hlt', idx_nat, List.getElem?_map, hg, c1, go_sem, Int.reduceEq, Int.reduceLT, Int.reduceLE, Int.reduceNeg, Nat.reduceAdd, Nat.reduceLT, Nat.reduceEqDiff, Nat.reduceMul, Nat.reduceLeDiff, reduceIte, Nat.reduceBEq, reduceCtorEq, evP_D, evD_guard, evD_cons, evD_zero, evD_nil]
        · have c2 : 1000000 < ge l k := by simp [badW] at hb; omega
          simp (disch := (first | omega | assumption)) only [e1, e2, hlt', idx_nat, List.getElem?_map, hg, c1, c2, go_sem, Int.reduceEq, Int.reduceLT, Int.reduceLE, Int.reduceNeg, Nat.reduceAdd, Nat.reduceLT, Nat.reduceEqDiff, Nat.reduceMul, Nat.reduceLeDiff, reduceIte, Nat.reduceBEq, reduceCtorEq, evP_D, evD_guard, evD_cons, evD_zero, evD_nil]
      · have c1 : ¬ ge l k < 0 := fun h => hb (by simp [badW, h])
        have c2 : ¬ 1000000 < ge l k := fun h => hb (by simp [badW, h])
        have hs : 0 ≤ wsum l k ∧ wsum l k ≤ k * 1000000 := by
          have : ∀ m, m ≤ k → 0 ≤ wsum l m ∧ wsum l m ≤ m * 1000000 := fun m => by
            induction m with
            | zero => intro _; simp [wsum]
            | succ m ih =>
              intro hm
              have := ih (by omega)
              have := hall m (by omega)
              simp only [wsum]; omega
          exact this k (Nat.le_refl _)
        simp (disch := (first | omega | assumption)) only [hlt', idx_nat, List.getElem?_map, hg, c1, c2, go_sem, Int.reduceEq, Int.reduceLT, Int.reduceLE, Int.reduceNeg, Nat.reduceAdd, Nat.reduceLT, Nat.reduceEqDiff, Nat.reduceMul, Nat.reduceLeDiff, reduceIte, Nat.reduceBEq, reduceCtorEq, evP_D, evD_guard, evD_cons, evD_zero, evD_nil]
        exact ⟨⟨k + 1, ⟨hlt, fun i hi => by
          by_cases e : i = k
          · rw [e]; omega
          · exact hall i (by omega)⟩, rfl⟩, by
          have e3 : ((k : Int) + 1).toNat = k + 1 := by omega
          rw [e3, Int.toNat_natCast]; omega⟩
    · have hk' : k = l.length := by omega
      subst hk'
      have hno : l.any badW = false := noW fun i hi => by have := hall i hi; simp [badW]; omega
      have hlt' : ¬ ((l.length : Int) < l.length) := by omega
      have e1 : wtS l = wsum l l.length := by unfold wtS; rw [if_neg h3, hno]; rfl
      have e2 : wtE l = 0 := by unfold wtE; rw [if_neg h3, hno]; rfl
      simp (disch := (first | omega | assumption)) only [e1, e2, hlt', go_sem, Int.reduceEq, Int.reduceLT, Int.reduceLE, Int.reduceNeg, Nat.reduceAdd, Nat.reduceLT, Nat.reduceEqDiff, Nat.reduceMul, Nat.reduceLeDiff, reduceIte, Nat.reduceBEq, reduceCtorEq, evP_D, evD_guard, evD_cons, evD_zero, evD_nil]
/-! ### rows that are filled one by one -/
def fillL {α : Type} (d : α) (f : Nat → α) (n k : Nat) : List α := (List.range n).map fun i => if i < k then f i else d
theorem fillL_zero {α : Type} (d : α) (f : Nat → α) (n : Nat) : fillL d f n 0 = List.replicate n d := by
  apply List.ext_getElem?
  intro i
  by_cases h : i < n <;> simp [fillL, h, List.getElem?_replicate]
theorem fillL_len {α : Type} (d : α) (f : Nat → α) (n k : Nat) : (fillL d f n k).length = n := by simp [fillL]
theorem fillL_set {α : Type} (d : α) (f : Nat → α) {n k : Nat} : (fillL d f n k).set k (f k) = fillL d f n (k + 1) := by
  apply List.ext_getElem?
  intro i
  rw [List.getElem?_set]
  by_cases e : k = i
  · subst e
    rw [if_pos rfl, fillL_len]
    by_cases hn : k < n
    · rw [if_pos hn]; simp [fillL, hn]
    · rw [if_neg hn]; simp [fillL, hn]
  · rw [if_neg e]
    by_cases hn : i < n
    · have : (i < k + 1) ↔ (i < k) := by omega
      simp [fillL, hn, this]
    · simp [fillL, hn]
theorem fillL_end {α : Type} (d : α) (f : Nat → α) (n : Nat) : fillL d f n n = (List.range n).map f := by
  unfold fillL
  exact List.map_congr_left fun i hi => by rw [List.mem_range] at hi; rw [if_pos hi]
theorem fillL_at {α : Type} (d : α) (f : Nat → α) {n k i : Nat} (h : i < n) (hk : ¬ i < k) : (fillL d f n k)[i]? = some d := by simp [fillL, h, hk]
theorem fillL_map {α β : Type} (g : α → β) (d : α) (f : Nat → α) (n k : Nat) : (fillL d f n k).map g = fillL (g d) (fun i => g (f i)) n k := by
  unfold fillL
  rw [List.map_map]
  exact List.map_congr_left fun i _ => by simp only [Function.comp]; split <;> rfl
def sgn (a : Int) : Int := if a < 0 then -1 else 1
def mag (a : Int) : Int := if a < 0 then -a else a
def evF (a n k : Int) : Int := sgn a * (mag a * k / n)
def evOk (a n : Int) : Prop := (-1000000000000 ≤ a ∧ a ≤ 1000000000000) ∧ 1 ≤ n ∧ n ≤ 40
theorem ev_bd {m : Int} {n k : Nat} (h0 : 0 ≤ m) (h1 : m ≤ 1000000000000) (hn : 1 ≤ n) (hk : k ≤ n) : 0 ≤ m * k ∧ m * k ≤ 40000000000000 ∨ 40 < n := by
  by_cases h : 40 < n
  · exact .inr h
  · refine .inl ⟨Int.mul_nonneg h0 (by omega), ?_⟩
    have := Int.mul_le_mul h1 (show (k : Int) ≤ 40 by omega) (by omega) (by omega)
    omega
theorem evd_bd {m : Int} {n k : Nat} (h0 : 0 ≤ m) (h1 : m ≤ 1000000000000) (hn : 1 ≤ n) (hk : k ≤ n) : 0 ≤ m * k / n ∧ m * k / n ≤ 1000000000000 := by
  refine ⟨Int.ediv_nonneg (Int.mul_nonneg h0 (by omega)) (by omega), ?_⟩
  have h2 := Int.mul_le_mul_of_nonneg_left (show (k : Int) ≤ n by omega) h0
  have := Int.ediv_le_of_le_mul (show (0 : Int) < n by omega) h2
  omega
end Go.Proofs.Ytdjdipehfnnhpaa
