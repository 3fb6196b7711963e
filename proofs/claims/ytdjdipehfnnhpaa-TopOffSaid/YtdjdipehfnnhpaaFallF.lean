/-
  Units of both packages and FallSays' law, run by the machine.
-/
import Derived.Test.YtdjdipehfnnhpaaFallE
namespace Go.Proofs.Ytdjdipehfnnhpaa
open Go Go.Ev Go.RowKit
set_option maxHeartbeats 4000000
set_option linter.unusedSimpArgs false
set_option linter.unusedVariables false
attribute [local go_sem] subE partR boundsV ownP sliceW copyV clearV lenM takeV tk1 mapsV mkMapV hintOk lookV updV mapKE keyOk V.key app_lend callW_fn lendV postL_ret postL_normal postT_ret postT_normal takeR St.lent mkX_L bin_eql_vz bin_eql_zv bin_eql_rz bin_eql_zr bin_eql_zz bin_neq_vz bin_neq_zv bin_neq_rz bin_neq_zr bin_neq_zz eqH nilEq nonE plainI gOf_bool gOf_skip g_some g_none Int.ofNat_zero Int.cast_ofNat_Int Bool.false_and Bool.and_false sliceV noBox elemsZ V.scrub V.scrubL Blk.scrub appendV isSlice maxLen_eq leT List.contains_nil List.contains_cons nvL_at fzL_at fillV V.plain V.plainL Blk.plain List.size_toArray mapO_nil mapO_cons Option.isNone_none Option.isNone_some beqT beqF oI_not mkX_e phi_nil phi_cons bin_eql_bool bin_neq_bool bin_eql_agg bin_neq_agg eqV eqFs eqK_int eqK_bool' eqK_str mkX_T mkX_Φ mkX_n mkX_f mkX_d mkX_r nv0_at fz0_at evQ_dr evP_W evW_nil evW_cons evW_guard okW_eq tame_none tame_new tame_write wb_none wb_new wb_write okU_some offW_none offW_some touchOf V.noRef V.noRefL Option.isSome_some Option.isSome_none mild_none mild_new Option.getD_some Option.getD_none evQ_seq evQ_region evQ_block evQ_cond evQ_ret evQ_skip evQ_exit evO_cons evO_nil evO_guard freezeL_nil oS_some oS_none oS_ite oS_ite' oB_bool oI_true oI_false oE_normal oE_exit oE_ret bQ_normal bQ_ret bQ_exit lQ_normal lQ_ret lQ_exit List.zipIdx_cons List.zipIdx_nil List.map_cons List.map_nil evalOp opd_const opd_tmp opd_func ofC_int ofC_bool ofC_str ofC_nil app_none app_new app_write app_change putE_some putE_none setA_cons setA_nil setH_cons setH_nil mapA_cons mapA_nil look_cons look_nil e_mk h_mk drop_nil drop_mk keep_mk dstOk_some dstOk_none guardT_eq true_and and_true Bool.not_false Bool.not_true selB_true selB_false mem_nil mem_cons kpL_nil kpL_cons drL_nil drL_cons closed_mk V.refsIn V.refsInL Blk.refsIn List.all_cons List.all_nil lenV bin_add bin_sub bin_mul bin_quo bin_rem bin_eql bin_neq bin_lss bin_leq bin_gtr bin_geq un_neg un_not post_ret post_normal St.init Bool.false_eq_true List.length_map Bool.or_false Bool.or_true Bool.false_or Bool.true_or beq_self_eq_true Option.map_some Option.map_none Option.bind_some List.getElem?_cons_zero List.getElem?_cons_succ scalar stor isAggV V.cells List.cons_append List.nil_append if_true if_false wrap_of callV V.dataL V.data Bool.and_true Bool.true_and fresh names V.ren V.renL retV resV packL packV packC getBlks wrapR subV putV decide_true decide_false TK.agg List.length_cons List.length_nil List.take_succ_cons List.take_zero List.drop_succ_cons List.drop_zero List.take_nil List.drop_nil Nat.zero_add Nat.add_zero List.append_nil List.getElem?_nil elemsV ro ro0 ro1 roC ty2 ty3 ty4 ty5 ty6 ty7 ty8 ty9 ty10 ty11 ty12 ty13 ty14 ty18 ty19 ty21 ty24 ty25 ty33 ty34 ty35 ty36 ty41 ty42 ty43 ty45 ty46 ty53 ty63 ty64 ty69 ty74 ty77 ty78 ty96 ty98 ty108 ty115 ty142 ty143 ty148 ty149 ty152 ty153 ty154 ty155 eqs46 eqs64 eqs78
/-- the sum of the first k -/
def psum (l : List Int) : Nat → Int
  | 0 => 0
  | k + 1 => psum l k + l.getD k 0
theorem psum_bd {l : List Int} {M : Int} (hM : 0 ≤ M) : ∀ k, k ≤ l.length → (∀ i (h : i < l.length), i < k → 0 ≤ l[i] ∧ l[i] ≤ M) → 0 ≤ psum l k ∧ psum l k ≤ k * M
  | 0, _, _ => by simp [psum]
  | k + 1, hk, h => by
    have ih := psum_bd hM k (by omega) fun i hi hik => h i hi (by omega)
    have h1 := h k (by omega) (by omega)
    have e : l.getD k 0 = l[k] := by simp [List.getD_eq_getElem?_getD, List.getElem?_eq_getElem (show k < l.length by omega)]
    rw [psum, e]
    have : ((k + 1 : Nat) : Int) * M = k * M + M := by rw [Int.natCast_add, Int.add_mul]; simp
    omega
def usedBad (u : Int) : Bool := decide (u < 0 ∨ 1000000 < u)
def capped (total s : Int) : Int := if total < s then total else s
def unitF (cost rest total : Int) (used : List Int) (k : Int) : Int := Rnd.rnd ((cost - rest) * capped total (psum used k.toNat)) total 0
def unitV (cost rest total : Int) (used : List Int) : V × List Blk :=
  if offE cost rest 1 = 0 then
    if 1 ≤ total ∧ total ≤ 1000000 then
      if used.length ≤ 40 then
        if used.any usedBad = true then (.tup [.zero, .int .i64 1], [])
        else (.tup [.vec 0, .int .i64 0], [.vec 3 1 ((steps (unitF cost rest total used) used.length).map (V.int .i64))])
      else (.tup [.zero, .int .i64 2], [])
    else (.tup [.zero, .int .i64 1], [])
  else (.tup [.zero, .int .i64 1], [])
theorem mul_bd6 {a x : Int} (h0 : 0 ≤ a) (h1 : a ≤ 1000000000000) (h2 : 0 ≤ x) (h3 : x ≤ 1000000) : 0 ≤ a * x ∧ a * x ≤ 1000000000000000000 := mul_bd0 h0 h1 h2 h3
theorem unit_step {cost rest total s : Int} (a0 : 0 ≤ rest) (a1 : rest ≤ cost) (a2 : cost ≤ 1000000000000) (t0 : 1 ≤ total) (t1 : total ≤ 1000000) (s0 : 0 ≤ s) :
    (0 ≤ (cost - rest) * capped total s ∧ (cost - rest) * capped total s ≤ 1000000000000000000) ∧ ((cost - rest) * capped total s).tdiv total = Rnd.rnd ((cost - rest) * capped total s) total 0 ∧
    0 ≤ Rnd.rnd ((cost - rest) * capped total s) total 0 ∧ Rnd.rnd ((cost - rest) * capped total s) total 0 ≤ 1000000000000000000 := by
  have hc : 0 ≤ capped total s ∧ capped total s ≤ 1000000 := by unfold capped; split <;> omega
  have p := mul_bd6 (show 0 ≤ cost - rest by omega) (by omega) hc.1 hc.2
  refine ⟨p, ?_, rnd_ge0 p.1 t0, ?_⟩
  · rw [(Rnd.trunc_pos p.1).1]; rfl
  · rw [Rnd.rnd0]
    exact (Rnd.div_bd _ (d := total) (M := 1000000000000000000) t0 (by omega) p.2 (by omega)).2
theorem units_sound {J : World → Prop} (hJ : Stable J) (cost rest total : Int) (used : List Int) :
    SoundAt Try.prog J 12 [.int .i64 cost, .int .i64 rest, .int .i64 total, .row 1 (used.map (V.int .i64))] (unitV cost rest total used).1 (unitV cost rest total used).2 := by
  refine SoundAt.row 3 rfl (callOk Try.func12 rfl rfl) fun hlen => ?_
  simp only [maxLen, List.length_map] at hlen
  rcases off_01 cost rest 1 with h | h
  case inr =>
    have e : unitV cost rest total used = (.tup [.zero, .int .i64 1], []) := by unfold unitV; rw [if_neg (by omega)]
    rw [e]
    refine evFn (l := fallPhi) (nv := nv0) (fz := fz0) (dr := dr12) (dd := dd12) (lam := []) (fallPhi_ok hJ) hJ trivial Try.func12 rfl rfl (Nat.le_of_ble_eq_true rfl) (Nat.le_of_ble_eq_true rfl) drOk12 ?_
    dsimp only [Try.f12, dr12, dd12, Option.getD_some]
    refine ev_start ?_
    simp (disch := omega) only [fallPhi, offF_eq, h, go_sem, Int.reduceEq, Int.reduceLT, Int.reduceLE, Int.reduceNeg, Nat.reduceAdd, Nat.reduceLT, Nat.reduceEqDiff, Nat.reduceMul, Nat.reduceLeDiff, reduceIte, Nat.reduceBEq, reduceCtorEq, evP_D, evD_guard, evD_cons, evD_zero, evD_nil]
  obtain ⟨a0, a1, a2, a3, a4, a5⟩ := off_of h
  by_cases h1 : total < 1
  · have e : unitV cost rest total used = (.tup [.zero, .int .i64 1], []) := by unfold unitV; rw [if_pos h, if_neg (by omega)]
    rw [e]
    refine evFn (l := fallPhi) (nv := nv0) (fz := fz0) (dr := dr12) (dd := dd12) (lam := []) (fallPhi_ok hJ) hJ trivial Try.func12 rfl rfl (Nat.le_of_ble_eq_true rfl) (Nat.le_of_ble_eq_true rfl) drOk12 ?_
    dsimp only [Try.f12, dr12, dd12, Option.getD_some]
    refine ev_start ?_
    simp (disch := omega) only [fallPhi, offF_eq, h, h1, go_sem, Int.reduceEq, Int.reduceLT, Int.reduceLE, Int.reduceNeg, Nat.reduceAdd, Nat.reduceLT, Nat.reduceEqDiff, Nat.reduceMul, Nat.reduceLeDiff, reduceIte, Nat.reduceBEq, reduceCtorEq, evP_D, evD_guard, evD_cons, evD_zero, evD_nil]
  by_cases h2 : 1000000 < total
  · have e : unitV cost rest total used = (.tup [.zero, .int .i64 1], []) := by unfold unitV; rw [if_pos h, if_neg (by omega)]
    rw [e]
    refine evFn (l := fallPhi) (nv := nv0) (fz := fz0) (dr := dr12) (dd := dd12) (lam := []) (fallPhi_ok hJ) hJ trivial Try.func12 rfl rfl (Nat.le_of_ble_eq_true rfl) (Nat.le_of_ble_eq_true rfl) drOk12 ?_
    dsimp only [Try.f12, dr12, dd12, Option.getD_some]
    refine ev_start ?_
    simp (disch := omega) only [fallPhi, offF_eq, h, h1, h2, go_sem, Int.reduceEq, Int.reduceLT, Int.reduceLE, Int.reduceNeg, Nat.reduceAdd, Nat.reduceLT, Nat.reduceEqDiff, Nat.reduceMul, Nat.reduceLeDiff, reduceIte, Nat.reduceBEq, reduceCtorEq, evP_D, evD_guard, evD_cons, evD_zero, evD_nil]
  by_cases h3 : 40 < used.length
  · have h3' : (40 : Int) < used.length := by omega
    have e : unitV cost rest total used = (.tup [.zero, .int .i64 2], []) := by unfold unitV; rw [if_pos h, if_pos (by omega), if_neg (by omega)]
    rw [e]
    refine evFn (l := fallPhi) (nv := nv0) (fz := fz0) (dr := dr12) (dd := dd12) (lam := []) (fallPhi_ok hJ) hJ trivial Try.func12 rfl rfl (Nat.le_of_ble_eq_true rfl) (Nat.le_of_ble_eq_true rfl) drOk12 ?_
    dsimp only [Try.f12, dr12, dd12, Option.getD_some]
    refine ev_start ?_
    simp (disch := omega) only [fallPhi, offF_eq, h, h1, h2, h3', go_sem, Int.reduceEq, Int.reduceLT, Int.reduceLE, Int.reduceNeg, Nat.reduceAdd, Nat.reduceLT, Nat.reduceEqDiff, Nat.reduceMul, Nat.reduceLeDiff, reduceIte, Nat.reduceBEq, reduceCtorEq, evP_D, evD_guard, evD_cons, evD_zero, evD_nil]
  have h3' : ¬ (40 : Int) < used.length := by omega
  refine evFn (l := fallPhi) (nv := (nvL [(13, (3, 1))])) (fz := fz0) (dr := dr12) (dd := dd12) (lam := []) (fallPhi_ok hJ) hJ trivial Try.func12 rfl rfl (Nat.le_of_ble_eq_true rfl) (Nat.le_of_ble_eq_true rfl) drOk12 ?_
  dsimp only [Try.f12, dr12, dd12, Option.getD_some]
  refine ev_start ?_
  simp (disch := omega) only [fallPhi, offF_eq, h, h1, h2, h3', go_sem, Int.reduceEq, Int.reduceLT, Int.reduceLE, Int.reduceNeg, Nat.reduceAdd, Nat.reduceLT, Nat.reduceEqDiff, Nat.reduceMul, Nat.reduceLeDiff, reduceIte, Nat.reduceBEq, reduceCtorEq, evP_D, evD_guard, evD_cons, evD_zero, evD_nil]
  refine evQ_loop [0, 1, 2, 11, 12, 13, 32, 33, 34] [104] (fun σ => ∃ (k : Nat), (k ≤ used.length ∧ ∀ i (h : i < used.length), i < k → usedBad used[i] = false) ∧
    σ = ⟨[(0, .int .i64 cost), (1, .int .i64 rest), (2, .int .i64 total), (11, .int .i64 (psum used k)), (12, .int .i64 (unitF cost rest total used k)), (13, .vec 104), (32, .row 1 (used.map (V.int .i64))), (33, .int .i64 used.length), (34, .int .i64 k)],
      [(104, .vec 3 1 ((steps (unitF cost rest total used) k).map (V.int .i64)))]⟩) (fun σ => used.length - (match Ev.look 34 σ.env with | some (.int _ n) => n.toNat | _ => 0)) ?_ ?_
  · simp only [go_sem, Int.reduceEq, Int.reduceLT, Int.reduceLE, Int.reduceNeg, Nat.reduceAdd, Nat.reduceLT, Nat.reduceEqDiff, Nat.reduceMul, Nat.reduceLeDiff, reduceIte, Nat.reduceBEq, reduceCtorEq, evP_D, evD_guard, evD_cons, evD_zero, evD_nil]
    refine ⟨0, ⟨Nat.zero_le _, fun _ _ h => by omega⟩, ?_⟩
    have : unitF cost rest total used ((0 : Nat) : Int) = 0 := by
      unfold unitF capped
      simp only [Int.ofNat_zero, Int.toNat_zero, psum]
      rw [if_neg (by omega), Int.mul_zero, Rnd.rnd0, Int.zero_ediv]
    rw [this]
    rfl
  · rintro σ ⟨k, ⟨hk, hall⟩, rfl⟩
    have hin : ∀ i (h : i < used.length), i < k → 0 ≤ used[i] ∧ used[i] ≤ 1000000 := fun i hi hik => by
      have := hall i hi hik
      simp [usedBad] at this
      omega
    have hs := psum_bd (M := 1000000) (by omega) k hk hin
    by_cases hlt : k < used.length
    · have hlt' : (k : Int) < used.length := by omega
      have hg : used[k]? = some used[k] := List.getElem?_eq_getElem hlt
      have hsum : psum used (k + 1) = psum used k + used[k] := by rw [psum, List.getD_eq_getElem?_getD, hg]; rfl
      by_cases c1 : used[k] < 0
      · have e : unitV cost rest total used = (.tup [.zero, .int .i64 1], []) := by
          unfold unitV; rw [if_pos h, if_pos (by omega), if_pos (by omega), if_pos (List.any_eq_true.2 ⟨used[k], List.getElem_mem hlt, by simp [usedBad, c1]⟩)]
        simp (disch := (first | omega | assumption)) only [e, hlt', idx_nat, List.getElem?_map, hg, c1, go_sem, Int.reduceEq, Int.reduceLT, Int.reduceLE, Int.reduceNeg, Nat.reduceAdd, Nat.reduceLT, Nat.reduceEqDiff, Nat.reduceMul, Nat.reduceLeDiff, reduceIte, Nat.reduceBEq, reduceCtorEq, evP_D, evD_guard, evD_cons, evD_zero, evD_nil]
      by_cases c2 : 1000000 < used[k]
      · have e : unitV cost rest total used = (.tup [.zero, .int .i64 1], []) := by
          unfold unitV; rw [if_pos h, if_pos (by omega), if_pos (by omega), if_pos (List.any_eq_true.2 ⟨used[k], List.getElem_mem hlt, by simp [usedBad, c2]⟩)]
        simp (disch := (first | omega | assumption)) only [e, hlt', idx_nat, List.getElem?_map, hg, c1, c2, go_sem, Int.reduceEq, Int.reduceLT, Int.reduceLE, Int.reduceNeg, Nat.reduceAdd, Nat.reduceLT, Nat.reduceEqDiff, Nat.reduceMul, Nat.reduceLeDiff, reduceIte, Nat.reduceBEq, reduceCtorEq, evP_D, evD_guard, evD_cons, evD_zero, evD_nil]
      have hF1 : unitF cost rest total used ((k : Int) + 1) = Rnd.rnd ((cost - rest) * capped total (psum used k + used[k])) total 0 := by
        unfold unitF; rw [show ((k : Int) + 1).toNat = k + 1 by omega, hsum]
      have st := unit_step (total := total) (s := psum used k + used[k]) a2 a3 a1 (by omega) (by omega) (by omega)
      have st0 := unit_step (total := total) (s := psum used k) a2 a3 a1 (by omega) (by omega) (by omega)
      have hF0 : unitF cost rest total used (k : Int) = Rnd.rnd ((cost - rest) * capped total (psum used k)) total 0 := by
        unfold unitF; rw [Int.toNat_natCast]
      have hb0 : 0 ≤ unitF cost rest total used (k : Int) ∧ unitF cost rest total used (k : Int) ≤ 1000000000000000000 := by rw [hF0]; exact st0.2.2
      rw [← hF1] at st
      have hcap : (if total < psum used k + used[k] then total else psum used k + used[k]) = capped total (psum used k + used[k]) := rfl
      have hne : ¬ total = 0 := by omega
      have hk1 : used[k] ≤ 1000000 := by omega
      generalize used[k] = u at hg c1 c2 hcap st hsum hk1
      have key : ∀ c, c = capped total (psum used k + u) → (0 ≤ c ∧ c ≤ 1000000) → True := fun _ _ _ => trivial
      by_cases hq : total < psum used k + u
      · rw [if_pos hq] at hcap
        rw [← hcap] at st
        obtain ⟨q1, q2, q3⟩ := st
        simp (disch := (first | omega | assumption)) only [hlt', idx_nat, List.getElem?_map, hg, c1, c2, hq, hne, q2, List.length_map, steps_len, go_sem, Int.reduceEq, Int.reduceLT, Int.reduceLE, Int.reduceNeg, Nat.reduceAdd, Nat.reduceLT, Nat.reduceEqDiff, Nat.reduceMul, Nat.reduceLeDiff, reduceIte, Nat.reduceBEq, reduceCtorEq, evP_D, evD_guard, evD_cons, evD_zero, evD_nil]
        exact ⟨⟨k + 1, ⟨by omega, fun i hi hik => by
          by_cases e : i = k
          · subst e
            have : used[i] = u := by rw [List.getElem?_eq_getElem hi] at hg; exact Option.some.inj hg
            rw [this]; simp [usedBad]; omega
          · exact hall i hi (by omega)⟩, by rw [steps_succ, List.map_append, hsum]; rfl⟩, by
          have e3 : ((k : Int) + 1).toNat = k + 1 := by omega
          rw [e3, Int.toNat_natCast]; omega⟩
      · rw [if_neg hq] at hcap
        rw [← hcap] at st
        obtain ⟨q1, q2, q3⟩ := st
        simp (disch := (first | omega | assumption)) only [hlt', idx_nat, List.getElem?_map, hg, c1, c2, hq, hne, q2, List.length_map, steps_len, go_sem, Int.reduceEq, Int.reduceLT, Int.reduceLE, Int.reduceNeg, Nat.reduceAdd, Nat.reduceLT, Nat.reduceEqDiff, Nat.reduceMul, Nat.reduceLeDiff, reduceIte, Nat.reduceBEq, reduceCtorEq, evP_D, evD_guard, evD_cons, evD_zero, evD_nil]
        exact ⟨⟨k + 1, ⟨by omega, fun i hi hik => by
          by_cases e : i = k
          · subst e
            have : used[i] = u := by rw [List.getElem?_eq_getElem hi] at hg; exact Option.some.inj hg
            rw [this]; simp [usedBad]; omega
          · exact hall i hi (by omega)⟩, by rw [steps_succ, List.map_append, hsum]; rfl⟩, by
          have e3 : ((k : Int) + 1).toNat = k + 1 := by omega
          rw [e3, Int.toNat_natCast]; omega⟩
    · have hk' : k = used.length := by omega
      subst hk'
      have hlt' : ¬ ((used.length : Int) < used.length) := by omega
      have hany : ¬ used.any usedBad = true := by
        rw [Bool.not_eq_true, List.any_eq_false]
        intro x hx
        obtain ⟨i, hi, rfl⟩ := List.mem_iff_getElem.1 hx
        simp [hall i hi hi]
      have e : unitV cost rest total used = (.tup [.vec 0, .int .i64 0], [.vec 3 1 ((steps (unitF cost rest total used) used.length).map (V.int .i64))]) := by
        unfold unitV; rw [if_pos h, if_pos (by omega), if_pos (by omega), if_neg hany]
      simp (disch := (first | omega | assumption)) only [e, hlt', go_sem, Int.reduceEq, Int.reduceLT, Int.reduceLE, Int.reduceNeg, Nat.reduceAdd, Nat.reduceLT, Nat.reduceEqDiff, Nat.reduceMul, Nat.reduceLeDiff, reduceIte, Nat.reduceBEq, reduceCtorEq, evP_D, evD_guard, evD_cons, evD_zero, evD_nil]
end Go.Proofs.Ytdjdipehfnnhpaa
