/-
  Items in their order by insertion, and the ties, run by the machine.
-/
import Derived.Test.YtdjdipehfnnhpaaTiE
import Derived.Test.YtdjdipehfnnhpaaRepE
import Derived.Test.YtdjdipehfnnhpaaDelI
namespace Go.Proofs.Ytdjdipehfnnhpaa
open Go Go.Ev Go.RowKit Go.Tie Go.Spl Go.Srt
set_option maxHeartbeats 4000000
set_option linter.unusedSimpArgs false
set_option linter.unusedVariables false
attribute [local go_sem] subE partR boundsV ownP sliceW copyV clearV lenM takeV tk1 mapsV mkMapV hintOk lookV updV mapKE keyOk V.key app_lend callW_fn lendV postL_ret postL_normal postT_ret postT_normal takeR St.lent mkX_L bin_eql_vz bin_eql_zv bin_eql_rz bin_eql_zr bin_eql_zz bin_neq_vz bin_neq_zv bin_neq_rz bin_neq_zr bin_neq_zz eqH nilEq nonE plainI gOf_bool gOf_skip g_some g_none Int.ofNat_zero Int.cast_ofNat_Int Bool.false_and Bool.and_false sliceV noBox elemsZ V.scrub V.scrubL Blk.scrub appendV isSlice maxLen_eq leT List.contains_nil List.contains_cons nvL_at fzL_at fillV V.plain V.plainL Blk.plain List.size_toArray mapO_nil mapO_cons Option.isNone_none Option.isNone_some beqT beqF oI_not mkX_e phi_nil phi_cons bin_eql_bool bin_neq_bool bin_eql_agg bin_neq_agg eqV eqFs eqK_int eqK_bool' eqK_str mkX_T mkX_Φ mkX_n mkX_f mkX_d mkX_r nv0_at fz0_at evQ_dr evP_W evW_nil evW_cons evW_guard okW_eq tame_none tame_new tame_write wb_none wb_new wb_write okU_some offW_none offW_some touchOf V.noRef V.noRefL Option.isSome_some Option.isSome_none mild_none mild_new Option.getD_some Option.getD_none evQ_seq evQ_region evQ_block evQ_cond evQ_ret evQ_skip evQ_exit evO_cons evO_nil evO_guard freezeL_nil oS_some oS_none oS_ite oS_ite' oB_bool oI_true oI_false oE_normal oE_exit oE_ret bQ_normal bQ_ret bQ_exit lQ_normal lQ_ret lQ_exit List.zipIdx_cons List.zipIdx_nil List.map_cons List.map_nil evalOp opd_const opd_tmp opd_func ofC_int ofC_bool ofC_str ofC_nil app_none app_new app_write app_change putE_some putE_none setA_cons setA_nil setH_cons setH_nil mapA_cons mapA_nil look_cons look_nil e_mk h_mk drop_nil drop_mk keep_mk dstOk_some dstOk_none guardT_eq true_and and_true Bool.not_false Bool.not_true selB_true selB_false mem_nil mem_cons kpL_nil kpL_cons drL_nil drL_cons closed_mk V.refsIn V.refsInL Blk.refsIn List.all_cons List.all_nil lenV bin_add bin_sub bin_mul bin_quo bin_rem bin_eql bin_neq bin_lss bin_leq bin_gtr bin_geq un_neg un_not post_ret post_normal St.init Bool.false_eq_true List.length_map Bool.or_false Bool.or_true Bool.false_or Bool.true_or beq_self_eq_true Option.map_some Option.map_none Option.bind_some List.getElem?_cons_zero List.getElem?_cons_succ scalar stor isAggV V.cells List.cons_append List.nil_append if_true if_false wrap_of callV V.dataL V.data Bool.and_true Bool.true_and fresh names V.ren V.renL retV resV packL packV packC getBlks wrapR subV putV decide_true decide_false TK.agg List.length_cons List.length_nil List.take_succ_cons List.take_zero List.drop_succ_cons List.drop_zero List.take_nil List.drop_nil Nat.zero_add Nat.add_zero List.append_nil List.getElem?_nil elemsV ro ro0 ro1 roC ty2 ty3 ty4 ty5 ty6 ty7 ty8 ty9 ty10 ty11 ty12 ty13 ty14 ty18 ty19 ty21 ty24 ty25 ty33 ty34 ty35 ty36 ty41 ty42 ty43 ty45 ty46 ty53 ty63 ty64 ty69 ty74 ty77 ty78 ty96 ty98 ty108 ty115 ty142 ty143 ty148 ty149 ty152 ty153 ty154 ty155 eqs46 eqs64 eqs78
/-- contracts at a family of arguments -/
theorem famz {P : Program} {J : World → Prop} {f : FuncId} {α : Type} (a : α → List V) (r : α → V × List Blk) (hi : ∀ i j, a i = a j → r i = r j) (h : ∀ i, SoundAt P J f (a i) (r i).1 (r i).2) :
    ∃ F : List V → Option (V × List Blk), (∀ i, F (a i) = some (r i)) ∧ Snd P J f F := by
  refine ⟨fun x => open Classical in if h : ∃ i, a i = x then some (r h.choose) else none, fun i => ?_, fun args r' bs h' => ?_⟩
  · have hx : ∃ j, a j = a i := ⟨i, rfl⟩
    simp only [dif_pos hx]
    rw [hi _ _ hx.choose_spec]
  · by_cases hx : ∃ i, a i = args
    · simp only [dif_pos hx] at h'
      have e := Option.some.inj h'
      have := h hx.choose
      rw [e, hx.choose_spec] at this
      exact this
    · simp only [dif_neg hx] at h'
      cases h'
theorem itV_inj : ∀ {l l' : List It}, l.map itV = l'.map itV → l = l'
  | [], [], _ => rfl
  | [], _ :: _, h => by simp at h
  | _ :: _, [], h => by simp at h
  | x :: l, y :: l', h => by
    simp only [List.map_cons, List.cons.injEq, itV, V.agg.injEq, V.int.injEq, true_and, and_true] at h
    rw [itV_inj h.2, Prod.ext h.1.1 h.1.2]
def Rin (T : TypeId) (sz : Nat) (es xs es' : List V) : Prop := (T = 3 ∧ sz = 1) ∧ ∃ (l : List Int) (j : Nat) (x : Int), es = l.map (V.int .i64) ∧ xs = [.int .i64 j, .row 1 [.int .i64 x]] ∧ (j ≤ l.length ∧ l.length ≤ 1000) ∧ es' = (l.take j ++ x :: l.drop j).map (V.int .i64)
theorem Rin_eq (l : List Int) (j : Nat) (x : Int) (h : j ≤ l.length ∧ l.length ≤ 1000) : pickL Rin 3 1 (l.map (V.int .i64)) [.int .i64 j, .row 1 [.int .i64 x]] = some ((l.take j ++ x :: l.drop j).map (V.int .i64)) := by
  refine pickL_eq ⟨⟨rfl, rfl⟩, l, j, x, rfl, rfl, h, rfl⟩ ?_
  rintro e ⟨_, l', j', x', h1, h2, _, rfl⟩
  have := mapI_inj h1
  subst this
  simp only [List.cons.injEq, V.int.injEq, V.row.injEq, true_and, and_true] at h2
  obtain ⟨h3, rfl⟩ := h2
  have : j = j' := by omega
  subst this
  rfl
theorem Rin_ok {J : World → Prop} : ∀ T sz es xs es', pickL Rin T sz es xs = some es' → TakeAt Try.prog J 89 T sz es xs es' := by
  intro T sz es xs es' h
  obtain ⟨⟨rfl, rfl⟩, l, j, x, rfl, rfl, ⟨h1, h2⟩, rfl⟩ := pickL_of h
  have := insI_take (J := J) j (l.map (V.int .i64)) [.int .i64 x] (by simpa using h1) (by simp) (by simp; omega)
  rw [show (l.take j ++ x :: l.drop j).map (V.int .i64) = (l.map (V.int .i64)).take j ++ [.int .i64 x] ++ (l.map (V.int .i64)).drop j by simp]
  exact this
def Rdel (T : TypeId) (sz : Nat) (es xs es' : List V) : Prop := (T = 3 ∧ sz = 1) ∧ ∃ (l : List Int) (j : Nat), es = l.map (V.int .i64) ∧ xs = [.int .i64 j, .int .i64 ((j : Int) + 1)] ∧ j < l.length ∧ es' = (l.take j ++ l.drop (j + 1)).map (V.int .i64)
theorem Rdel_eq (l : List Int) (j : Nat) (h : j < l.length) : pickL Rdel 3 1 (l.map (V.int .i64)) [.int .i64 j, .int .i64 ((j : Int) + 1)] = some ((l.take j ++ l.drop (j + 1)).map (V.int .i64)) := by
  refine pickL_eq ⟨⟨rfl, rfl⟩, l, j, rfl, rfl, h, rfl⟩ ?_
  rintro e ⟨_, l', j', h1, h2, _, rfl⟩
  have := mapI_inj h1
  subst this
  simp only [List.cons.injEq, V.int.injEq, true_and, and_true] at h2
  have : j = j' := by omega
  subst this
  rfl
theorem Rdel_ok {J : World → Prop} : ∀ T sz es xs es', pickL Rdel T sz es xs = some es' → TakeAt Try.prog J 63 T sz es xs es' := by
  intro T sz es xs es' h
  obtain ⟨⟨rfl, rfl⟩, l, j, rfl, rfl, h1, rfl⟩ := pickL_of h
  have := delI_take (J := J) j (j + 1) l (by omega) (by omega) (fun e => by subst e; simp at h1)
  exact this
/-- a permutation's first, as ints -/
def pl (π : Nat → Nat) (k : Nat) : List Int := (List.range k).map fun p => ((π p : Nat) : Int)
theorem pl_len (π : Nat → Nat) (k : Nat) : (pl π k).length = k := by simp [pl]
theorem pl_get (π : Nat → Nat) {k p : Nat} (h : p < k) : (pl π k)[p]? = some ((π p : Nat) : Int) := by simp [pl, h]
theorem pl_ins {π : Nat → Nat} {j k : Nat} (hj : j ≤ k) (hk : π k = k) : (pl π k).take j ++ ((k : Nat) : Int) :: (pl π k).drop j = pl (fun p => π (insI j k p)) (k + 1) := by
  apply List.ext_getElem?
  intro p
  have hl : ((pl π k).take j).length = j := by rw [List.length_take, pl_len]; omega
  by_cases h1 : p < j
  · rw [List.getElem?_append_left (by omega), List.getElem?_take, if_pos h1, pl_get π (by omega), pl_get _ (by omega)]
    have : insI j k p = p := by unfold insI; rw [if_neg (by omega), if_neg (by omega)]
    rw [this]
  · rw [List.getElem?_append_right (by omega), hl]
    by_cases h2 : p = j
    · subst h2
      have : insI p k p = k := by unfold insI; rw [if_pos rfl]
      rw [Nat.sub_self, pl_get _ (by omega), this, hk]
      rfl
    · obtain ⟨q, hq⟩ : ∃ q, p - j = q + 1 := ⟨p - j - 1, by omega⟩
      rw [hq, List.getElem?_cons_succ, List.getElem?_drop]
      by_cases h3 : p < k + 1
      · have : insI j k p = p - 1 := by unfold insI; rw [if_neg h2, if_pos (by omega)]
        rw [pl_get π (by omega), pl_get _ h3, this, show j + q = p - 1 by omega]
      · rw [List.getElem?_eq_none (by rw [pl_len]; omega), List.getElem?_eq_none (by rw [pl_len]; omega)]
theorem pl_ord (l : List It) {π : Nat → Nat} (hπ : PermOn 0 l.length π) (sπ : Srtd (Lt (gtR (nd l)) (idxL l.length)) π 0 l.length) : pl π l.length = toI (ordD l) := by
  unfold pl toI ordD
  rw [List.map_map]
  refine List.map_congr_left fun k _ => ?_
  have : ord (nd l) l.length k = π k := srt_eq (Lt.ord (gtR_swo _) _) hπ sπ k
  simp [this]
set_option maxHeartbeats 2000000 in
theorem sorted_sound {J : World → Prop} (hJ : Stable J) (l : List It) (hl : itOk l) : SoundAt Try.prog J 61 [.row 2 (l.map itV)] (.vec 0) [.vec 3 1 ((toI (ordD l)).map (V.int .i64))] := by
  refine SoundAt.row 0 rfl (callOk Try.func61 rfl rfl) fun hlen => ?_
  simp only [maxLen, List.length_map] at hlen
  have h40 := hl.1
  refine evFn (l := []) (nv := (nvL [(3, (3, 1))])) (fz := fz0) (dr := dr61) (dd := dd61) (lam := [(89, true, pickL Rin)]) trivial hJ ⟨Rin_ok, trivial⟩ Try.func61 rfl rfl (Nat.le_of_ble_eq_true rfl) (Nat.le_of_ble_eq_true rfl) drOk61 ?_
  dsimp only [Try.f61, dr61, dd61, Option.getD_some]
  refine ev_start ?_
  simp (disch := omega) only [List.length_map, go_sem, Int.reduceEq, Int.reduceLT, Int.reduceLE, Int.reduceNeg, Nat.reduceAdd, Nat.reduceLT, Nat.reduceEqDiff, Nat.reduceMul, Nat.reduceLeDiff, reduceIte, Nat.reduceBEq, reduceCtorEq, evP_D, evD_guard, evD_cons, evD_zero, evD_nil]
  refine evQ_loop [0, 3, 7, 8] [24] (fun σ => ∃ (k : Nat) (π : Nat → Nat), (k ≤ l.length ∧ PermOn 0 k π ∧ Srtd (Lt (gtR (nd l)) (idxL l.length)) π 0 k) ∧ σ = ⟨[(0, .row 2 (l.map itV)), (3, .vec 24), (7, .int .i64 l.length), (8, .int .i64 k)],
    [(24, .vec 3 1 ((pl π k).map (V.int .i64)))]⟩)
    (fun σ => l.length - (match Ev.look 8 σ.env with | some (.int _ n) => n.toNat | _ => 0)) ?_ ?_
  · simp only [go_sem, Int.reduceEq, Int.reduceLT, Int.reduceLE, Int.reduceNeg, Nat.reduceAdd, Nat.reduceLT, Nat.reduceEqDiff, Nat.reduceMul, Nat.reduceLeDiff, reduceIte, Nat.reduceBEq, reduceCtorEq, evP_D, evD_guard, evD_cons, evD_zero, evD_nil]
    exact ⟨0, fun k => k, ⟨Nat.zero_le _, .id _ _, fun p q _ _ h => by omega⟩, rfl⟩
  · rintro σ ⟨k, π, ⟨hk, hπ, sπ⟩, rfl⟩
    by_cases hlt : k < l.length
    · have hlt' : (k : Int) < l.length := by omega
      have hlen3 := pl_len π k
      have hπk : π k = k := hπ.out (by omega)
      have hmy := itV_get hlt
      have bk := it_bd hl hlt
      simp (disch := (first | omega | assumption)) only [hlt', List.length_map, hlen3, go_sem, Int.reduceEq, Int.reduceLT, Int.reduceLE, Int.reduceNeg, Nat.reduceAdd, Nat.reduceLT, Nat.reduceEqDiff, Nat.reduceMul, Nat.reduceLeDiff, reduceIte, Nat.reduceBEq, reduceCtorEq, evP_D, evD_guard, evD_cons, evD_zero, evD_nil]
      refine evQ_loop [0, 3, 4, 5, 7, 8] [24] (fun σ => ∃ (j : Nat), (j ≤ k ∧ ∀ q, j ≤ q → q < k → dy l k < dy l (π q)) ∧ σ = ⟨[(0, .row 2 (l.map itV)), (3, .vec 24), (4, .int .i64 k), (5, .int .i64 j), (7, .int .i64 l.length), (8, .int .i64 k)],
        [(24, .vec 3 1 ((pl π k).map (V.int .i64)))]⟩)
        (fun σ => (match Ev.look 5 σ.env with | some (.int _ n) => n.toNat | _ => 0)) ?_ ?_
      · simp only [go_sem, Int.reduceEq, Int.reduceLT, Int.reduceLE, Int.reduceNeg, Nat.reduceAdd, Nat.reduceLT, Nat.reduceEqDiff, Nat.reduceMul, Nat.reduceLeDiff, reduceIte, Nat.reduceBEq, reduceCtorEq, evP_D, evD_guard, evD_cons, evD_zero, evD_nil]
        exact ⟨k, ⟨Nat.le_refl _, fun q h1 h2 => by omega⟩, rfl⟩
      · rintro σ ⟨j, ⟨hj, hall⟩, rfl⟩
        have hins := Rin_eq (pl π k) j (k : Int) ⟨by omega, by omega⟩
        rw [pl_ins hj hπk] at hins
        have hnext : (0 < j → ¬ dy l k < dy l (π (j - 1))) → PermOn 0 (k + 1) (fun p => π (insI j k p)) ∧ Srtd (Lt (gtR (nd l)) (idxL l.length)) (fun p => π (insI j k p)) 0 (k + 1) := fun hstop => by
          refine ⟨(hπ.mono (Nat.le_refl _) (by omega)).comp (insI_perm (Nat.zero_le _) hj), ins_sorted (Lt.ord (gtR_swo _) _) (Nat.zero_le _) hj sπ (fun q h1 h2 => ?_) fun h0 => ?_⟩
          · have m := (hπ.maps (k := q) (by omega)).2
            left
            rw [hπk, idx_ge hlt, idx_ge (show π q < l.length by omega)]
            unfold gtR nd
            have := hall q h1 h2
            simp only [Int.toNat_natCast]
            omega
          · have m := (hπ.maps (k := j - 1) (by omega)).2
            rw [hπk]
            refine Lt.asc m ?_
            rw [idx_ge hlt, idx_ge (show π (j - 1) < l.length by omega)]
            unfold gtR nd
            have := hstop h0
            simp only [Int.toNat_natCast]
            omega
        have hms : l.length - ((k : Int) + 1).toNat < l.length - (k : Int).toNat := by
          have e3 : ((k : Int) + 1).toNat = k + 1 := by omega
          rw [e3, Int.toNat_natCast]; omega
        cases j with
        | zero =>
          have h0 : ¬ (0 : Int) < 0 := by omega
          have z0 : ((0 : Nat) : Int) = 0 := rfl
          rw [z0] at hins ⊢
          obtain ⟨p1, p2⟩ := hnext fun h => by omega
          simp (disch := (first | omega | assumption)) only [h0, hins, List.length_map, plainI, go_sem, Int.reduceEq, Int.reduceLT, Int.reduceLE, Int.reduceNeg, Nat.reduceAdd, Nat.reduceLT, Nat.reduceEqDiff, Nat.reduceMul, Nat.reduceLeDiff, reduceIte, Nat.reduceBEq, reduceCtorEq, evP_D, evD_guard, evD_cons, evD_zero, evD_nil]
          exact ⟨⟨k + 1, _, ⟨hlt, p1, p2⟩, rfl⟩, hms⟩
        | succ m =>
          have e1 : ((m + 1 : Nat) : Int) = (m : Int) + 1 := by omega
          have e2 : (m : Int) + 1 - 1 = m := by omega
          have h0 : (0 : Int) < (m : Int) + 1 := by omega
          have hpm := (hπ.maps (k := m) (by omega)).2
          have hpg := get_map (V.int .i64) _ m _ (pl_get π (show m < k by omega))
          have hit := itV_get (l := l) (k := π m) (by omega)
          rw [e1] at hins ⊢
          by_cases hc : dy l k < dy l (π m)
          · simp (disch := (first | omega | assumption)) only [h0, e2, hlen3, idx_nat, List.length_map, hpg, hit, hmy, hc, go_sem, Int.reduceEq, Int.reduceLT, Int.reduceLE, Int.reduceNeg, Nat.reduceAdd, Nat.reduceLT, Nat.reduceEqDiff, Nat.reduceMul, Nat.reduceLeDiff, reduceIte, Nat.reduceBEq, reduceCtorEq, evP_D, evD_guard, evD_cons, evD_zero, evD_nil]
            exact ⟨⟨m, ⟨by omega, fun q h1 h2 => by
              by_cases e : q = m
              · rw [e]; exact hc
              · exact hall q (by omega) h2⟩, rfl⟩, by omega⟩
          · obtain ⟨p1, p2⟩ := hnext fun _ => by simpa using hc
            simp (disch := (first | omega | assumption)) only [h0, e2, hlen3, idx_nat, List.length_map, hpg, hit, hmy, hc, hins, plainI, go_sem, Int.reduceEq, Int.reduceLT, Int.reduceLE, Int.reduceNeg, Nat.reduceAdd, Nat.reduceLT, Nat.reduceEqDiff, Nat.reduceMul, Nat.reduceLeDiff, reduceIte, Nat.reduceBEq, reduceCtorEq, evP_D, evD_guard, evD_cons, evD_zero, evD_nil]
            exact ⟨⟨k + 1, _, ⟨hlt, p1, p2⟩, rfl⟩, hms⟩
    · have hk' : k = l.length := by omega
      subst hk'
      have hlt' : ¬ ((l.length : Int) < l.length) := by omega
      have hfin := pl_ord l hπ sπ
      simp (disch := (first | omega | assumption)) only [hlt', hfin, go_sem, Int.reduceEq, Int.reduceLT, Int.reduceLE, Int.reduceNeg, Nat.reduceAdd, Nat.reduceLT, Nat.reduceEqDiff, Nat.reduceMul, Nat.reduceLeDiff, reduceIte, Nat.reduceBEq, reduceCtorEq, evP_D, evD_guard, evD_cons, evD_zero, evD_nil]
end Go.Proofs.Ytdjdipehfnnhpaa
