/-
  Four ways of writing off have the same total: the whole, run by the machine.
-/
import Derived.Test.YtdjdipehfnnhpaaOffP
import Derived.Test.YtdjdipehfnnhpaaLnE
import Derived.Test.YtdjdipehfnnhpaaRepE
import Derived.Test.YtdjdipehfnnhpaaTopE
namespace Go.Proofs.Ytdjdipehfnnhpaa
open Go Go.Ev Go.RowKit Go.Acc
set_option maxHeartbeats 4000000
set_option linter.unusedSimpArgs false
set_option linter.unusedVariables false
attribute [local go_sem] subE partR boundsV ownP sliceW copyV clearV lenM takeV tk1 mapsV mkMapV hintOk lookV updV mapKE keyOk V.key app_lend callW_fn lendV postL_ret postL_normal postT_ret postT_normal takeR St.lent mkX_L bin_eql_vz bin_eql_zv bin_eql_rz bin_eql_zr bin_eql_zz bin_neq_vz bin_neq_zv bin_neq_rz bin_neq_zr bin_neq_zz eqH nilEq nonE plainI gOf_bool gOf_skip g_some g_none Int.ofNat_zero Int.cast_ofNat_Int Bool.false_and Bool.and_false sliceV noBox elemsZ V.scrub V.scrubL Blk.scrub appendV isSlice maxLen_eq leT List.contains_nil List.contains_cons nvL_at fzL_at fillV V.plain V.plainL Blk.plain List.size_toArray mapO_nil mapO_cons Option.isNone_none Option.isNone_some beqT beqF oI_not mkX_e phi_nil phi_cons bin_eql_bool bin_neq_bool bin_eql_agg bin_neq_agg eqV eqFs eqK_int eqK_bool' eqK_str mkX_T mkX_Φ mkX_n mkX_f mkX_d mkX_r nv0_at fz0_at evQ_dr evP_W evW_nil evW_cons evW_guard okW_eq tame_none tame_new tame_write wb_none wb_new wb_write okU_some offW_none offW_some touchOf V.noRef V.noRefL Option.isSome_some Option.isSome_none mild_none mild_new Option.getD_some Option.getD_none evQ_seq evQ_region evQ_block evQ_cond evQ_ret evQ_skip evQ_exit evO_cons evO_nil evO_guard freezeL_nil oS_some oS_none oS_ite oS_ite' oB_bool oI_true oI_false oE_normal oE_exit oE_ret bQ_normal bQ_ret bQ_exit lQ_normal lQ_ret lQ_exit List.zipIdx_cons List.zipIdx_nil List.map_cons List.map_nil evalOp opd_const opd_tmp opd_func ofC_int ofC_bool ofC_str ofC_nil app_none app_new app_write app_change putE_some putE_none setA_cons setA_nil setH_cons setH_nil mapA_cons mapA_nil look_cons look_nil e_mk h_mk drop_nil drop_mk keep_mk dstOk_some dstOk_none guardT_eq true_and and_true Bool.not_false Bool.not_true selB_true selB_false mem_nil mem_cons kpL_nil kpL_cons drL_nil drL_cons closed_mk V.refsIn V.refsInL Blk.refsIn List.all_cons List.all_nil lenV bin_add bin_sub bin_mul bin_quo bin_rem bin_eql bin_neq bin_lss bin_leq bin_gtr bin_geq un_neg un_not post_ret post_normal St.init Bool.false_eq_true List.length_map Bool.or_false Bool.or_true Bool.false_or Bool.true_or beq_self_eq_true Option.map_some Option.map_none Option.bind_some List.getElem?_cons_zero List.getElem?_cons_succ scalar stor isAggV V.cells List.cons_append List.nil_append if_true if_false wrap_of callV V.dataL V.data Bool.and_true Bool.true_and fresh names V.ren V.renL retV resV packL packV packC getBlks wrapR subV putV decide_true decide_false TK.agg List.length_cons List.length_nil List.take_succ_cons List.take_zero List.drop_succ_cons List.drop_zero List.take_nil List.drop_nil Nat.zero_add Nat.add_zero List.append_nil List.getElem?_nil elemsV ro ro0 ro1 roC ty2 ty3 ty4 ty5 ty6 ty7 ty8 ty9 ty10 ty11 ty12 ty13 ty14 ty18 ty19 ty21 ty24 ty25 ty33 ty34 ty35 ty36 ty41 ty42 ty43 ty45 ty46 ty53 ty63 ty64 ty69 ty74 ty77 ty78 ty96 ty98 ty108 ty115 ty142 ty143 ty148 ty149 ty152 ty153 ty154 ty155 eqs46 eqs64 eqs78
/-- contracts at a family of arguments -/
theorem famx {P : Program} {J : World → Prop} {f : FuncId} {α : Type} (a : α → List V) (r : α → V × List Blk) (hi : ∀ i j, a i = a j → r i = r j) (h : ∀ i, SoundAt P J f (a i) (r i).1 (r i).2) :
    ∃ F : List V → Option (V × List Blk), (∀ i, F (a i) = some (r i)) ∧ Snd P J f F := by
  refine ⟨fun x => open Classical in if h : ∃ i, a i = x then some (r h.choose) else none, fun i => ?_, fun args r' bs h' => ?_⟩
  · have hx : ∃ j, a j = a i := ⟨i, rfl⟩
    simp only [dif_pos hx]
    rw [hi _ _ hx.choose_spec]
  · by_cases hx : ∃ i, a i = args
    · simp only [dif_pos hx] at h'
      have e := Option.some.inj h'
      have := h hx.choose
      rw [e, hx.choose_spec] at this
      exact this
    · simp only [dif_neg hx] at h'
      cases h'
theorem withinx {J : World → Prop} (hJ : Stable J) : ∃ F : List V → Option (V × List Blk), (∀ (k n : Int), 0 < n → n ≤ 9223372036854775807 → F [.int .i64 k, .int .i64 n] = some (.int .i64 (wthn k n), [])) ∧ Snd Try.prog J 8 F := by
  obtain ⟨F, h1, h2⟩ := famx (P := Try.prog) (J := J) (f := 8) (fun x : { x : Int × Int // 0 < x.2 ∧ x.2 ≤ 9223372036854775807 } => [.int .i64 x.1.1, .int .i64 x.1.2]) (fun x => (.int .i64 (wthn x.1.1 x.1.2), [])) (fun i j h => by
    simp only [List.cons.injEq, V.int.injEq, true_and, and_true] at h
    rw [h.1, h.2]) fun x => within_sound hJ x.1.1 x.1.2 x.2.1 x.2.2
  exact ⟨F, fun k n h0 hn => h1 ⟨(k, n), h0, hn⟩, h2⟩
theorem sum_bdx : ∀ m : List Int, m.length ≤ 40 → (∀ x ∈ m, 0 ≤ x ∧ x ≤ 1000000000001) → 0 ≤ m.sum ∧ m.sum ≤ m.length * 1000000000001
  | [], _, _ => by simp
  | x :: m, hm, hx => by
    have h1 := hx x List.mem_cons_self
    have h2 := sum_bdx m (by simp at hm; omega) fun y hy => hx y (List.mem_cons_of_mem _ hy)
    simp only [List.sum_cons, List.length_cons, Int.natCast_add, Int.natCast_one, Int.add_mul]
    omega
theorem sumx_sound {J : World → Prop} (hJ : Stable J) (l : List Int) (hl : l.length ≤ 40) (hx : ∀ x ∈ l, 0 ≤ x ∧ x ≤ 1000000000001) : SoundAt Try.prog J 14 [.row 1 (l.map (V.int .i64))] (.int .i64 l.sum) [] := by
  have hb : ∀ k, 0 ≤ (l.take k).sum ∧ (l.take k).sum ≤ 40000000000040 := fun k => by
    have h1 := sum_bdx (l.take k) (by rw [List.length_take]; omega) fun x h => hx x (List.mem_of_mem_take h)
    have h2 : ((l.take k).length : Int) ≤ 40 := by rw [List.length_take]; omega
    omega
  refine evFn (l := []) (nv := nv0) (fz := fz0) (dr := dr14) (dd := dd14) (lam := []) trivial hJ trivial Try.func14 rfl rfl (Nat.le_of_ble_eq_true rfl) (Nat.le_of_ble_eq_true rfl) drOk14 ?_
  dsimp only [Try.f14, dr14, dd14, Option.getD_some]
  refine ev_start ?_
  simp (disch := omega) only [List.length_map, go_sem, Int.reduceEq, Int.reduceLT, Int.reduceLE, Int.reduceNeg, Nat.reduceAdd, Nat.reduceLT, Nat.reduceEqDiff, Nat.reduceMul, Nat.reduceLeDiff, reduceIte, Nat.reduceBEq, reduceCtorEq, evP_D, evD_guard, evD_cons, evD_zero, evD_nil]
  refine evQ_loop [3, 6, 7, 8] [] (fun σ => ∃ k : Nat, k ≤ l.length ∧ σ = ⟨[(3, .int .i64 (l.take k).sum), (6, .row 1 (l.map (V.int .i64))), (7, .int .i64 l.length), (8, .int .i64 k)], []⟩) (fun σ => l.length - (match Ev.look 8 σ.env with | some (.int _ n) => n.toNat | _ => 0)) ?_ ?_
  · simp only [go_sem, Int.reduceEq, Int.reduceLT, Int.reduceLE, Int.reduceNeg, Nat.reduceAdd, Nat.reduceLT, Nat.reduceEqDiff, Nat.reduceMul, Nat.reduceLeDiff, reduceIte, Nat.reduceBEq, reduceCtorEq, evP_D, evD_guard, evD_cons, evD_zero, evD_nil]
    exact ⟨0, Nat.zero_le _, rfl⟩
  · rintro σ ⟨k, hk, rfl⟩
    by_cases hlt : k < l.length
    · have hlt' : (k : Int) < l.length := by omega
      obtain ⟨x, hg⟩ : ∃ x, l[k]? = some x := ⟨_, List.getElem?_eq_getElem hlt⟩
      have hg' := get_map (V.int .i64) l k x hg
      have hs : (l.take (k + 1)).sum = (l.take k).sum + x := by
        have he := (List.getElem?_eq_some_iff.1 hg).2
        rw [List.take_succ_eq_append_getElem hlt, he, List.sum_append]
        simp
      have b0 := hb k
      have b1 := hx x (List.mem_of_getElem? hg)
      have hms : l.length - ((k : Int) + 1).toNat < l.length - (k : Int).toNat := by
        have e3 : ((k : Int) + 1).toNat = k + 1 := by omega
        rw [e3, Int.toNat_natCast]; exact Nat.sub_lt_sub_left hlt (Nat.lt_succ_self k)
      simp (disch := (first | omega | assumption)) only [hlt', idx_nat, List.length_map, hg', go_sem, Int.reduceEq, Int.reduceLT, Int.reduceLE, Int.reduceNeg, Nat.reduceAdd, Nat.reduceLT, Nat.reduceEqDiff, Nat.reduceMul, Nat.reduceLeDiff, reduceIte, Nat.reduceBEq, reduceCtorEq, evP_D, evD_guard, evD_cons, evD_zero, evD_nil]
      exact ⟨⟨k + 1, hlt, by rw [hs]; rfl⟩, hms⟩
    · have hk' : k = l.length := by omega
      subst hk'
      have hlt' : ¬ ((l.length : Int) < l.length) := by omega
      simp (disch := (first | omega | assumption)) only [hlt', List.take_length, go_sem, Int.reduceEq, Int.reduceLT, Int.reduceLE, Int.reduceNeg, Nat.reduceAdd, Nat.reduceLT, Nat.reduceEqDiff, Nat.reduceMul, Nat.reduceLeDiff, reduceIte, Nat.reduceBEq, reduceCtorEq, evP_D, evD_guard, evD_cons, evD_zero, evD_nil]
theorem map_int_inj {l l' : List Int} (h : l.map (V.int .i64) = l'.map (V.int .i64)) : l = l' := by
  have := congrArg unI h
  rw [unI_map, unI_map] at this
  exact Option.some.inj this
theorem sumx {J : World → Prop} (hJ : Stable J) : ∃ F : List V → Option (V × List Blk), (∀ l : List Int, l.length ≤ 40 → (∀ x ∈ l, 0 ≤ x ∧ x ≤ 1000000000001) → F [.row 1 (l.map (V.int .i64))] = some (.int .i64 l.sum, [])) ∧ Snd Try.prog J 14 F := by
  obtain ⟨F, h1, h2⟩ := famx (P := Try.prog) (J := J) (f := 14) (fun x : { l : List Int // l.length ≤ 40 ∧ ∀ x ∈ l, 0 ≤ x ∧ x ≤ 1000000000001 } => [.row 1 (x.1.map (V.int .i64))]) (fun x => (.int .i64 x.1.sum, [])) (fun i j h => by
    simp only [List.cons.injEq, V.row.injEq, true_and, and_true] at h
    rw [map_int_inj h]) fun x => sumx_sound hJ x.1 x.2.1 x.2.2
  exact ⟨F, fun l a b => h1 ⟨l, a, b⟩, h2⟩
set_option maxRecDepth 100000 in
theorem off_walk {J : World → Prop} (hJ : Stable J) (cost0 rest0 rate0 n0 k0 : Int) : SoundAt Try.prog J 3 [.int .i64 cost0, .int .i64 rest0, .int .i64 rate0, .int .i64 n0, .int .i64 k0] (.bool true) [] := by
  obtain ⟨WF, hWF, sWF⟩ := withinx hJ
  obtain ⟨SF, hSF, sSF⟩ := sumx hJ
  have hB := begun_sound hJ
  have w1 := hWF cost0 1000000000001 (by omega) (by omega)
  have b1 := wthn_bd cost0 (n := 1000000000001) (by omega)
  generalize wthn cost0 1000000000001 = cost at *
  have w2 := hWF rest0 (cost + 1) (by omega) (by omega)
  have b2 := wthn_bd rest0 (n := cost + 1) (by omega)
  generalize wthn rest0 (cost + 1) = rest at *
  have w3 := hWF rate0 1000001 (by omega) (by omega)
  have b3 := wthn_bd rate0 (n := 1000001) (by omega)
  generalize wthn rate0 1000001 = rate at *
  have w4 := hWF n0 40 (by omega) (by omega)
  have b4 := wthn_bd n0 (n := 40) (by omega)
  generalize wthn n0 40 = n1 at *
  obtain ⟨n, hn⟩ : ∃ n : Nat, 1 + n1 = n := ⟨(1 + n1).toNat, by omega⟩
  have w5 := hWF k0 ((n : Int) + 1) (by omega) (by omega)
  have b5 := wthn_bd k0 (n := (n : Int) + 1) (by omega)
  generalize wthn k0 ((n : Int) + 1) = k1 at *
  obtain ⟨k, rfl⟩ : ∃ k : Nat, k1 = k := ⟨k1.toNat, by omega⟩
  have hkn : k ≤ n := by omega
  have hO := off_law (cost := cost) (rest := rest) (rate := rate) (n := n) (k := k) (by omega) (by omega) (by omega) (by omega) (by omega) (by omega) hkn
  have hX := straight_sound hJ cost rest n (by omega) (by omega) (by omega) (by omega) (by omega)
  have hY := digits_sound hJ cost rest n (by omega) (by omega) (by omega) (by omega) (by omega)
  have hZ := fall_sound hJ cost rest rate n
  have hU := units_sound hJ cost rest n (List.replicate n 1)
  rw [unitV_ones (by omega) (by omega) (by omega) (by omega) (by omega)] at hU
  have eZ : fallV cost rest rate n = (.tup [.vec 0, .int .i64 0], [.vec 3 1 ((fallL rest rate n cost).map (V.int .i64))]) := by
    unfold fallV; rw [if_pos ⟨offE_t (by omega), by omega, by omega⟩, Int.toNat_natCast]
  rw [eZ] at hZ
  have hR := rep_sound hJ 1 n (by omega)
  have eR : List.replicate n (V.int .i64 1) = (List.replicate n 1).map (V.int .i64) := by rw [List.map_replicate]
  rw [eR] at hR
  generalize steps (lnS (cost - rest) n) n = x at *
  generalize steps (lnD (cost - rest) n) n = y at *
  generalize fallL rest rate n cost = z at *
  generalize steps (fun k => unitF cost rest n (List.replicate n 1) k) n = u at *
  have hn40 : n ≤ 40 := by omega
  have hf : ∀ l : List Int, l.length = n → (∀ v ∈ l, 0 ≤ v ∧ v ≤ 1000000000001) → SF [.row 1 (l.map (V.int .i64))] = some (.int .i64 l.sum, []) ∧ SF [.row 1 ((l.map (V.int .i64)).take k)] = some (.int .i64 (l.take k).sum, []) := fun l h1 h2 =>
    ⟨hSF l (by omega) h2, by rw [← List.map_take]; exact hSF _ (by rw [List.length_take]; omega) fun v hv => h2 v (List.mem_of_mem_take hv)⟩
  obtain ⟨x1, x2⟩ := hf x hO.lx hO.bx
  obtain ⟨y1, y2⟩ := hf y hO.ly hO.bY
  obtain ⟨z1, z2⟩ := hf z hO.lz hO.bz
  obtain ⟨u1, u2⟩ := hf u hO.lu hO.bu
  have lx := hO.lx
  have ly := hO.ly
  have lz := hO.lz
  have lu := hO.lu
  rw [hO.sx] at x1
  rw [hO.sy] at y1
  rw [hO.sz] at z1
  rw [hO.su] at u1
  have f1 := hO.ba
  have f2 := hO.cd
  obtain ⟨f3, f4⟩ := hO.ad
  obtain ⟨⟨q0, q1⟩, q2, q3⟩ := hO.nn
  clear hO hf hSF hWF
  generalize (x.take k).sum = a at *
  generalize (y.take k).sum = b at *
  generalize (z.take k).sum = c at *
  generalize (u.take k).sum = d at *
  have g0 : (0 : Int) ≤ k := by omega
  have g1 : (k : Int) ≤ n := by omega
  have g2 : (0 : Int) ≤ k ∧ (k : Int) ≤ n := ⟨g0, g1⟩
  have g3 : 0 < n := by omega
  refine evFn (l := [(7, at1 [] (.bool true, [])), (8, WF), (9, at1 [.int .i64 cost, .int .i64 rest, .int .i64 n] (.tup [.vec 0, .int .i64 0], [.vec 3 1 (x.map (V.int .i64))])), (10, at1 [.int .i64 cost, .int .i64 rest, .int .i64 n] (.tup [.vec 0, .int .i64 0], [.vec 3 1 (y.map (V.int .i64))])), (11, at1 [.int .i64 cost, .int .i64 rest, .int .i64 rate, .int .i64 n] (.tup [.vec 0, .int .i64 0], [.vec 3 1 (z.map (V.int .i64))])), (12, at1 [.int .i64 cost, .int .i64 rest, .int .i64 n, .row 1 ((List.replicate n 1).map (V.int .i64))] (.tup [.vec 0, .int .i64 0], [.vec 3 1 (u.map (V.int .i64))])), (13, at1 [.row 1 [.int .i64 1], .int .i64 n] (.vec 0, [.vec 3 1 ((List.replicate n 1).map (V.int .i64))])), (14, SF)]) (nv := nv0) (fz := fz0) (dr := dr3) (dd := dd3) (lam := []) ⟨at1_snd hB, sWF, at1_snd hX, at1_snd hY, at1_snd hZ, at1_snd hU, at1_snd hR, sSF, trivial⟩ hJ trivial Try.func3 rfl rfl (Nat.le_of_ble_eq_true rfl) (Nat.le_of_ble_eq_true rfl) drOk3 ?_
  dsimp only [Try.f3, dr3, dd3, Option.getD_some]
  refine ev_start ?_
  simp (maxSteps := 1000000) (disch := (first | omega | assumption)) only [at1_eq, w1, w2, w3, w4, hn, w5, x1, x2, y1, y2, z1, z2, u1, u2, lx, ly, lz, lu, List.length_map, List.drop_zero, Int.toNat_natCast, Nat.sub_zero, Int.toNat_zero, f1, f2, f3, f4, g0, g1, g2, g3, go_sem, Int.reduceEq, Int.reduceLT, Int.reduceLE, Int.reduceNeg, Nat.reduceAdd, Nat.reduceLT, Nat.reduceEqDiff, Nat.reduceMul, Nat.reduceLeDiff, reduceIte, Nat.reduceBEq, reduceCtorEq, evP_D, evD_guard, evD_cons, evD_zero, evD_nil]
end Go.Proofs.Ytdjdipehfnnhpaa
namespace Go.Proofs.Ytdjdipehfnnhpaa
open Go Go.Ev Go.RowKit Go.Acc
set_option maxRecDepth 100000 in
theorem walkTopOff (c0 : V) (h0 : TyV Try.prog 9 3 c0) (c1 : V) (h1 : TyV Try.prog 9 3 c1) (c2 : V) (h2 : TyV Try.prog 9 3 c2) (c3 : V) (h3 : TyV Try.prog 9 3 c3) (c4 : V) (h4 : TyV Try.prog 9 3 c4) :
    SoundAt Try.prog J0 3 [c0, c1, c2, c3, c4] (.bool true) [] := by
  obtain ⟨n0, rfl, _⟩ := ty_int (m := 8) h0 Try.underlying3
  obtain ⟨n1, rfl, _⟩ := ty_int (m := 8) h1 Try.underlying3
  obtain ⟨n2, rfl, _⟩ := ty_int (m := 8) h2 Try.underlying3
  obtain ⟨n3, rfl, _⟩ := ty_int (m := 8) h3 Try.underlying3
  obtain ⟨n4, rfl, _⟩ := ty_int (m := 8) h4 Try.underlying3
  exact off_walk stable0 n0 n1 n2 n3 n4
end Go.Proofs.Ytdjdipehfnnhpaa
