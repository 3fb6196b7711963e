/-
  Amounts in parts, run by the machine: what the program's By does.
-/
import Derived.Test.YtdjdipehfnnhpaaSplE
namespace Go.Proofs.Ytdjdipehfnnhpaa
open Go Go.Ev Go.RowKit Go.Srt Go.Spl
set_option maxHeartbeats 4000000
set_option linter.unusedSimpArgs false
set_option linter.unusedVariables false
attribute [local go_sem] lenM takeV tk1 mapsV mkMapV hintOk lookV updV mapKE keyOk V.key app_lend callW_fn lendV postL_ret postL_normal St.lent mkX_L bin_eql_vz bin_eql_zv bin_eql_rz bin_eql_zr bin_eql_zz bin_neq_vz bin_neq_zv bin_neq_rz bin_neq_zr bin_neq_zz eqH nilEq nonE plainI gOf_bool gOf_skip g_some g_none Int.ofNat_zero Int.cast_ofNat_Int Bool.false_and Bool.and_false sliceV noBox elemsZ V.scrub V.scrubL Blk.scrub appendV isSlice maxLen_eq leT List.contains_nil List.contains_cons nvL_at fzL_at fillV V.plain V.plainL Blk.plain List.size_toArray mapO_nil mapO_cons Option.isNone_none Option.isNone_some beqT beqF oI_not mkX_e phi_nil phi_cons bin_eql_bool bin_neq_bool bin_eql_agg bin_neq_agg eqV eqFs eqK_int eqK_bool' eqK_str mkX_T mkX_Φ mkX_n mkX_f mkX_d mkX_r nv0_at fz0_at evQ_dr evP_W evW_nil evW_cons evW_guard okW_eq tame_none tame_new tame_write wb_none wb_new wb_write okU_some offW_none offW_some touchOf V.noRef V.noRefL Option.isSome_some Option.isSome_none mild_none mild_new Option.getD_some Option.getD_none evQ_seq evQ_region evQ_block evQ_cond evQ_ret evQ_skip evQ_exit evO_cons evO_nil evO_guard freezeL_nil oS_some oS_none oS_ite oS_ite' oB_bool oI_true oI_false oE_normal oE_exit oE_ret bQ_normal bQ_ret bQ_exit lQ_normal lQ_ret lQ_exit List.zipIdx_cons List.zipIdx_nil List.map_cons List.map_nil evalOp opd_const opd_tmp opd_func ofC_int ofC_bool ofC_str ofC_nil app_none app_new app_write app_change putE_some putE_none setA_cons setA_nil setH_cons setH_nil mapA_cons mapA_nil look_cons look_nil e_mk h_mk drop_nil drop_mk keep_mk dstOk_some dstOk_none guardT_eq true_and and_true Bool.not_false Bool.not_true selB_true selB_false mem_nil mem_cons kpL_nil kpL_cons drL_nil drL_cons closed_mk V.refsIn V.refsInL Blk.refsIn List.all_cons List.all_nil lenV bin_add bin_sub bin_mul bin_quo bin_rem bin_eql bin_neq bin_lss bin_leq bin_gtr bin_geq un_neg un_not post_ret post_normal St.init Bool.false_eq_true List.length_map Bool.or_false Bool.or_true Bool.false_or Bool.true_or beq_self_eq_true Option.map_some Option.map_none Option.bind_some List.getElem?_cons_zero List.getElem?_cons_succ scalar stor isAggV V.cells List.cons_append List.nil_append if_true if_false wrap_of callV V.dataL V.data Bool.and_true Bool.true_and fresh names V.ren V.renL retV resV packL packV packC getBlks wrapR subV putV decide_true decide_false TK.agg List.length_cons List.length_nil List.take_succ_cons List.take_zero List.drop_succ_cons List.drop_zero List.take_nil List.drop_nil Nat.zero_add Nat.add_zero List.append_nil List.getElem?_nil elemsV ro ro0 ro1 roC ty2 ty3 ty4 ty5 ty6 ty7 ty8 ty9 ty10 ty11 ty12 ty13 ty14 ty18 ty19 ty21 ty24 ty25 ty33 ty34 ty35 ty36 ty41 ty42 ty43 ty45 ty46 ty53 ty63 ty64 ty69 ty74 ty77 ty78 ty96 ty98 ty108 ty115 ty142 ty143 ty148 ty149 ty152 ty153 ty154 ty155 eqs46 eqs64 eqs78
def by1C (a W : Int) (l : List Int) : List V := [.rd (.int .i64 a) 0, .rd (.row 1 (l.map (V.int .i64))) 0, .rd (.int .i64 W) 0]
theorem by1_sound {J : World → Prop} (hJ : Stable J) {a W : Int} {l : List Int} (h0 : 0 ≤ a) (h1 : a ≤ 1000000000000) (hW : 0 < W) (hW2 : W ≤ 40000000) (hl : okW l) (hlen : l.length ≤ 40) (x y : Nat) (hx : x < l.length) (hy : y < l.length) :
    SoundAt Try.prog J 42 [.int .i64 x, .int .i64 y, .rd (.int .i64 a) 0, .rd (.row 1 (l.map (V.int .i64))) 0, .rd (.int .i64 W) 0] (.int .i64 (rm a W l y - rm a W l x)) [] := by
  refine evFn (l := []) (nv := nv0) (fz := fz0) (dr := dr42) (dd := dd42) (lam := []) trivial hJ trivial Try.func42 rfl rfl (Nat.le_of_ble_eq_true rfl) (Nat.le_of_ble_eq_true rfl) drOk42 ?_
  dsimp only [Try.f42, dr42, dd42, Option.getD_some]
  refine ev_start ?_
  have gx : l[x]? = some (ge l x) := ge_get l hx
  have gy : l[y]? = some (ge l y) := ge_get l hy
  have bx := mul_bd h0 h1 (hl x hx).1 (hl x hx).2
  have bb := mul_bd h0 h1 (hl y hy).1 (hl y hy).2
  have tx : (a * ge l x).tmod W = rm a W l x := Int.tmod_eq_emod_of_nonneg bx.1
  have ty : (a * ge l y).tmod W = rm a W l y := Int.tmod_eq_emod_of_nonneg bb.1
  have rx := Int.emod_nonneg (a * ge l x) (b := W) (by omega)
  have ry := Int.emod_nonneg (a * ge l y) (b := W) (by omega)
  have qx := Int.emod_lt_of_pos (a * ge l x) hW
  have qy := Int.emod_lt_of_pos (a * ge l y) hW
  have ex : rm a W l x = a * ge l x % W := rfl
  have ey : rm a W l y = a * ge l y % W := rfl
  have hne : ¬ W = 0 := by omega
  simp (disch := (first | omega | assumption)) only [idx_nat, List.length_map, List.getElem?_map, gx, gy, tx, ty, hne, go_sem, Int.reduceEq, Int.reduceLT, Int.reduceLE, Int.reduceNeg, Nat.reduceAdd, Nat.reduceLT, Nat.reduceEqDiff, Nat.reduceMul, Nat.reduceLeDiff, reduceIte, Nat.reduceBEq, reduceCtorEq, evP_D, evD_guard, evD_cons, evD_zero, evD_nil]
noncomputable def by1F (a W : Int) (l : List Int) : List V → Option (V × List Blk)
  | .int .i64 x :: .int .i64 y :: cs => open Classical in if ((0 ≤ x ∧ x < l.length) ∧ 0 ≤ y ∧ y < l.length) ∧ cs = by1C a W l then some (.int .i64 (rm a W l y.toNat - rm a W l x.toNat), []) else none
  | _ => none
theorem by1_snd {J : World → Prop} (hJ : Stable J) {a W : Int} {l : List Int} (h0 : 0 ≤ a) (h1 : a ≤ 1000000000000) (hW : 0 < W) (hW2 : W ≤ 40000000) (hl : okW l) (hlen : l.length ≤ 40) : Snd Try.prog J 42 (by1F a W l) := by
  intro args r bs h
  unfold by1F at h
  split at h
  · rename_i x y cs
    split at h
    · rename_i hc
      obtain ⟨rfl, rfl⟩ := some_pair h
      obtain ⟨m, rfl⟩ : ∃ m : Nat, x = m := ⟨x.toNat, by omega⟩
      obtain ⟨k, rfl⟩ : ∃ m : Nat, y = m := ⟨y.toNat, by omega⟩
      rw [hc.2, Int.toNat_natCast, Int.toNat_natCast]
      exact by1_sound hJ h0 h1 hW hW2 hl hlen m k (by omega) (by omega)
    · cases h
  · cases h
theorem by1F_eq {a W : Int} {l : List Int} {x y : Int} (hx : 0 ≤ x ∧ x < l.length) (hy : 0 ≤ y ∧ y < l.length) : by1F a W l (.int .i64 x :: .int .i64 y :: by1C a W l) = some (.int .i64 (rm a W l y.toNat - rm a W l x.toNat), []) := by
  simp only [by1F]
  exact if_pos ⟨⟨hx, hy⟩, trivial⟩
def byE (a : Int) (l : List Int) : Int := if wtE l = 0 then (if -1000000000000 ≤ a ∧ a ≤ 1000000000000 then (if wtS l = 0 then 6 else 0) else 1) else wtE l
/-- the parts of an amount that is not negative -/
noncomputable def partsL (a : Int) (l : List Int) : List Int := outL (qt a (wsum l l.length) l) (ord (rm a (wsum l l.length) l) l.length) l.length (a - dsum a (wsum l l.length) l l.length).toNat
noncomputable def byPhi (a : Int) (l : List Int) : Phi := [(39, at1 [.row 1 (l.map (V.int .i64))] (.tup [.int .i64 (wtS l), .int .i64 (wtE l)], [])), (40, moneyF)]
theorem byPhi_ok {J : World → Prop} (hJ : Stable J) (a : Int) (l : List Int) : PhiOk Try.prog J (byPhi a l) := ⟨at1_snd (weights_sound hJ l), spmoney_snd hJ, trivial⟩
theorem by_bad {J : World → Prop} (hJ : Stable J) (a : Int) (l : List Int) (h : ¬ byE a l = 0) :
    SoundAt Try.prog J 17 [.int .i64 a, .row 1 (l.map (V.int .i64))] (.tup [.zero, .int .i64 (byE a l)]) [] := by
  refine evFn (l := byPhi a l) (nv := nv0) (fz := fz0) (dr := dr17) (dd := dd17) (lam := []) (byPhi_ok hJ _ _) hJ trivial Try.func17 rfl rfl (Nat.le_of_ble_eq_true rfl) (Nat.le_of_ble_eq_true rfl) drOk17 ?_
  dsimp only [Try.f17, dr17, dd17, Option.getD_some]
  refine ev_start ?_
  by_cases h1 : wtE l = 0
  · by_cases hm : -1000000000000 ≤ a ∧ a ≤ 1000000000000
    · have hm' : (decide (-1000000000000 ≤ a ∧ a ≤ 1000000000000)) = true := decide_eq_true hm
      by_cases h2 : wtS l = 0
      · have e : byE a l = 6 := by unfold byE; rw [if_pos h1, if_pos hm, if_pos h2]
        simp (disch := omega) only [byPhi, at1_eq, moneyF_eq, h1, h2, hm', e, go_sem, Int.reduceEq, Int.reduceLT, Int.reduceLE, Int.reduceNeg, Nat.reduceAdd, Nat.reduceLT, Nat.reduceEqDiff, Nat.reduceMul, Nat.reduceLeDiff, reduceIte, Nat.reduceBEq, reduceCtorEq, evP_D, evD_guard, evD_cons, evD_zero, evD_nil]
      · exact absurd (by unfold byE; rw [if_pos h1, if_pos hm, if_neg h2]) h
    · have hm' : (decide (-1000000000000 ≤ a ∧ a ≤ 1000000000000)) = false := decide_eq_false hm
      have e : byE a l = 1 := by unfold byE; rw [if_pos h1, if_neg hm]
      simp (disch := omega) only [byPhi, at1_eq, moneyF_eq, h1, hm', e, go_sem, Int.reduceEq, Int.reduceLT, Int.reduceLE, Int.reduceNeg, Nat.reduceAdd, Nat.reduceLT, Nat.reduceEqDiff, Nat.reduceMul, Nat.reduceLeDiff, reduceIte, Nat.reduceBEq, reduceCtorEq, evP_D, evD_guard, evD_cons, evD_zero, evD_nil]
  · have e : byE a l = wtE l := by unfold byE; rw [if_neg h1]
    simp (disch := omega) only [byPhi, at1_eq, h1, e, go_sem, Int.reduceEq, Int.reduceLT, Int.reduceLE, Int.reduceNeg, Nat.reduceAdd, Nat.reduceLT, Nat.reduceEqDiff, Nat.reduceMul, Nat.reduceLeDiff, reduceIte, Nat.reduceBEq, reduceCtorEq, evP_D, evD_guard, evD_cons, evD_zero, evD_nil]
/-- what is known of an amount and its weights -/
structure Spl (a W : Int) (l : List Int) : Prop where
  wt : wtE l = 0
  mon : -1000000000000 ≤ a ∧ a ≤ 1000000000000
  sum : wtS l = W
  len : l.length ≤ 40
  ok : okW l
  W0 : W = wsum l l.length
  W1 : 0 < W
  W2 : W ≤ 40000000
  m0 : 0 ≤ mag a
  m1 : mag a ≤ 1000000000000
theorem spl_of {a : Int} {l : List Int} (h : byE a l = 0) : Spl a (wsum l l.length) l := by
  have hE : wtE l = 0 ∧ (-1000000000000 ≤ a ∧ a ≤ 1000000000000) ∧ ¬ wtS l = 0 := by
    unfold byE at h
    split at h
    · split at h
      · split at h
        · omega
        · rename_i h1 h2 h3; exact ⟨h1, h2, h3⟩
      · omega
    · rename_i h1; exact absurd h h1
  obtain ⟨h1, hm, h2⟩ := hE
  obtain ⟨hlen, hok, hs⟩ := wt_0 h1
  have hWb := wsum_bd hok l.length (Nat.le_refl _)
  exact ⟨h1, hm, hs, hlen, hok, rfl, by omega, by omega, by unfold mag; split <;> omega, by unfold mag; split <;> omega⟩
theorem Spl.le_W {a W : Int} {l : List Int} (h : Spl a W l) {i : Nat} (hi : i < l.length) : ge l i ≤ W := by
  have h1 := wsum_mono h.ok (k := i + 1) (l.length - (i + 1)) (by omega)
  have h2 := (wsum_bd h.ok i (by omega)).1
  rw [show i + 1 + (l.length - (i + 1)) = l.length by omega, ← h.W0] at h1
  simp only [wsum] at h1
  omega
theorem Spl.qt {a W : Int} {l : List Int} (h : Spl a W l) {i : Nat} (hi : i < l.length) : 0 ≤ qt (mag a) W l i ∧ qt (mag a) W l i ≤ mag a := qt_bd h.m0 h.W1 ⟨(h.ok i hi).1, h.le_W hi⟩
theorem Spl.dsum {a W : Int} {l : List Int} (h : Spl a W l) {k : Nat} (hk : k ≤ l.length) : 0 ≤ dsum (mag a) W l k ∧ dsum (mag a) W l k ≤ mag a := by
  refine dsum_bd h.m0 h.W1 (fun i hi => (h.ok i (by omega)).1) ?_
  have h1 := wsum_mono h.ok (k := k) (l.length - k) (by omega)
  rw [show k + (l.length - k) = l.length by omega, ← h.W0] at h1
  exact h1
theorem Spl.left {a W : Int} {l : List Int} (h : Spl a W l) : ∃ L : Nat, mag a - Go.Spl.dsum (mag a) W l l.length = L ∧ L < l.length := by
  have := left_bd (a := mag a) l l.length (by rw [← h.W0]; exact h.W1)
  rw [← h.W0] at this
  exact ⟨(mag a - Go.Spl.dsum (mag a) W l l.length).toNat, by omega, by omega⟩
theorem partsL_eq {a W : Int} {l : List Int} (h : Spl a W l) {L : Nat} (hL : mag a - dsum (mag a) W l l.length = L) : partsL (mag a) l = outL (qt (mag a) W l) (ord (rm (mag a) W l) l.length) l.length L := by
  unfold partsL
  rw [← h.W0, hL, Int.toNat_natCast]
theorem outL_bd {q : Nat → Int} {σ : Nat → Nat} {n t : Nat} {M : Int} (h : ∀ i, i < n → 0 ≤ q i ∧ q i ≤ M) {i : Nat} (hi : i < n) : 0 ≤ ge (outL q σ n t) i ∧ ge (outL q σ n t) i ≤ M + 1 := by
  have := h i hi
  have e : ge (outL q σ n t) i = q i + if took σ t i = true then 1 else 0 := by simp [ge, outL, hi]
  rw [e]
  split <;> omega
/-! ### rows that are changed one by one -/
def preL (f : Int → Int) (l : List Int) (k : Nat) : List Int := (List.range l.length).map fun i => if i < k then f (ge l i) else ge l i
theorem preL_len (f : Int → Int) (l : List Int) (k : Nat) : (preL f l k).length = l.length := by simp [preL]
theorem preL_zero (f : Int → Int) (l : List Int) : preL f l 0 = l := tab_id l
theorem preL_at (f : Int → Int) (l : List Int) {k : Nat} (h : k < l.length) : (preL f l k)[k]? = some (ge l k) := by simp [preL, h]
theorem preL_end (f : Int → Int) (l : List Int) : preL f l l.length = l.map f := by
  have e : l.map f = (tb l fun k => k).map f := by rw [tab_id]
  rw [e]
  unfold preL tb
  rw [List.map_map]
  exact List.map_congr_left fun i hi => by rw [List.mem_range] at hi; rw [if_pos hi]; rfl
theorem preL_set (f : Int → Int) (l : List Int) (k : Nat) : (preL f l k).set k (f (ge l k)) = preL f l (k + 1) := by
  apply List.ext_getElem?
  intro i
  rw [List.getElem?_set]
  by_cases e : k = i
  · subst e
    rw [if_pos rfl, preL_len]
    by_cases hn : k < l.length
    · rw [if_pos hn]; simp [preL, hn]
    · rw [if_neg hn]; simp [preL, hn]
  · rw [if_neg e]
    by_cases hn : i < l.length
    · have : (i < k + 1) ↔ (i < k) := by omega
      simp [preL, hn, this]
    · simp [preL, hn]
set_option maxHeartbeats 8000000 in
theorem by_sound {J : World → Prop} (hJ : Stable J) (a : Int) (l : List Int) (h : byE a l = 0) :
    SoundAt Try.prog J 17 [.int .i64 a, .row 1 (l.map (V.int .i64))] (.tup [.vec 0, .int .i64 0]) [.vec 3 1 (((partsL (mag a) l).map fun x => x * sgn a).map (V.int .i64))] := by
  have hS := spl_of h
  obtain ⟨W, hWd⟩ : ∃ W, W = wsum l l.length := ⟨_, rfl⟩
  rw [← hWd] at hS
  clear hWd
  obtain ⟨L, hL, hLn⟩ := hS.left
  rw [partsL_eq hS hL]
  have h1 := hS.wt
  have hs := hS.sum
  have hW1 := hS.W1
  have hW2 := hS.W2
  have hlen := hS.len
  have m0 := hS.m0
  have m1 := hS.m1
  have hok := hS.ok
  have h2 : ¬ W = 0 := by omega
  have hm' : (decide (-1000000000000 ≤ a ∧ a ≤ 1000000000000)) = true := decide_eq_true hS.mon
  have hmn := hS.mon
  have f1 : (0 : Int) ≤ l.length := by omega
  have f2 : (l.length : Int) * 8 ≤ 140737488355328 := by omega
  have f3 : (l.length : Int) ≤ 9223372036854775807 := by omega
  refine evFn (l := byPhi a l) (nv := nv0) (fz := fzL [(73, [336])]) (dr := dr17) (dd := dd17) (lam := [(41, false, pickL (Rsrt (fun x => 0 ≤ x ∧ x < l.length) (gtR (rm (mag a) W l)) 42 (by1C (mag a) W l)))]) (byPhi_ok hJ _ _) hJ ⟨Rsrt_ok hJ 42 (by1C (mag a) W l) (by rfl) (by1_snd hJ m0 m1 hW1 hW2 hok hlen) (c := fun x y => rm (mag a) W l y.toNat - rm (mag a) W l x.toNat) (fun x y hx hy => by1F_eq hx hy) (fun x y _ _ => by unfold gtR; omega) (gtR_swo _) (by decide) (by decide), trivial⟩ Try.func17 rfl rfl (Nat.le_of_ble_eq_true rfl) (Nat.le_of_ble_eq_true rfl) drOk17 ?_
  dsimp only [Try.f17, dr17, dd17, Option.getD_some]
  refine ev_start ?_
  by_cases hneg : a < 0
  all_goals
    have em : mag a = (if a < 0 then -a else a) := rfl
    have es : sgn a = (if a < 0 then -1 else 1) := rfl
    simp only [hneg, if_true, if_false] at em es
    have em' : (0 : Int) - a = -a := by omega
    simp (disch := omega) only [byPhi, at1_eq, moneyF_eq, h1, h2, hs, hm', hneg, makeV, f1, f2, f3, Int.toNat_natCast, List.length_replicate, go_sem, Int.reduceEq, Int.reduceLT, Int.reduceLE, Int.reduceNeg, Nat.reduceAdd, Nat.reduceLT, Nat.reduceEqDiff, Nat.reduceMul, Nat.reduceLeDiff, reduceIte, Nat.reduceBEq, reduceCtorEq, evP_D, evD_guard, evD_cons, evD_zero, evD_nil]
    refine evQ_loop [2, 3, 6, 8, 9, 10, 11, 44, 45, 46] [16, 24, 48, 312, 336] (fun σ => ∃ (k : Nat), k ≤ l.length ∧ σ = ⟨[(2, .ptr 16 0), (3, .ptr 24 0), (6, .ptr 48 0), (8, .int .i64 (sgn a)), (9, .vec 312), (10, .vec 336), (11, .int .i64 (mag a - dsum (mag a) W l k)), (44, .row 1 (l.map (V.int .i64))), (45, .int .i64 l.length), (46, .int .i64 k)],
      [(16, .box (.int .i64 (mag a))), (24, .box (.row 1 (l.map (V.int .i64)))), (48, .box (.int .i64 W)), (312, .vec 3 1 ((fillL 0 (qt (mag a) W l) l.length k).map (V.int .i64))), (336, .vec 3 1 ((fillL 0 (fun i : Nat => (i : Int)) l.length k).map (V.int .i64)))]⟩)
      (fun σ => l.length - (match Ev.look 46 σ.env with | some (.int _ n) => n.toNat | _ => 0)) ?_ ?_
    · simp only [go_sem, Int.reduceEq, Int.reduceLT, Int.reduceLE, Int.reduceNeg, Nat.reduceAdd, Nat.reduceLT, Nat.reduceEqDiff, Nat.reduceMul, Nat.reduceLeDiff, reduceIte, Nat.reduceBEq, reduceCtorEq, evP_D, evD_guard, evD_cons, evD_zero, evD_nil]
      exact ⟨0, Nat.zero_le _, by rw [fillL_map, fillL_zero, fillL_map, fillL_zero, es]; simp only [dsum, Int.sub_zero, em, em']; rfl⟩
    · rintro σ ⟨k, hk, rfl⟩
      by_cases hlt : k < l.length
      · have hlt' : (k : Int) < l.length := by omega
        have hg : l[k]? = some (ge l k) := ge_get l hlt
        have bx := mul_bd m0 m1 (hok k hlt).1 (hok k hlt).2
        have tx : (mag a * ge l k).tdiv W = qt (mag a) W l k := Int.tdiv_eq_ediv_of_nonneg bx.1
        have qb := hS.qt hlt
        have d0 := hS.dsum (k := k) hk
        have d1 := hS.dsum (k := k + 1) hlt
        simp only [dsum] at d1
        have hset := fillL_set (0 : Int) (qt (mag a) W l) (n := l.length) (k := k)
        have hset2 := fillL_set (0 : Int) (fun i : Nat => (i : Int)) (n := l.length) (k := k)
        have hs1 : ((fillL 0 (qt (mag a) W l) l.length k).map (V.int .i64)).set k (.int .i64 (qt (mag a) W l k)) = (fillL 0 (qt (mag a) W l) l.length (k + 1)).map (V.int .i64) := by rw [← hset, List.map_set]
        have hs2 : ((fillL 0 (fun i : Nat => (i : Int)) l.length k).map (V.int .i64)).set k (.int .i64 k) = (fillL 0 (fun i : Nat => (i : Int)) l.length (k + 1)).map (V.int .i64) := by rw [← hset2, List.map_set]
        have hat := fillL_at (0 : Int) (qt (mag a) W l) (n := l.length) (k := k) hlt (Nat.lt_irrefl k)
        have hat2 := fillL_at (0 : Int) (fun i : Nat => (i : Int)) (n := l.length) (k := k) hlt (Nat.lt_irrefl k)
        have hat3 : (fillL 0 (qt (mag a) W l) l.length (k + 1))[k]? = some (qt (mag a) W l k) := by simp [fillL, hlt]
        clear em es em' hneg
        simp (disch := (first | omega | assumption)) only [hlt', idx_nat, List.length_map, List.getElem?_map, hg, h2, tx, hat, hat2, hs1, hs2, hat3, fillL_len, go_sem, Int.reduceEq, Int.reduceLT, Int.reduceLE, Int.reduceNeg, Nat.reduceAdd, Nat.reduceLT, Nat.reduceEqDiff, Nat.reduceMul, Nat.reduceLeDiff, reduceIte, Nat.reduceBEq, reduceCtorEq, evP_D, evD_guard, evD_cons, evD_zero, evD_nil]
        exact ⟨⟨k + 1, hlt, by simp only [dsum]; rw [show mag a - dsum (mag a) W l k - qt (mag a) W l k = mag a - (dsum (mag a) W l k + qt (mag a) W l k) by omega]; rfl⟩, by
          have e3 : ((k : Int) + 1).toNat = k + 1 := by omega
          rw [e3, Int.toNat_natCast]; omega⟩
      · have hk' : k = l.length := by omega
        subst hk'
        have hlt' : ¬ ((l.length : Int) < l.length) := by omega
        have hidx : fillL 0 (fun i : Nat => (i : Int)) l.length l.length = idxL l.length := fillL_end _ _ _
        have hsort := Rsrt_eq 42 (by1C (mag a) W l) (fun x => 0 ≤ x ∧ x < l.length) (gtR (rm (mag a) W l)) (idxL l.length) ⟨by rw [idx_len]; exact hlen, fun x hx => by
          unfold idxL at hx
          obtain ⟨y, hy, rfl⟩ := List.mem_map.1 hx
          rw [List.mem_range] at hy
          constructor <;> omega⟩
        rw [idx_len, ord_list] at hsort
        have hmin : min L l.length = L := by omega
        have hLn' : (0 : Int) ≤ L := by omega
        have hLn2 : (L : Int) ≤ l.length := by omega
        simp only [by1C] at hsort
        simp (disch := (first | omega | assumption)) only [hlt', hidx, hL, hsort, hmin, hLn', hLn2, by1C, and_self, Int.toNat_natCast, List.length_map, List.length_range, List.length_take, freezeL, St.freeze, List.filter_cons, List.filter_nil, bne, List.mapM_cons, List.mapM_nil, Option.bind_eq_bind, Option.pure_def, Option.bind_some, plainI, go_sem, Int.reduceEq, Int.reduceLT, Int.reduceLE, Int.reduceNeg, Nat.reduceAdd, Nat.reduceLT, Nat.reduceEqDiff, Nat.reduceMul, Nat.reduceLeDiff, reduceIte, Nat.reduceBEq, reduceCtorEq, evP_D, evD_guard, evD_cons, evD_zero, evD_nil]
        refine evQ_loop [8, 9, 75, 76, 77] [312] (fun σ => ∃ (t : Nat), t ≤ L ∧ σ = ⟨[(8, .int .i64 (sgn a)), (9, .vec 312), (75, .row 1 (List.take L (((List.range l.length).map fun k : Nat => ((ord (rm (mag a) W l) l.length k : Nat) : Int)).map (V.int .i64)))), (76, .int .i64 L), (77, .int .i64 t)],
          [(312, .vec 3 1 ((outL (qt (mag a) W l) (ord (rm (mag a) W l) l.length) l.length t).map (V.int .i64)))]⟩)
          (fun σ => L - (match Ev.look 77 σ.env with | some (.int _ n) => n.toNat | _ => 0)) ?_ ?_
        · simp only [go_sem, Int.reduceEq, Int.reduceLT, Int.reduceLE, Int.reduceNeg, Nat.reduceAdd, Nat.reduceLT, Nat.reduceEqDiff, Nat.reduceMul, Nat.reduceLeDiff, reduceIte, Nat.reduceBEq, reduceCtorEq, evP_D, evD_guard, evD_cons, evD_zero, evD_nil]
          exact ⟨0, Nat.zero_le _, by rw [outL_zero, fillL_end]; rfl⟩
        · rintro σ ⟨t, ht, rfl⟩
          by_cases htL : t < L
          · have htL' : (t : Int) < L := by omega
            have hp := ord_perm (rm (mag a) W l) l.length
            have hm := (hp.maps (k := t) (by omega)).2
            have hg : (List.take L (((List.range l.length).map fun k : Nat => ((ord (rm (mag a) W l) l.length k : Nat) : Int)).map (V.int .i64)))[t]? = some (.int .i64 ((ord (rm (mag a) W l) l.length t : Nat) : Int)) := by
              simp [List.getElem?_take, htL, show t < l.length by omega]
            have hgl : (List.take L (((List.range l.length).map fun k : Nat => ((ord (rm (mag a) W l) l.length k : Nat) : Int)).map (V.int .i64))).length = L := by simp; omega
            have hq := outL_get (qt (mag a) W l) (ord (rm (mag a) W l) l.length) t hm (took_self hp)
            have hset := outL_step (qt (mag a) W l) (ord (rm (mag a) W l) l.length) l.length t
            have hset' : ((outL (qt (mag a) W l) (ord (rm (mag a) W l) l.length) l.length t).map (V.int .i64)).set (ord (rm (mag a) W l) l.length t) (.int .i64 (qt (mag a) W l (ord (rm (mag a) W l) l.length t) + 1)) = (outL (qt (mag a) W l) (ord (rm (mag a) W l) l.length) l.length (t + 1)).map (V.int .i64) := by rw [← hset, List.map_set]
            have qb := hS.qt hm
            have hm' : ord (rm (mag a) W l) l.length t < (outL (qt (mag a) W l) (ord (rm (mag a) W l) l.length) l.length t).length := by rw [outL_len]; exact hm
            generalize ord (rm (mag a) W l) l.length = σ at *
            simp (disch := (first | omega | assumption)) only [htL', idx_nat, List.getElem?_map, List.length_map, hg, hgl, hq, hset', go_sem, Int.reduceEq, Int.reduceLT, Int.reduceLE, Int.reduceNeg, Nat.reduceAdd, Nat.reduceLT, Nat.reduceEqDiff, Nat.reduceMul, Nat.reduceLeDiff, reduceIte, Nat.reduceBEq, reduceCtorEq, evP_D, evD_guard, evD_cons, evD_zero, evD_nil]
            exact ⟨⟨t + 1, htL, rfl⟩, by
              have e3 : ((t : Int) + 1).toNat = t + 1 := by omega
              rw [e3, Int.toNat_natCast]; omega⟩
          · have htL' : t = L := by omega
            subst htL'
            have htn : ¬ ((t : Int) < t) := by omega
            have hob : ∀ i, i < l.length → _ := fun i hi => outL_bd (σ := ord (rm (mag a) W l) l.length) (t := t) (i := i) (fun i hi => hS.qt (i := i) hi) hi
            have hol := outL_len (qt (mag a) W l) (ord (rm (mag a) W l) l.length) l.length t
            simp (disch := (first | omega | assumption)) only [htn, List.length_map, go_sem, Int.reduceEq, Int.reduceLT, Int.reduceLE, Int.reduceNeg, Nat.reduceAdd, Nat.reduceLT, Nat.reduceEqDiff, Nat.reduceMul, Nat.reduceLeDiff, reduceIte, Nat.reduceBEq, reduceCtorEq, evP_D, evD_guard, evD_cons, evD_zero, evD_nil]
            generalize outL (qt (mag a) W l) (ord (rm (mag a) W l) l.length) l.length t = R at hob hol ⊢
            refine evQ_loop [8, 9, 89, 90] [312] (fun σ => ∃ (j : Nat), j ≤ R.length ∧ σ = ⟨[(8, .int .i64 (sgn a)), (9, .vec 312), (89, .int .i64 R.length), (90, .int .i64 j)], [(312, .vec 3 1 ((preL (fun x => x * sgn a) R j).map (V.int .i64)))]⟩)
              (fun σ => R.length - (match Ev.look 90 σ.env with | some (.int _ n) => n.toNat | _ => 0)) ?_ ?_
            · simp only [go_sem, Int.reduceEq, Int.reduceLT, Int.reduceLE, Int.reduceNeg, Nat.reduceAdd, Nat.reduceLT, Nat.reduceEqDiff, Nat.reduceMul, Nat.reduceLeDiff, reduceIte, Nat.reduceBEq, reduceCtorEq, evP_D, evD_guard, evD_cons, evD_zero, evD_nil]
              exact ⟨0, Nat.zero_le _, by rw [preL_zero]; rfl⟩
            · rintro σ ⟨j, hj, rfl⟩
              by_cases hjR : j < R.length
              · have hjR' : (j : Int) < R.length := by omega
                have hat := preL_at (fun x => x * sgn a) R hjR
                have hset := preL_set (fun x => x * sgn a) R j
                have hset' : ((preL (fun x => x * sgn a) R j).map (V.int .i64)).set j (.int .i64 (ge R j * sgn a)) = (preL (fun x => x * sgn a) R (j + 1)).map (V.int .i64) := by rw [← hset, List.map_set]
                have hb := hob j (by omega)
                have hb2 : -1000000000001 ≤ ge R j * sgn a ∧ ge R j * sgn a ≤ 1000000000001 := by rw [es]; omega
                clear es em em' hneg
                simp (disch := (first | omega | assumption)) only [hjR', idx_nat, List.getElem?_map, List.length_map, preL_len, hat, hset', go_sem, Int.reduceEq, Int.reduceLT, Int.reduceLE, Int.reduceNeg, Nat.reduceAdd, Nat.reduceLT, Nat.reduceEqDiff, Nat.reduceMul, Nat.reduceLeDiff, reduceIte, Nat.reduceBEq, reduceCtorEq, evP_D, evD_guard, evD_cons, evD_zero, evD_nil]
                exact ⟨⟨j + 1, hjR, rfl⟩, by
                  have e3 : ((j : Int) + 1).toNat = j + 1 := by omega
                  rw [e3, Int.toNat_natCast]; omega⟩
              · have hj' : j = R.length := by omega
                subst hj'
                have hjn : ¬ ((R.length : Int) < R.length) := by omega
                simp (disch := (first | omega | assumption)) only [hjn, preL_end, go_sem, Int.reduceEq, Int.reduceLT, Int.reduceLE, Int.reduceNeg, Nat.reduceAdd, Nat.reduceLT, Nat.reduceEqDiff, Nat.reduceMul, Nat.reduceLeDiff, reduceIte, Nat.reduceBEq, reduceCtorEq, evP_D, evD_guard, evD_cons, evD_zero, evD_nil]
end Go.Proofs.Ytdjdipehfnnhpaa
