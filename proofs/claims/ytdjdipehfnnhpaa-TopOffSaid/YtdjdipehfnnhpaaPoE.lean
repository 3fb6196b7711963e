/-
  Entries in books, run by the machine: found by keys, compared, and their place.
-/
import Derived.Test.YtdjdipehfnnhpaaBkE
import Derived.Test.YtdjdipehfnnhpaaEnH
import Derived.Test.YtdjdipehfnnhpaaPoP
namespace Go.Acc
open Go
def isK (k : ByteArray) (y : En) : Bool := decide (y.1 = k)
def fiE (k : ByteArray) (E : List En) : Int := if E.any (isK k) = true then ((E.findIdx (isK k) : Nat) : Int) else -1
theorem find_idx {α : Type} (p : α → Bool) : ∀ (E : List α) (y : α), E.find? p = some y → E.any p = true ∧ E[E.findIdx p]? = some y
  | [], _, h => by simp at h
  | x :: r, y, h => by
    rw [List.find?_cons] at h
    rw [List.findIdx_cons, List.any_cons]
    cases hp : p x with
    | true => rw [hp] at h; simp at h; subst h; exact ⟨rfl, rfl⟩
    | false =>
      rw [hp] at h
      obtain ⟨h1, h2⟩ := find_idx p r y h
      exact ⟨by rw [h1]; rfl, h2⟩
theorem fiE_some {k : ByteArray} {E : List En} {y : En} (h : getE k E = some y) : ∃ i : Nat, fiE k E = (i : Int) ∧ E[i]? = some y := by
  obtain ⟨h1, h2⟩ := find_idx (isK k) E y h
  exact ⟨_, by unfold fiE; rw [if_pos h1], h2⟩
theorem fiE_none {k : ByteArray} {E : List En} (h : getE k E = none) : fiE k E = -1 := by
  unfold fiE
  rw [if_neg]
  intro ha
  obtain ⟨y, hy, hp⟩ := List.any_eq_true.1 ha
  exact getE_none h y hy (of_decide_eq_true hp)
def bsB (x : En) (E : List En) : Bool := match E[posE x E]? with
  | some y => decide (cmpE y x = 0)
  | none => false
end Go.Acc
namespace Go.Proofs.Ytdjdipehfnnhpaa
open Go Go.Ev Go.RowKit Go.Acc
set_option maxHeartbeats 4000000
set_option linter.unusedSimpArgs false
set_option linter.unusedVariables false
attribute [local go_sem] subE partR boundsV ownP sliceW copyV clearV lenM takeV tk1 mapsV mkMapV hintOk lookV updV mapKE keyOk V.key app_lend callW_fn lendV postL_ret postL_normal postT_ret postT_normal takeR St.lent mkX_L bin_eql_vz bin_eql_zv bin_eql_rz bin_eql_zr bin_eql_zz bin_neq_vz bin_neq_zv bin_neq_rz bin_neq_zr bin_neq_zz eqH nilEq nonE plainI gOf_bool gOf_skip g_some g_none Int.ofNat_zero Int.cast_ofNat_Int Bool.false_and Bool.and_false sliceV noBox elemsZ V.scrub V.scrubL Blk.scrub appendV isSlice maxLen_eq leT List.contains_nil List.contains_cons nvL_at fzL_at fillV V.plain V.plainL Blk.plain List.size_toArray mapO_nil mapO_cons Option.isNone_none Option.isNone_some beqT beqF oI_not mkX_e phi_nil phi_cons bin_eql_bool bin_neq_bool bin_eql_agg bin_neq_agg eqV eqFs eqK_int eqK_bool' eqK_str mkX_T mkX_Φ mkX_n mkX_f mkX_d mkX_r nv0_at fz0_at evQ_dr evP_W evW_nil evW_cons evW_guard okW_eq tame_none tame_new tame_write wb_none wb_new wb_write okU_some offW_none offW_some touchOf V.noRef V.noRefL Option.isSome_some Option.isSome_none mild_none mild_new Option.getD_some Option.getD_none evQ_seq evQ_region evQ_block evQ_cond evQ_ret evQ_skip evQ_exit evO_cons evO_nil evO_guard freezeL_nil oS_some oS_none oS_ite oS_ite' oB_bool oI_true oI_false oE_normal oE_exit oE_ret bQ_normal bQ_ret bQ_exit lQ_normal lQ_ret lQ_exit List.zipIdx_cons List.zipIdx_nil List.map_cons List.map_nil evalOp opd_const opd_tmp opd_func ofC_int ofC_bool ofC_str ofC_nil app_none app_new app_write app_change putE_some putE_none setA_cons setA_nil setH_cons setH_nil mapA_cons mapA_nil look_cons look_nil e_mk h_mk drop_nil drop_mk keep_mk dstOk_some dstOk_none guardT_eq true_and and_true Bool.not_false Bool.not_true selB_true selB_false mem_nil mem_cons kpL_nil kpL_cons drL_nil drL_cons closed_mk V.refsIn V.refsInL Blk.refsIn List.all_cons List.all_nil lenV bin_add bin_sub bin_mul bin_quo bin_rem bin_eql bin_neq bin_lss bin_leq bin_gtr bin_geq un_neg un_not post_ret post_normal St.init Bool.false_eq_true List.length_map Bool.or_false Bool.or_true Bool.false_or Bool.true_or beq_self_eq_true Option.map_some Option.map_none Option.bind_some List.getElem?_cons_zero List.getElem?_cons_succ scalar stor isAggV V.cells List.cons_append List.nil_append if_true if_false wrap_of callV V.dataL V.data Bool.and_true Bool.true_and fresh names V.ren V.renL retV resV packL packV packC getBlks wrapR subV putV decide_true decide_false TK.agg List.length_cons List.length_nil List.take_succ_cons List.take_zero List.drop_succ_cons List.drop_zero List.take_nil List.drop_nil Nat.zero_add Nat.add_zero List.append_nil List.getElem?_nil elemsV ro ro0 ro1 roC ty2 ty3 ty4 ty5 ty6 ty7 ty8 ty9 ty10 ty11 ty12 ty13 ty14 ty18 ty19 ty21 ty24 ty25 ty33 ty34 ty35 ty36 ty41 ty42 ty43 ty45 ty46 ty53 ty63 ty64 ty69 ty74 ty77 ty78 ty96 ty98 ty108 ty115 ty142 ty143 ty148 ty149 ty152 ty153 ty154 ty155 eqs46 eqs64 eqs78
theorem indexE_sound {J : World → Prop} (hJ : Stable J) (g : FuncId) (cs : List V) (G : List V → Option (V × List Blk)) (hG : Snd Try.prog J g G) (hd : V.dataL cs = true) (p : En → Bool) (l : List En) (hp : ∀ n ∈ l, G (enW n :: cs) = some (.bool (p n), [])) :
    SoundAt Try.prog J 77 [.row 3 (l.map enW), .fn g cs] (.int .i64 (if l.any p = true then ((l.findIdx p : Nat) : Int) else -1)) [] := by
  refine SoundAt.row 0 rfl (callOk Try.func77 rfl rfl) fun hlen => ?_
  simp only [maxLen, List.length_map] at hlen
  refine evFn (l := [(g, G)]) (nv := nv0) (fz := fz0) (dr := dr77) (dd := dd77) (lam := []) ⟨hG, trivial⟩ hJ trivial Try.func77 rfl rfl (Nat.le_of_ble_eq_true rfl) (Nat.le_of_ble_eq_true rfl) drOk77 ?_
  dsimp only [Try.f77, dr77, dd77, Option.getD_some]
  refine ev_start ?_
  simp (disch := omega) only [go_sem, Int.reduceEq, Int.reduceLT, Int.reduceLE, Int.reduceNeg, Nat.reduceAdd, Nat.reduceLT, Nat.reduceEqDiff, Nat.reduceMul, Nat.reduceLeDiff, reduceIte, Nat.reduceBEq, reduceCtorEq, evP_D, evD_guard, evD_cons, evD_zero, evD_nil]
  refine evQ_loop [0, 1, 7, 8] [] (fun σ => ∃ k : Nat, (k ≤ l.length ∧ ∀ i (h : i < l.length), i < k → p l[i] = false) ∧ σ = ⟨[(0, .row 3 (l.map enW)), (1, .fn g cs), (7, .int .i64 l.length), (8, .int .i64 k)], []⟩) (fun σ => l.length - (match Ev.look 8 σ.env with | some (.int _ n) => n.toNat | _ => 0)) ?_ ?_
  · simp only [go_sem, Int.reduceEq, Int.reduceLT, Int.reduceLE, Int.reduceNeg, Nat.reduceAdd, Nat.reduceLT, Nat.reduceEqDiff, Nat.reduceMul, Nat.reduceLeDiff, reduceIte, Nat.reduceBEq, reduceCtorEq, evP_D, evD_guard, evD_cons, evD_zero, evD_nil]
    exact ⟨refsInL_data hd, 0, ⟨Nat.zero_le _, fun _ _ h => by omega⟩, rfl⟩
  · rintro σ ⟨k, ⟨hk, hall⟩, rfl⟩
    by_cases hlt : k < l.length
    · have hlt' : (k : Int) < l.length := by omega
      have hg : (l.map enW)[k]? = some (.agg [.str l[k].1, .int .i64 l[k].2.1, .row 2 (l[k].2.2.map acV)]) := enW_get (c := l[k].1) (d := l[k].2.1) (l := l[k].2.2) (List.getElem?_eq_getElem hlt)
      have hpk := hp l[k] (List.getElem_mem hlt)
      simp only [enW] at hpk
      cases hb : p l[k] with
      | true =>
        rw [hb] at hpk
        have hany : l.any p = true := List.any_eq_true.2 ⟨l[k], List.getElem_mem hlt, hb⟩
        have hidx : l.findIdx p = k := (List.findIdx_eq hlt).2 ⟨hb, fun j hj => hall j (by omega) hj⟩
        simp (disch := (first | omega | assumption)) only [hlt', idx_nat, List.length_map, hg, hpk, hd, V.dataL, V.data, hany, hidx, go_sem, Int.reduceEq, Int.reduceLT, Int.reduceLE, Int.reduceNeg, Nat.reduceAdd, Nat.reduceLT, Nat.reduceEqDiff, Nat.reduceMul, Nat.reduceLeDiff, reduceIte, Nat.reduceBEq, reduceCtorEq, evP_D, evD_guard, evD_cons, evD_zero, evD_nil]
      | false =>
        rw [hb] at hpk
        simp (disch := (first | omega | assumption)) only [hlt', idx_nat, List.length_map, hg, hpk, hd, refsInL_data hd, scrubL_data hd, V.dataL, V.data, go_sem, Int.reduceEq, Int.reduceLT, Int.reduceLE, Int.reduceNeg, Nat.reduceAdd, Nat.reduceLT, Nat.reduceEqDiff, Nat.reduceMul, Nat.reduceLeDiff, reduceIte, Nat.reduceBEq, reduceCtorEq, evP_D, evD_guard, evD_cons, evD_zero, evD_nil]
        exact ⟨⟨k + 1, ⟨hlt, fun i hi hik => by
          by_cases e : i = k
          · subst e; exact hb
          · exact hall i hi (by omega)⟩, rfl⟩, by show l.length - ((k : Int) + 1).toNat < l.length - (k : Int).toNat; omega⟩
    · have hk' : k = l.length := by omega
      subst hk'
      have hlt' : ¬ ((l.length : Int) < l.length) := by omega
      have hany : l.any p = false := by
        rw [List.any_eq_false]
        intro x hx
        obtain ⟨i, hi, rfl⟩ := List.mem_iff_getElem.1 hx
        simp [hall i hi hi]
      simp (disch := (first | omega | assumption)) only [hlt', hany, go_sem, Int.reduceEq, Int.reduceLT, Int.reduceLE, Int.reduceNeg, Nat.reduceAdd, Nat.reduceLT, Nat.reduceEqDiff, Nat.reduceMul, Nat.reduceLeDiff, reduceIte, Nat.reduceBEq, reduceCtorEq, evP_D, evD_guard, evD_cons, evD_zero, evD_nil]
def bfind1F : List V → Option (V × List Blk)
  | [.agg [.str c, .int .i64 n, .row 2 ls], .rd (.str k) 0] => (unAc ls).map fun _ => (.bool (decide (c = k)), [])
  | _ => none
theorem bfind1_snd {J : World → Prop} (hJ : Stable J) : Snd Try.prog J 78 bfind1F := by
  intro args r bs h
  unfold bfind1F at h
  split at h
  · rename_i c n ls k
    simp only [Option.map_eq_some_iff] at h
    obtain ⟨l, hl, h⟩ := h
    obtain ⟨rfl, rfl⟩ := some_pair (congrArg some h)
    rw [unAc_eq hl]
    refine evFn (l := []) (nv := nv0) (fz := fz0) (dr := dr78) (dd := dd78) (lam := []) trivial hJ trivial Try.func78 rfl rfl (Nat.le_of_ble_eq_true rfl) (Nat.le_of_ble_eq_true rfl) drOk78 ?_
    dsimp only [Try.f78, dr78, dd78, Option.getD_some]
    refine ev_start ?_
    simp (disch := omega) only [bin_eql_str, go_sem, Int.reduceEq, Int.reduceLT, Int.reduceLE, Int.reduceNeg, Nat.reduceAdd, Nat.reduceLT, Nat.reduceEqDiff, Nat.reduceMul, Nat.reduceLeDiff, reduceIte, Nat.reduceBEq, reduceCtorEq, evP_D, evD_guard, evD_cons, evD_zero, evD_nil]
  · cases h
theorem bfind_sound {J : World → Prop} (hJ : Stable J) (A : List (ByteArray × Int)) (E : List En) (s : Int) (k : ByteArray) : SoundAt Try.prog J 46 [bkV A E s, .str k] (.int .i64 (fiE k E)) [] := by
  have hI := indexE_sound hJ 78 [.rd (.str k) 0] bfind1F (bfind1_snd hJ) rfl (isK k) E fun n _ => by simp only [bfind1F, enW, unAc_map, Option.map_some]; rfl
  unfold bkV
  refine evFn (l := [(77, at1 [.row 3 (E.map enW), .fn 78 [.rd (.str k) 0]] (.int .i64 (fiE k E), []))]) (nv := nv0) (fz := fz0) (dr := dr46) (dd := dd46) (lam := []) ⟨at1_snd hI, trivial⟩ hJ trivial Try.func46 rfl rfl (Nat.le_of_ble_eq_true rfl) (Nat.le_of_ble_eq_true rfl) drOk46 ?_
  dsimp only [Try.f46, dr46, dd46, Option.getD_some]
  refine ev_start ?_
  simp (disch := omega) only [at1_eq, List.mapM_cons, List.mapM_nil, Option.bind_eq_bind, Option.pure_def, Option.bind_some, go_sem, Int.reduceEq, Int.reduceLT, Int.reduceLE, Int.reduceNeg, Nat.reduceAdd, Nat.reduceLT, Nat.reduceEqDiff, Nat.reduceMul, Nat.reduceLeDiff, reduceIte, Nat.reduceBEq, reduceCtorEq, evP_D, evD_guard, evD_cons, evD_zero, evD_nil]
theorem esame_sound {J : World → Prop} (hJ : Stable J) (x y : En) : SoundAt Try.prog J 47 [enW x, enW y] (.bool (decide (x = y))) [] := by
  obtain ⟨k, d, l⟩ := x
  obtain ⟨k', d', l'⟩ := y
  unfold enW
  by_cases hk : k = k'
  · subst hk
    by_cases hd : d = d'
    · subst hd
      have e : decide ((k, d, l) = (k, d, l')) = decide (l = l') := by simp
      refine evFn (l := [(79, eqLF)]) (nv := nv0) (fz := fz0) (dr := dr47) (dd := dd47) (lam := []) ⟨eqL_snd hJ, trivial⟩ hJ trivial Try.func47 rfl rfl (Nat.le_of_ble_eq_true rfl) (Nat.le_of_ble_eq_true rfl) drOk47 ?_
      dsimp only [Try.f47, dr47, dd47, Option.getD_some]
      refine ev_start ?_
      simp (disch := omega) only [eqLF_rows, bin_eql_str, decide_true, e, go_sem, Int.reduceEq, Int.reduceLT, Int.reduceLE, Int.reduceNeg, Nat.reduceAdd, Nat.reduceLT, Nat.reduceEqDiff, Nat.reduceMul, Nat.reduceLeDiff, reduceIte, Nat.reduceBEq, reduceCtorEq, evP_D, evD_guard, evD_cons, evD_zero, evD_nil]
    · have e : decide ((k, d, l) = (k, d', l')) = false := by simp [hd]
      refine evFn (l := [(79, eqLF)]) (nv := nv0) (fz := fz0) (dr := dr47) (dd := dd47) (lam := []) ⟨eqL_snd hJ, trivial⟩ hJ trivial Try.func47 rfl rfl (Nat.le_of_ble_eq_true rfl) (Nat.le_of_ble_eq_true rfl) drOk47 ?_
      dsimp only [Try.f47, dr47, dd47, Option.getD_some]
      refine ev_start ?_
      simp (disch := omega) only [eqLF_rows, bin_eql_str, decide_true, hd, e, go_sem, Int.reduceEq, Int.reduceLT, Int.reduceLE, Int.reduceNeg, Nat.reduceAdd, Nat.reduceLT, Nat.reduceEqDiff, Nat.reduceMul, Nat.reduceLeDiff, reduceIte, Nat.reduceBEq, reduceCtorEq, evP_D, evD_guard, evD_cons, evD_zero, evD_nil]
  · have e : decide ((k, d, l) = (k', d', l')) = false := by simp [hk]
    have hk' := decide_eq_false hk
    refine evFn (l := [(79, eqLF)]) (nv := nv0) (fz := fz0) (dr := dr47) (dd := dd47) (lam := []) ⟨eqL_snd hJ, trivial⟩ hJ trivial Try.func47 rfl rfl (Nat.le_of_ble_eq_true rfl) (Nat.le_of_ble_eq_true rfl) drOk47 ?_
    dsimp only [Try.f47, dr47, dd47, Option.getD_some]
    refine ev_start ?_
    simp (disch := omega) only [eqLF_rows, bin_eql_str, hk', e, go_sem, Int.reduceEq, Int.reduceLT, Int.reduceLE, Int.reduceNeg, Nat.reduceAdd, Nat.reduceLT, Nat.reduceEqDiff, Nat.reduceMul, Nat.reduceLeDiff, reduceIte, Nat.reduceBEq, reduceCtorEq, evP_D, evD_guard, evD_cons, evD_zero, evD_nil]
end Go.Proofs.Ytdjdipehfnnhpaa
