/-
  Accounts, run by the machine: Find, Kind, Under.
-/
import Derived.Test.YtdmkmbaaemhhhaaDoorAcF
namespace Go.Acc
open Go
theorem less_irr : ∀ x : List UInt8, Op.bytesLess x x = false
  | [] => rfl
  | a :: x => by simp only [Op.bytesLess, less_irr x, Bool.and_false, Bool.or_false]; exact decide_eq_false (fun h => by simp at h)
theorem less_trans : ∀ x y z : List UInt8, Op.bytesLess x y = true → Op.bytesLess y z = true → Op.bytesLess x z = true
  | _, [], _, h, _ => by simp [Op.bytesLess] at h
  | _, _ :: _, [], _, h => by simp [Op.bytesLess] at h
  | [], _ :: _, _ :: _, _, _ => rfl
  | a :: x, b :: y, c :: z, h1, h2 => by
    simp only [Op.bytesLess, Bool.or_eq_true, decide_eq_true_eq, Bool.and_eq_true, beq_iff_eq, UInt8.lt_iff_toNat_lt] at h1 h2 ⊢
    rcases h1 with h1 | ⟨rfl, h1⟩
    · rcases h2 with h2 | ⟨rfl, h2⟩
      · left; omega
      · left; exact h1
    · rcases h2 with h2 | ⟨rfl, h2⟩
      · left; exact h2
      · right; exact ⟨rfl, less_trans x y z h1 h2⟩
/-- of right accounts: kinds, and codes that rise -/
theorem acE_ok : ∀ (l : List (ByteArray × Int)) (p : Option ByteArray), acE p l = 0 → (∀ x ∈ l, 0 ≤ x.2 ∧ x.2 ≤ 4) ∧ (∀ q, p = some q → ∀ x ∈ l, Op.bytesLess q.toList x.1.toList = true) ∧ l.Pairwise fun x y => Op.bytesLess x.1.toList y.1.toList = true
  | [], _, _ => ⟨by simp, by simp, List.Pairwise.nil⟩
  | (c, n) :: l, p, h => by
    unfold acE at h
    by_cases h1 : codeOk c = false
    · rw [if_pos h1] at h; omega
    rw [if_neg h1] at h
    by_cases h2 : ¬ (0 ≤ n ∧ n ≤ 4)
    · rw [if_pos h2] at h; omega
    rw [if_neg h2] at h
    have h4 : acE (some c) l = 0 ∧ ∀ q, p = some q → Op.bytesLess q.toList c.toList = true := by
      cases p with
      | none =>
        simp only [Bool.false_eq_true, if_false] at h
        exact ⟨h, fun q hq => by cases hq⟩
      | some p =>
        cases hb : Op.bytesLess p.toList c.toList with
        | false => simp only [hb, Bool.not_false, if_true] at h; omega
        | true =>
          simp only [hb, Bool.not_true, Bool.false_eq_true, if_false] at h
          exact ⟨h, fun q hq => by cases hq; exact hb⟩
    obtain ⟨h4, hp⟩ := h4
    obtain ⟨a1, a2, a3⟩ := acE_ok l (some c) h4
    refine ⟨fun x hx => ?_, fun q hq x hx => ?_, List.Pairwise.cons (fun x hx => a2 c rfl x hx) a3⟩
    · rcases List.mem_cons.1 hx with rfl | hx
      · exact Decidable.not_not.1 h2
      · exact a1 x hx
    · rcases List.mem_cons.1 hx with rfl | hx
      · exact hp q hq
      · exact less_trans _ _ _ (hp q hq) (a2 c rfl x hx)
theorem ac_apart {l : List (ByteArray × Int)} (h : acChk l = 0) {i j : Nat} {x y : ByteArray × Int} (hx : l[i]? = some x) (hy : l[j]? = some y) (he : x.1 = y.1) : i = j := by
  have h0 : acE none l = 0 := by unfold acChk at h; split at h <;> first | omega | exact h
  have hp := (acE_ok l none h0).2.2
  obtain ⟨hi, rfl⟩ := List.getElem?_eq_some_iff.1 hx
  obtain ⟨hj, rfl⟩ := List.getElem?_eq_some_iff.1 hy
  rcases Nat.lt_trichotomy i j with hlt | rfl | hlt
  · have := List.pairwise_iff_getElem.1 hp i j hi hj hlt
    rw [he, less_irr] at this; cases this
  · rfl
  · have := List.pairwise_iff_getElem.1 hp j i hj hi hlt
    rw [he, less_irr] at this; cases this
def isC (code : ByteArray) (p : ByteArray × Int) : Bool := decide (p.1 = code)
def fidx (code : ByteArray) (l : List (ByteArray × Int)) : Int := if l.any (isC code) = true then ((l.findIdx (isC code) : Nat) : Int) else -1
/-- the kind of the last account of a code -/
def lastK (code : ByteArray) (l : List (ByteArray × Int)) : Nat → Int
  | 0 => -1
  | k + 1 => match l[k]? with
    | some p => if isC code p = true then p.2 else lastK code l k
    | none => lastK code l k
theorem lastK_none {code : ByteArray} {l : List (ByteArray × Int)} (h : l.any (isC code) = false) : ∀ k, lastK code l k = -1
  | 0 => rfl
  | k + 1 => by
    unfold lastK
    split
    · rename_i p hp
      have := List.any_eq_false.1 h p (List.mem_of_getElem? hp)
      rw [if_neg this]
      exact lastK_none h k
    · exact lastK_none h k
theorem lastK_some {code : ByteArray} {l : List (ByteArray × Int)} (hl : acChk l = 0) {i : Nat} {x : ByteArray × Int} (hx : l[i]? = some x) (hc : isC code x = true) : ∀ k, i < k → lastK code l k = x.2
  | 0, h => by omega
  | k + 1, h => by
    unfold lastK
    split
    · rename_i p hp
      split
      · rename_i hpc
        have : i = k := ac_apart hl hx hp (by simp only [isC, decide_eq_true_eq] at hc hpc; rw [hc, hpc])
        subst this
        rw [hx] at hp
        cases hp
        rfl
      · rename_i hpc
        by_cases e : i = k
        · subst e
          rw [hx] at hp
          cases hp
          exact absurd hc hpc
        · exact lastK_some hl hx hc k (by omega)
    · rename_i hn
      have := (List.getElem?_eq_some_iff.1 hx).1
      rw [List.getElem?_eq_none_iff] at hn
      exact lastK_some hl hx hc k (by omega)
def preB (code c : ByteArray) : Bool := decide (code.size ≤ c.size ∧ c.extract 0 code.size = code)
def undL (code : ByteArray) (l : List (ByteArray × Int)) : List ByteArray := (l.filter fun p => preB code p.1).map (·.1)
theorem undL_step {code : ByteArray} {l : List (ByteArray × Int)} {k : Nat} {c : ByteArray} {n : Int} (h : l[k]? = some (c, n)) : undL code (l.take (k + 1)) = undL code (l.take k) ++ if preB code c = true then [c] else [] := by
  obtain ⟨hk, he⟩ := List.getElem?_eq_some_iff.1 h
  rw [List.take_succ_eq_append_getElem hk, he]
  unfold undL
  rw [List.filter_append, List.map_append]
  congr 1
  cases hp : preB code c <;> simp [hp]
end Go.Acc
namespace Go.Proofs.YtdmkmbaaemhhhaaDoor
open Go Go.Ev Go.RowKit Go.Acc
set_option maxHeartbeats 4000000
set_option linter.unusedSimpArgs false
set_option linter.unusedVariables false
attribute [local go_sem] mutV getB mvB bkB V.mv V.mvL V.bk V.bkL Blk.mv Blk.bk posN nmN backN noDup app_writes setHL_nil setHL_cons postM_ret postM_normal resM hasB_nil hasB_cons St.mut names_nil names_cons sortV cellOf mkX_M mkX_S mkX_ln lnL_at ms0_mt ms0_st V.lone V.loneL List.zip_cons_cons List.zip_nil_left Option.isNone_none bornV subE partR unB bytesW boundsV ownP sliceW copyV clearV lenM takeV tk1 mapsV mkMapV hintOk lookV updV mapKE keyOk V.key app_lend callW_fn lendV postL_ret postL_normal postT_ret postT_normal takeR St.lent mkX_L bin_eql_vz bin_eql_zv bin_eql_rz bin_eql_zr bin_eql_zz bin_neq_vz bin_neq_zv bin_neq_rz bin_neq_zr bin_neq_zz eqH nilEq nonE plainI gOf_bool gOf_skip g_some g_none Int.ofNat_zero Int.cast_ofNat_Int Bool.false_and Bool.and_false sliceV noBox elemsZ V.scrub V.scrubL Blk.scrub appendV isSlice maxLen_eq leT List.contains_nil List.contains_cons nvL_at fzL_at fillV V.plain V.plainL Blk.plain List.size_toArray mapO_nil mapO_cons Option.isNone_some beqT beqF oI_not mkX_e phi_nil phi_cons bin_eql_bool bin_neq_bool bin_eql_agg bin_neq_agg eqV eqFs eqK_int eqK_bool' eqK_str mkX_T mkX_Φ mkX_n mkX_f mkX_d mkX_r nv0_at fz0_at evQ_dr evP_W evW_nil evW_cons evW_guard okW_eq tame_none tame_new tame_write wb_none wb_new wb_write okU_some offW_none offW_some touchOf V.noRef V.noRefL Option.isSome_some Option.isSome_none mild_none mild_new Option.getD_some Option.getD_none evQ_seq evQ_region evQ_block evQ_cond evQ_ret evQ_skip evQ_exit evO_cons evO_nil evO_guard freezeL_nil oS_some oS_none oS_ite oS_ite' oB_bool oI_true oI_false oE_normal oE_exit oE_ret bQ_normal bQ_ret bQ_exit lQ_normal lQ_ret lQ_exit List.zipIdx_cons List.zipIdx_nil List.map_cons List.map_nil evalOp opd_const opd_tmp opd_func ofC_int ofC_bool ofC_str ofC_nil app_none app_new app_write app_change putE_some putE_none setA_cons setA_nil setH_cons setH_nil mapA_cons mapA_nil look_cons look_nil e_mk h_mk drop_nil drop_mk keep_mk dstOk_some dstOk_none guardT_eq true_and and_true Bool.not_false Bool.not_true selB_true selB_false mem_nil mem_cons kpL_nil kpL_cons drL_nil drL_cons closed_mk V.refsIn V.refsInL Blk.refsIn List.all_cons List.all_nil lenV bin_add bin_sub bin_mul bin_quo bin_rem bin_eql bin_neq bin_lss bin_leq bin_gtr bin_geq un_neg un_not post_ret post_normal St.init Bool.false_eq_true List.length_map Bool.or_false Bool.or_true Bool.false_or Bool.true_or beq_self_eq_true Option.map_some Option.map_none Option.bind_some List.getElem?_cons_zero List.getElem?_cons_succ scalar stor isAggV V.cells List.cons_append List.nil_append if_true if_false wrap_of callV V.dataL V.data Bool.and_true Bool.true_and fresh names V.ren V.renL retV resV packL packV packC getBlks wrapR subV putV decide_true decide_false TK.agg List.length_cons List.length_nil List.take_succ_cons List.take_zero List.drop_succ_cons List.drop_zero List.take_nil List.drop_nil Nat.zero_add Nat.add_zero List.append_nil List.getElem?_nil elemsV ro ro0 ro1 roC ty1 ty2 ty3 ty4 ty5 ty6 ty7 ty8 ty9 ty10 ty11 ty12 ty13 ty14 ty15 ty16 ty17 ty18 ty19 ty21 ty22 ty23 ty24 ty26 ty27 ty28 ty29 ty30 ty31 ty32 ty33 ty34 ty35 ty36 ty37 ty38 ty39 ty40 ty41 ty42 ty44 ty45 ty47 ty49 ty51 ty53 ty54 ty55 ty56 ty57 ty58 ty59 ty60 ty61 ty62 ty63 ty64 ty65 ty66 ty67 ty68 ty69 ty70 ty71 ty72 ty73 ty74 ty75 ty76 ty77 ty78 ty79 ty80 ty81 ty82 ty83 ty84 ty85 ty86 ty87 ty88 ty89 ty90 ty92 ty93 ty94 ty95 ty96 ty97 ty98 ty99 ty100 ty101 ty102 ty103 ty104 ty105 ty107 ty108 ty109 ty110 ty111 ty112 ty113 ty114 ty115 ty116 ty117 ty118 ty119 ty123 ty124 ty125 ty126 ty127 ty128 ty129 ty130 ty131 ty132 ty133 ty135 ty136 ty137 ty138 ty139 ty141 ty142 ty143 ty144 ty146 ty147 ty148 ty149 ty153 ty154 ty155 ty156 ty157 ty158 ty159 ty160 ty161 eqs29 eqs61 eqs79 eqs94
theorem indexA_sound {J : World → Prop} (hJ : Stable J) (g : FuncId) (cs : List V) (G : List V → Option (V × List Blk)) (hG : Snd Tryd.prog J g G) (hd : V.dataL cs = true) (p : ByteArray × Int → Bool) (l : List (ByteArray × Int)) (hp : ∀ n ∈ l, G (acV n :: cs) = some (.bool (p n), [])) :
    SoundAt Tryd.prog J 103 [.row 2 (l.map acV), .fn g cs] (.int .i64 (if l.any p = true then ((l.findIdx p : Nat) : Int) else -1)) [] := by
  refine SoundAt.row 0 rfl (callOk Tryd.func103 rfl rfl) fun hlen => ?_
  simp only [maxLen, List.length_map] at hlen
  refine evFn (l := [(g, G)]) (nv := nv0) (fz := fz0) (dr := dr103) (dd := dd103) (lam := []) (ms := ms0) ⟨hG, trivial⟩ hJ trivial ms0_ok Tryd.func103 rfl rfl (Nat.le_of_ble_eq_true rfl) (Nat.le_of_ble_eq_true rfl) drOk103 ?_
  dsimp only [Tryd.f103, dr103, dd103, Option.getD_some]
  refine ev_start ?_
  simp (disch := omega) only [go_sem, Int.reduceEq, Int.reduceLT, Int.reduceLE, Int.reduceNeg, Nat.reduceAdd, Nat.reduceLT, Nat.reduceEqDiff, Nat.reduceMul, Nat.reduceLeDiff, reduceIte, Nat.reduceBEq, reduceCtorEq, evP_D, evD_guard, evD_cons, evD_zero, evD_nil]
  refine evQ_loop [0, 1, 7, 8] [] (fun σ => ∃ k : Nat, (k ≤ l.length ∧ ∀ i (h : i < l.length), i < k → p l[i] = false) ∧ σ = ⟨[(0, .row 2 (l.map acV)), (1, .fn g cs), (7, .int .i64 l.length), (8, .int .i64 k)], []⟩) (fun σ => l.length - (match Ev.look 8 σ.env with | some (.int _ n) => n.toNat | _ => 0)) ?_ ?_
  · simp only [go_sem, Int.reduceEq, Int.reduceLT, Int.reduceLE, Int.reduceNeg, Nat.reduceAdd, Nat.reduceLT, Nat.reduceEqDiff, Nat.reduceMul, Nat.reduceLeDiff, reduceIte, Nat.reduceBEq, reduceCtorEq, evP_D, evD_guard, evD_cons, evD_zero, evD_nil]
    exact ⟨refsInL_data hd, 0, ⟨Nat.zero_le _, fun _ _ h => by omega⟩, rfl⟩
  · rintro σ ⟨k, ⟨hk, hall⟩, rfl⟩
    by_cases hlt : k < l.length
    · have hlt' : (k : Int) < l.length := by omega
      have hg : (l.map acV)[k]? = some (.agg [.str l[k].1, .int .i64 l[k].2]) := acV_get (c := l[k].1) (n := l[k].2) (List.getElem?_eq_getElem hlt)
      have hpk := hp l[k] (List.getElem_mem hlt)
      simp only [acV] at hpk
      cases hb : p l[k] with
      | true =>
        rw [hb] at hpk
        have hany : l.any p = true := List.any_eq_true.2 ⟨l[k], List.getElem_mem hlt, hb⟩
        have hidx : l.findIdx p = k := (List.findIdx_eq hlt).2 ⟨hb, fun j hj => hall j (by omega) hj⟩
        simp (disch := (first | omega | assumption)) only [hlt', idx_nat, List.length_map, hg, hpk, hd, V.dataL, V.data, hany, hidx, go_sem, Int.reduceEq, Int.reduceLT, Int.reduceLE, Int.reduceNeg, Nat.reduceAdd, Nat.reduceLT, Nat.reduceEqDiff, Nat.reduceMul, Nat.reduceLeDiff, reduceIte, Nat.reduceBEq, reduceCtorEq, evP_D, evD_guard, evD_cons, evD_zero, evD_nil]
      | false =>
        rw [hb] at hpk
        simp (disch := (first | omega | assumption)) only [hlt', idx_nat, List.length_map, hg, hpk, hd, refsInL_data hd, scrubL_data hd, V.dataL, V.data, go_sem, Int.reduceEq, Int.reduceLT, Int.reduceLE, Int.reduceNeg, Nat.reduceAdd, Nat.reduceLT, Nat.reduceEqDiff, Nat.reduceMul, Nat.reduceLeDiff, reduceIte, Nat.reduceBEq, reduceCtorEq, evP_D, evD_guard, evD_cons, evD_zero, evD_nil]
        exact ⟨⟨k + 1, ⟨hlt, fun i hi hik => by
          by_cases e : i = k
          · subst e; exact hb
          · exact hall i hi (by omega)⟩, rfl⟩, by show l.length - ((k : Int) + 1).toNat < l.length - (k : Int).toNat; omega⟩
    · have hk' : k = l.length := by omega
      subst hk'
      have hlt' : ¬ ((l.length : Int) < l.length) := by omega
      have hany : l.any p = false := by
        rw [List.any_eq_false]
        intro x hx
        obtain ⟨i, hi, rfl⟩ := List.mem_iff_getElem.1 hx
        simp [hall i hi hi]
      simp (disch := (first | omega | assumption)) only [hlt', hany, go_sem, Int.reduceEq, Int.reduceLT, Int.reduceLE, Int.reduceNeg, Nat.reduceAdd, Nat.reduceLT, Nat.reduceEqDiff, Nat.reduceMul, Nat.reduceLeDiff, reduceIte, Nat.reduceBEq, reduceCtorEq, evP_D, evD_guard, evD_cons, evD_zero, evD_nil]
def find1F : List V → Option (V × List Blk)
  | [.agg [.str c, .int .i64 n], .rd (.str code) 0] => some (.bool (isC code (c, n)), [])
  | _ => none
theorem find1_snd {J : World → Prop} (hJ : Stable J) : Snd Tryd.prog J 104 find1F := by
  intro args r bs h
  unfold find1F at h
  split at h
  · rename_i c n code
    obtain ⟨rfl, rfl⟩ := some_pair h
    refine evFn (l := []) (nv := nv0) (fz := fz0) (dr := dr104) (dd := dd104) (lam := []) (ms := ms0) trivial hJ trivial ms0_ok Tryd.func104 rfl rfl (Nat.le_of_ble_eq_true rfl) (Nat.le_of_ble_eq_true rfl) drOk104 ?_
    dsimp only [Tryd.f104, dr104, dd104, Option.getD_some]
    refine ev_start ?_
    simp (disch := omega) only [bin_eql_str, isC, go_sem, Int.reduceEq, Int.reduceLT, Int.reduceLE, Int.reduceNeg, Nat.reduceAdd, Nat.reduceLT, Nat.reduceEqDiff, Nat.reduceMul, Nat.reduceLeDiff, reduceIte, Nat.reduceBEq, reduceCtorEq, evP_D, evD_guard, evD_cons, evD_zero, evD_nil]
  · cases h
theorem find_sound {J : World → Prop} (hJ : Stable J) (l : List (ByteArray × Int)) (code : ByteArray) : SoundAt Tryd.prog J 76 [.row 2 (l.map acV), .str code] (.int .i64 (fidx code l)) [] := by
  have hI := indexA_sound hJ 104 [.rd (.str code) 0] find1F (find1_snd hJ) rfl (isC code) l fun _ _ => rfl
  refine evFn (l := [(103, at1 [.row 2 (l.map acV), .fn 104 [.rd (.str code) 0]] (.int .i64 (fidx code l), []))]) (nv := nv0) (fz := fz0) (dr := dr76) (dd := dd76) (lam := []) (ms := ms0) ⟨at1_snd hI, trivial⟩ hJ trivial ms0_ok Tryd.func76 rfl rfl (Nat.le_of_ble_eq_true rfl) (Nat.le_of_ble_eq_true rfl) drOk76 ?_
  dsimp only [Tryd.f76, dr76, dd76, Option.getD_some]
  refine ev_start ?_
  simp (disch := omega) only [at1_eq, List.mapM_cons, List.mapM_nil, Option.bind_eq_bind, Option.pure_def, Option.bind_some, go_sem, Int.reduceEq, Int.reduceLT, Int.reduceLE, Int.reduceNeg, Nat.reduceAdd, Nat.reduceLT, Nat.reduceEqDiff, Nat.reduceMul, Nat.reduceLeDiff, reduceIte, Nat.reduceBEq, reduceCtorEq, evP_D, evD_guard, evD_cons, evD_zero, evD_nil]
def kindR (code : ByteArray) (l : List (ByteArray × Int)) : Int × Int := if acChk l = 0 then (if l.any (isC code) = true then ((l[l.findIdx (isC code)]?).elim 0 (·.2), 0) else (0, 4)) else (0, acChk l)
theorem kind_sound {J : World → Prop} (hJ : Stable J) (l : List (ByteArray × Int)) (code : ByteArray) : SoundAt Tryd.prog J 41 [.row 2 (l.map acV), .str code] (.tup [.int .i64 (kindR code l).1, .int .i64 (kindR code l).2]) [] := by
  refine SoundAt.row 0 rfl (callOk Tryd.func41 rfl rfl) fun hlen => ?_
  simp only [maxLen, List.length_map] at hlen
  refine evFn (l := [(48, chkF), (76, at1 [.row 2 (l.map acV), .str code] (.int .i64 (fidx code l), []))]) (nv := nv0) (fz := fz0) (dr := dr41) (dd := dd41) (lam := []) (ms := ms0) ⟨check_snd hJ, at1_snd (find_sound hJ l code), trivial⟩ hJ trivial ms0_ok Tryd.func41 rfl rfl (Nat.le_of_ble_eq_true rfl) (Nat.le_of_ble_eq_true rfl) drOk41 ?_
  dsimp only [Tryd.f41, dr41, dd41, Option.getD_some]
  refine ev_start ?_
  by_cases h : acChk l = 0
  · cases hany : l.any (isC code) with
    | true =>
      have e : fidx code l = ((l.findIdx (isC code) : Nat) : Int) := by unfold fidx; rw [if_pos hany]
      have hlt : l.findIdx (isC code) < l.length := List.findIdx_lt_length_of_exists (by
        obtain ⟨x, hx, hc⟩ := List.any_eq_true.1 hany
        exact ⟨x, hx, hc⟩)
      obtain ⟨⟨c, n⟩, hcn⟩ : ∃ p, l[l.findIdx (isC code)]? = some p := ⟨_, List.getElem?_eq_getElem hlt⟩
      have ek : kindR code l = (n, 0) := by unfold kindR; rw [if_pos h, if_pos hany, hcn]; rfl
      have hg := acV_get hcn
      have h0 : ¬ (((l.findIdx (isC code) : Nat) : Int) < 0) := by omega
      simp (disch := (first | omega | assumption)) only [chkF_eq, at1_eq, h, e, ek, h0, idx_nat, List.length_map, hg, go_sem, Int.reduceEq, Int.reduceLT, Int.reduceLE, Int.reduceNeg, Nat.reduceAdd, Nat.reduceLT, Nat.reduceEqDiff, Nat.reduceMul, Nat.reduceLeDiff, reduceIte, Nat.reduceBEq, reduceCtorEq, evP_D, evD_guard, evD_cons, evD_zero, evD_nil]
    | false =>
      have e : fidx code l = -1 := by unfold fidx; rw [hany]; rfl
      have ek : kindR code l = (0, 4) := by unfold kindR; rw [if_pos h, hany]; rfl
      simp (disch := omega) only [chkF_eq, at1_eq, h, e, ek, go_sem, Int.reduceEq, Int.reduceLT, Int.reduceLE, Int.reduceNeg, Nat.reduceAdd, Nat.reduceLT, Nat.reduceEqDiff, Nat.reduceMul, Nat.reduceLeDiff, reduceIte, Nat.reduceBEq, reduceCtorEq, evP_D, evD_guard, evD_cons, evD_zero, evD_nil]
  · have ek : kindR code l = (0, acChk l) := by unfold kindR; rw [if_neg h]
    simp (disch := omega) only [chkF_eq, at1_eq, h, ek, go_sem, Int.reduceEq, Int.reduceLT, Int.reduceLE, Int.reduceNeg, Nat.reduceAdd, Nat.reduceLT, Nat.reduceEqDiff, Nat.reduceMul, Nat.reduceLeDiff, reduceIte, Nat.reduceBEq, reduceCtorEq, evP_D, evD_guard, evD_cons, evD_zero, evD_nil]
end Go.Proofs.YtdmkmbaaemhhhaaDoor
