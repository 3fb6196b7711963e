/-
  Steps of the proof of TopYear, joined: EarnP TopP PoE PoF Ins InsE PoG PoH.
-/
import Derived.Test.YtdmkmbaaemhhhaaDoorRnd
import Derived.Test.YtdmkmbaaemhhhaaDoorCal
import Derived.Test.YtdmkmbaaemhhhaaDoorYA
import Derived.Test.YtdmkmbaaemhhhaaDoorBkE
import Derived.Test.YtdmkmbaaemhhhaaDoorEnH
import Derived.Test.YtdmkmbaaemhhhaaDoorEvT
import Derived.Laws.CopyRow
import Derived.Lib.AppendZeros
import Derived.Lib.AppendZerosOnto
import Derived.Deep.AppendSrc
import Derived.Laws.Externs
import Derived.Laws.IdiomCopy
import Derived.Lib.Walk
import Derived.Shelf.RegionOpenPlain
import Derived.WalkKit
import Derived.Test.YtdmkmbaaemhhhaaDoorBkI
namespace Go.Proofs.YtdmkmbaaemhhhaaDoor.Earn
open Go.Proofs.YtdmkmbaaemhhhaaDoor
/-- the days that count -/
def dys (f t day : Int) : Int := if (if t < day then t else day) - f + 1 > 0 then (if t < day then t else day) - f + 1 else 0
def ear (a f t day : Int) : Int := Rnd.rnd (a * dys f t day) (t - f + 1) 2
/-- by the end of the k-th month -/
def F (a f t k : Int) : Int := if k = 0 then 0 else ear a f t (Cal.fm (Cal.mon f + k) - 1)
theorem dys_bd {f t day : Int} (h : f ≤ t) : 0 ≤ dys f t day ∧ dys f t day ≤ t - f + 1 := by
  unfold dys; split <;> split <;> omega
theorem dys_ref {f t day : Int} (h : f ≤ t) : dys f t day = (if t < day then t - f + 1 else if f ≤ day then day - f + 1 else 0) := by
  unfold dys; split <;> split <;> (try split) <;> omega
theorem prod_bd {a x : Int} (h0 : -1000000000000 ≤ a) (h1 : a ≤ 1000000000000) (h2 : 0 ≤ x) (h3 : x ≤ 292194) : -300000000000000000 ≤ a * x ∧ a * x ≤ 300000000000000000 := by
  have k1 : a * x ≤ 1000000000000 * x := Int.mul_le_mul_of_nonneg_right h1 h2
  have k2 : -1000000000000 * x ≤ a * x := Int.mul_le_mul_of_nonneg_right h0 h2
  omega
theorem rnd_bd {n d M : Int} (hd : 1 ≤ d) (h0 : -M ≤ n) (h1 : n ≤ M) (hM : 0 ≤ M) : -M ≤ Rnd.rnd n d 2 ∧ Rnd.rnd n d 2 ≤ M + 1 := by
  have h := Rnd.div_bd n hd h0 h1 hM
  rw [Rnd.rnd2]
  split <;> omega
theorem ear_bd {a f t day : Int} (h0 : -1000000000000 ≤ a) (h1 : a ≤ 1000000000000) (hf : 0 ≤ f) (ht : t ≤ 292193) (h : f ≤ t) : -300000000000000000 ≤ ear a f t day ∧ ear a f t day ≤ 300000000000000001 := by
  have hd := dys_bd (day := day) h
  have p := prod_bd h0 h1 hd.1 (by omega)
  exact rnd_bd (by omega) p.1 p.2 (by omega)
theorem F_bd {a f t k : Int} (h0 : -1000000000000 ≤ a) (h1 : a ≤ 1000000000000) (hf : 0 ≤ f) (ht : t ≤ 292193) (h : f ≤ t) : -300000000000000000 ≤ F a f t k ∧ F a f t k ≤ 300000000000000001 := by
  unfold F
  split
  · omega
  · exact ear_bd h0 h1 hf ht h
theorem vld_fm {k : Int} (h0 : 0 ≤ k) (h1 : k < 9600) : Cal.vld (1600 + k / 12) (1 + k % 12) 1 := by
  have := Cal.len_bd (1600 + k / 12) (1 + k % 12)
  unfold Cal.vld
  omega
theorem fm_day {k : Int} (h0 : 0 ≤ k) (h1 : k < 9600) : Cal.mon (Cal.fm k) = k ∧ Cal.dD (Cal.fm k) = 1 ∧ 0 ≤ Cal.fm k ∧ Cal.fm k ≤ 292193 := by
  have hv := vld_fm h0 h1
  obtain ⟨e1, e2, e3⟩ := Cal.date_of _ _ _ (Cal.fm k) hv rfl
  have hb := Cal.num_bd _ _ _ hv
  refine ⟨?_, e3, hb.1, hb.2⟩
  unfold Cal.mon
  rw [e1, e2]
  omega
theorem last_fm {n : Int} (h0 : 0 ≤ n) (h1 : n ≤ 292193) : Cal.last n = Cal.fm (Cal.mon n + 1) - 1 := by
  have hv := (Cal.date_ok n h0 h1).1
  have hd := Cal.day_fm n h0 h1
  rw [Cal.last_eq n h0 h1, Cal.fm_succ]
  have : Cal.ml (Cal.mon n) = Cal.len (Cal.dY n) (Cal.dM n) := by
    unfold Cal.ml Cal.mon
    unfold Cal.vld at hv
    rw [show 1600 + (12 * (Cal.dY n - 1600) + Cal.dM n - 1) / 12 = Cal.dY n by omega, show 1 + (12 * (Cal.dY n - 1600) + Cal.dM n - 1) % 12 = Cal.dM n by omega]
  omega
theorem add_fm {M j : Int} (h0 : 0 ≤ M) (h1 : M < 9600) (h2 : 0 ≤ M + j) (h3 : M + j < 9600) : Cal.add (Cal.fm M) j = Cal.fm (M + j) := by
  obtain ⟨e1, e2, _⟩ := fm_day h0 h1
  unfold Cal.add
  rw [e1, e2, if_pos ⟨h2, h3⟩, Cal.ofMon_fm]
  have := Cal.ml_bd (M + j)
  omega
theorem fm_le_day {n k : Int} (h0 : 0 ≤ n) (h1 : n ≤ 292193) : Cal.fm k ≤ n ↔ k ≤ Cal.mon n := by
  have hd := Cal.day_fm n h0 h1
  have hs := Cal.fm_succ (Cal.mon n)
  constructor
  · intro h
    rcases Int.lt_or_le (Cal.mon n) k with hk | hk
    · have := Cal.fm_le (Cal.mon n + 1) k (by omega); omega
    · exact hk
  · intro h
    have := Cal.fm_le k (Cal.mon n) h
    omega
end Go.Proofs.YtdmkmbaaemhhhaaDoor.Earn
namespace Go.Acc
open Go Go.Proofs.YtdmkmbaaemhhhaaDoor
set_option linter.unusedVariables false
set_option linter.unusedSimpArgs false
def c10 : ByteArray := ⟨#[49, 48]⟩
def c15 : ByteArray := ⟨#[49, 53]⟩
def c20 : ByteArray := ⟨#[50, 48]⟩
def c30 : ByteArray := ⟨#[51, 48]⟩
def c40 : ByteArray := ⟨#[52, 48]⟩
def c50 : ByteArray := ⟨#[53, 48]⟩
def plA : List (ByteArray × Int) := [(c10, 0), (c15, 0), (c20, 1), (c30, 2), (c40, 3), (c50, 4)]
def keyT (n : Nat) : ByteArray := (⟨#[107]⟩ : ByteArray) ++ decF 1 n
def mvX (n : Nat) (at_ a : Int) (to from_ : ByteArray) : En := (keyT n, at_, [(to, a), (from_, -a)])
def keyTB (n : Nat) : Bool := keyOk' (keyT n)
theorem keyT_ok : ∀ n : Fin 100, keyOk' (keyT n.1) = true := by decide +kernel
theorem keyT_inj : ∀ n m : Fin 100, keyT n.1 = keyT m.1 → n = m := by decide +kernel
theorem plA_ok : acChk plA = 0 := by
  unfold acChk plA
  simp only [acE, ByteArray.toList_eq]
  decide +kernel
theorem plA_has : hasA plA c10 = true ∧ hasA plA c15 = true ∧ hasA plA c20 = true ∧ hasA plA c30 = true ∧ hasA plA c40 = true ∧ hasA plA c50 = true := by decide +kernel
theorem codes_ok : codeOk c10 = true ∧ codeOk c15 = true ∧ codeOk c20 = true ∧ codeOk c30 = true ∧ codeOk c40 = true ∧ codeOk c50 = true := by decide +kernel
theorem enX_mv {n : Nat} {at_ a : Int} {to from_ : ByteArray} (hn : n < 100) (h0 : 0 ≤ at_) (h1 : at_ ≤ 292193) (ha : a ≠ 0) (ha0 : -1000000000000 ≤ a) (ha1 : a ≤ 1000000000000) (ht : codeOk to = true) (hf : codeOk from_ = true) (hne : to ≠ from_) : enX (mvX n at_ a to from_) = 0 := by
  have hk := keyT_ok ⟨n, hn⟩
  simp only at hk
  have hne' : decide (to = from_) = false := decide_eq_false hne
  have e1 : lnE [] [(to, a), (from_, -a)] = 0 := by
    simp only [lnE, ht, hf, hasC, List.any_nil, List.nil_append, List.any_cons, hne', Bool.or_false, Bool.true_eq_false, if_false, Bool.false_eq_true]
    rw [if_neg (fun h => h ⟨⟨ha0, ha1⟩, ha⟩), if_neg (fun h => h ⟨⟨by omega, by omega⟩, by omega⟩)]
  have e2 : lnSum [(to, a), (from_, -a)] 2 = 0 := by
    simp [lnSum]
    omega
  unfold enX mvX enE lnChk
  simp only [hk, e1, Bool.true_eq_false, if_false, List.length_cons, List.length_nil]
  rw [if_neg (fun h => h ⟨h0, h1⟩), if_neg (by omega), if_neg (fun h => h rfl), if_neg (fun h => by rcases h with h | h; omega; exact h e2)]
theorem known_mv {n : Nat} {at_ a : Int} {to from_ : ByteArray} (ht : hasA plA to = true) (hf : hasA plA from_ = true) : knownB plA (mvX n at_ a to from_) = true := by
  unfold knownB mvX
  simp [ht, hf]
theorem ofX_mv (c : ByteArray) (d : Int) (n : Nat) (at_ a : Int) (to from_ : ByteArray) : ofX c 0 d (mvX n at_ a to from_) = if 0 ≤ at_ ∧ at_ ≤ d then (if to = c then a else 0) + (if from_ = c then -a else 0) else 0 := by
  unfold ofX mvX
  simp only
  split
  · unfold ofL
    simp only [List.map_cons, List.map_nil, List.sum_cons, List.sum_nil, lnW, isC, decide_eq_true_eq]
    omega
  · rfl
/-- a new entry is posted -/
theorem post_mv {E : List En} {n : Nat} {at_ a : Int} {to from_ : ByteArray} (hb : bkChk plA E (-1) = 0) (hx : enX (mvX n at_ a to from_) = 0) (hno : ∀ y ∈ E, y.1 ≠ keyT n) (ht : hasA plA to = true) (hf : hasA plA from_ = true) (h0 : 0 ≤ at_) (hl : E.length < 60) :
    postE plA E (-1) (mvX n at_ a to from_) = 0 ∧ postB E (mvX n at_ a to from_) = insE (mvX n at_ a to from_) E := by
  have hg : getE (mvX n at_ a to from_).1 E = none := by
    unfold getE
    rw [List.find?_eq_none]
    intro y hy
    rw [decide_eq_true_eq]
    exact hno y hy
  have hk := known_mv (n := n) (at_ := at_) (a := a) ht hf
  constructor
  · unfold postE
    rw [if_neg (fun h => h hb), if_neg (fun h => h hx)]
    simp only [hg]
    rw [if_neg (by rw [hk]; simp), if_neg (by show ¬ at_ ≤ -1; omega), if_neg (by omega)]
  · unfold postB
    simp only [hg]
theorem plain_ok : bkChk plA [] (-1) = 0 := bkChk_iff.2 ⟨plA_ok, by omega, by simp, by simp, by simp [keysE], fun i k y z _ hy => by simp at hy⟩
end Go.Acc
namespace Go.Acc
open Go
def isK (k : ByteArray) (y : En) : Bool := decide (y.1 = k)
def fiE (k : ByteArray) (E : List En) : Int := if E.any (isK k) = true then ((E.findIdx (isK k) : Nat) : Int) else -1
theorem find_idx {α : Type} (p : α → Bool) : ∀ (E : List α) (y : α), E.find? p = some y → E.any p = true ∧ E[E.findIdx p]? = some y
  | [], _, h => by simp at h
  | x :: r, y, h => by
    rw [List.find?_cons] at h
    rw [List.findIdx_cons, List.any_cons]
    cases hp : p x with
    | true => rw [hp] at h; simp at h; subst h; exact ⟨rfl, rfl⟩
    | false =>
      rw [hp] at h
      obtain ⟨h1, h2⟩ := find_idx p r y h
      exact ⟨by rw [h1]; rfl, h2⟩
theorem fiE_some {k : ByteArray} {E : List En} {y : En} (h : getE k E = some y) : ∃ i : Nat, fiE k E = (i : Int) ∧ E[i]? = some y := by
  obtain ⟨h1, h2⟩ := find_idx (isK k) E y h
  exact ⟨_, by unfold fiE; rw [if_pos h1], h2⟩
theorem fiE_none {k : ByteArray} {E : List En} (h : getE k E = none) : fiE k E = -1 := by
  unfold fiE
  rw [if_neg]
  intro ha
  obtain ⟨y, hy, hp⟩ := List.any_eq_true.1 ha
  exact getE_none h y hy (of_decide_eq_true hp)
def bsB (x : En) (E : List En) : Bool := match E[posE x E]? with
  | some y => decide (cmpE y x = 0)
  | none => false
end Go.Acc
namespace Go.Proofs.YtdmkmbaaemhhhaaDoor
open Go Go.Ev Go.RowKit Go.Acc
set_option maxHeartbeats 4000000
set_option linter.unusedSimpArgs false
set_option linter.unusedVariables false
attribute [local go_sem] mutV getB mvB bkB V.mv V.mvL V.bk V.bkL Blk.mv Blk.bk posN nmN backN noDup app_writes setHL_nil setHL_cons postM_ret postM_normal resM hasB_nil hasB_cons St.mut names_nil names_cons sortV cellOf mkX_M mkX_S mkX_ln lnL_at ms0_mt ms0_st V.lone V.loneL List.zip_cons_cons List.zip_nil_left Option.isNone_none bornV subE partR unB bytesW boundsV ownP sliceW copyV clearV lenM takeV tk1 mapsV mkMapV hintOk lookV updV mapKE keyOk V.key app_lend callW_fn lendV postL_ret postL_normal postT_ret postT_normal takeR St.lent mkX_L bin_eql_vz bin_eql_zv bin_eql_rz bin_eql_zr bin_eql_zz bin_neq_vz bin_neq_zv bin_neq_rz bin_neq_zr bin_neq_zz eqH nilEq nonE plainI gOf_bool gOf_skip g_some g_none Int.ofNat_zero Int.cast_ofNat_Int Bool.false_and Bool.and_false sliceV noBox elemsZ V.scrub V.scrubL Blk.scrub appendV isSlice maxLen_eq leT List.contains_nil List.contains_cons nvL_at fzL_at fillV V.plain V.plainL Blk.plain List.size_toArray mapO_nil mapO_cons Option.isNone_some beqT beqF oI_not mkX_e phi_nil phi_cons bin_eql_bool bin_neq_bool bin_eql_agg bin_neq_agg eqV eqFs eqK_int eqK_bool' eqK_str mkX_T mkX_Φ mkX_n mkX_f mkX_d mkX_r nv0_at fz0_at evQ_dr evP_W evW_nil evW_cons evW_guard okW_eq tame_none tame_new tame_write wb_none wb_new wb_write okU_some offW_none offW_some touchOf V.noRef V.noRefL Option.isSome_some Option.isSome_none mild_none mild_new Option.getD_some Option.getD_none evQ_seq evQ_region evQ_block evQ_cond evQ_ret evQ_skip evQ_exit evO_cons evO_nil evO_guard freezeL_nil oS_some oS_none oS_ite oS_ite' oB_bool oI_true oI_false oE_normal oE_exit oE_ret bQ_normal bQ_ret bQ_exit lQ_normal lQ_ret lQ_exit List.zipIdx_cons List.zipIdx_nil List.map_cons List.map_nil evalOp opd_const opd_tmp opd_func ofC_int ofC_bool ofC_str ofC_nil app_none app_new app_write app_change putE_some putE_none setA_cons setA_nil setH_cons setH_nil mapA_cons mapA_nil look_cons look_nil e_mk h_mk drop_nil drop_mk keep_mk dstOk_some dstOk_none guardT_eq true_and and_true Bool.not_false Bool.not_true selB_true selB_false mem_nil mem_cons kpL_nil kpL_cons drL_nil drL_cons closed_mk V.refsIn V.refsInL Blk.refsIn List.all_cons List.all_nil lenV bin_add bin_sub bin_mul bin_quo bin_rem bin_eql bin_neq bin_lss bin_leq bin_gtr bin_geq un_neg un_not post_ret post_normal St.init Bool.false_eq_true List.length_map Bool.or_false Bool.or_true Bool.false_or Bool.true_or beq_self_eq_true Option.map_some Option.map_none Option.bind_some List.getElem?_cons_zero List.getElem?_cons_succ scalar stor isAggV V.cells List.cons_append List.nil_append if_true if_false wrap_of callV V.dataL V.data Bool.and_true Bool.true_and fresh names V.ren V.renL retV resV packL packV packC getBlks wrapR subV putV decide_true decide_false TK.agg List.length_cons List.length_nil List.take_succ_cons List.take_zero List.drop_succ_cons List.drop_zero List.take_nil List.drop_nil Nat.zero_add Nat.add_zero List.append_nil List.getElem?_nil elemsV ro ro0 ro1 roC ty1 ty2 ty3 ty4 ty5 ty6 ty7 ty8 ty9 ty10 ty11 ty12 ty13 ty14 ty15 ty16 ty17 ty18 ty19 ty21 ty22 ty23 ty24 ty26 ty27 ty28 ty29 ty30 ty31 ty32 ty33 ty34 ty35 ty36 ty37 ty38 ty39 ty40 ty41 ty42 ty44 ty45 ty47 ty49 ty51 ty53 ty54 ty55 ty56 ty57 ty58 ty59 ty60 ty61 ty62 ty63 ty64 ty65 ty66 ty67 ty68 ty69 ty70 ty71 ty72 ty73 ty74 ty75 ty76 ty77 ty78 ty79 ty80 ty81 ty82 ty83 ty84 ty85 ty86 ty87 ty88 ty89 ty90 ty92 ty93 ty94 ty95 ty96 ty97 ty98 ty99 ty100 ty101 ty102 ty103 ty104 ty105 ty107 ty108 ty109 ty110 ty111 ty112 ty113 ty114 ty115 ty116 ty117 ty118 ty119 ty123 ty124 ty125 ty126 ty127 ty128 ty129 ty130 ty131 ty132 ty133 ty135 ty136 ty137 ty138 ty139 ty141 ty142 ty143 ty144 ty146 ty147 ty148 ty149 ty153 ty154 ty155 ty156 ty157 ty158 ty159 ty160 ty161 eqs29 eqs61 eqs79 eqs94
theorem indexE_sound {J : World → Prop} (hJ : Stable J) (g : FuncId) (cs : List V) (G : List V → Option (V × List Ev.Blk)) (hG : Snd Tryd.prog J g G) (hd : V.dataL cs = true) (p : En → Bool) (l : List En) (hp : ∀ n ∈ l, G (enW n :: cs) = some (.bool (p n), [])) :
    SoundAt Tryd.prog J 78 [.row 3 (l.map enW), .fn g cs] (.int .i64 (if l.any p = true then ((l.findIdx p : Nat) : Int) else -1)) [] := by
  refine SoundAt.row 0 rfl (callOk Tryd.func78 rfl rfl) fun hlen => ?_
  simp only [maxLen, List.length_map] at hlen
  refine evFn (l := [(g, G)]) (nv := nv0) (fz := fz0) (dr := dr78) (dd := dd78) (lam := []) (ms := ms0) ⟨hG, trivial⟩ hJ trivial ms0_ok Tryd.func78 rfl rfl (Nat.le_of_ble_eq_true rfl) (Nat.le_of_ble_eq_true rfl) drOk78 ?_
  dsimp only [Tryd.f78, dr78, dd78, Option.getD_some]
  refine ev_start ?_
  simp (disch := omega) only [go_sem, Int.reduceEq, Int.reduceLT, Int.reduceLE, Int.reduceNeg, Nat.reduceAdd, Nat.reduceLT, Nat.reduceEqDiff, Nat.reduceMul, Nat.reduceLeDiff, reduceIte, Nat.reduceBEq, reduceCtorEq, evP_D, evD_guard, evD_cons, evD_zero, evD_nil]
  refine evQ_loop [0, 1, 7, 8] [] (fun σ => ∃ k : Nat, (k ≤ l.length ∧ ∀ i (h : i < l.length), i < k → p l[i] = false) ∧ σ = ⟨[(0, .row 3 (l.map enW)), (1, .fn g cs), (7, .int .i64 l.length), (8, .int .i64 k)], []⟩) (fun σ => l.length - (match Ev.look 8 σ.env with | some (.int _ n) => n.toNat | _ => 0)) ?_ ?_
  · simp only [go_sem, Int.reduceEq, Int.reduceLT, Int.reduceLE, Int.reduceNeg, Nat.reduceAdd, Nat.reduceLT, Nat.reduceEqDiff, Nat.reduceMul, Nat.reduceLeDiff, reduceIte, Nat.reduceBEq, reduceCtorEq, evP_D, evD_guard, evD_cons, evD_zero, evD_nil]
    exact ⟨refsInL_data hd, 0, ⟨Nat.zero_le _, fun _ _ h => by omega⟩, rfl⟩
  · rintro σ ⟨k, ⟨hk, hall⟩, rfl⟩
    by_cases hlt : k < l.length
    · have hlt' : (k : Int) < l.length := by omega
      have hg : (l.map enW)[k]? = some (.agg [.str l[k].1, .int .i64 l[k].2.1, .row 2 (l[k].2.2.map acV)]) := enW_get (c := l[k].1) (d := l[k].2.1) (l := l[k].2.2) (List.getElem?_eq_getElem hlt)
      have hpk := hp l[k] (List.getElem_mem hlt)
      simp only [enW] at hpk
      cases hb : p l[k] with
      | true =>
        rw [hb] at hpk
        have hany : l.any p = true := List.any_eq_true.2 ⟨l[k], List.getElem_mem hlt, hb⟩
        have hidx : l.findIdx p = k := (List.findIdx_eq hlt).2 ⟨hb, fun j hj => hall j (by omega) hj⟩
        simp (disch := (first | omega | assumption)) only [hlt', idx_nat, List.length_map, hg, hpk, hd, V.dataL, V.data, hany, hidx, go_sem, Int.reduceEq, Int.reduceLT, Int.reduceLE, Int.reduceNeg, Nat.reduceAdd, Nat.reduceLT, Nat.reduceEqDiff, Nat.reduceMul, Nat.reduceLeDiff, reduceIte, Nat.reduceBEq, reduceCtorEq, evP_D, evD_guard, evD_cons, evD_zero, evD_nil]
      | false =>
        rw [hb] at hpk
        simp (disch := (first | omega | assumption)) only [hlt', idx_nat, List.length_map, hg, hpk, hd, refsInL_data hd, scrubL_data hd, V.dataL, V.data, go_sem, Int.reduceEq, Int.reduceLT, Int.reduceLE, Int.reduceNeg, Nat.reduceAdd, Nat.reduceLT, Nat.reduceEqDiff, Nat.reduceMul, Nat.reduceLeDiff, reduceIte, Nat.reduceBEq, reduceCtorEq, evP_D, evD_guard, evD_cons, evD_zero, evD_nil]
        exact ⟨⟨k + 1, ⟨hlt, fun i hi hik => by
          by_cases e : i = k
          · subst e; exact hb
          · exact hall i hi (by omega)⟩, rfl⟩, by show l.length - ((k : Int) + 1).toNat < l.length - (k : Int).toNat; omega⟩
    · have hk' : k = l.length := by omega
      subst hk'
      have hlt' : ¬ ((l.length : Int) < l.length) := by omega
      have hany : l.any p = false := by
        rw [List.any_eq_false]
        intro x hx
        obtain ⟨i, hi, rfl⟩ := List.mem_iff_getElem.1 hx
        simp [hall i hi hi]
      simp (disch := (first | omega | assumption)) only [hlt', hany, go_sem, Int.reduceEq, Int.reduceLT, Int.reduceLE, Int.reduceNeg, Nat.reduceAdd, Nat.reduceLT, Nat.reduceEqDiff, Nat.reduceMul, Nat.reduceLeDiff, reduceIte, Nat.reduceBEq, reduceCtorEq, evP_D, evD_guard, evD_cons, evD_zero, evD_nil]
def bfind1F : List V → Option (V × List Ev.Blk)
  | [.agg [.str c, .int .i64 n, .row 2 ls], .rd (.str k) 0] => (unAc ls).map fun _ => (.bool (decide (c = k)), [])
  | _ => none
theorem bfind1_snd {J : World → Prop} (hJ : Stable J) : Snd Tryd.prog J 79 bfind1F := by
  intro args r bs h
  unfold bfind1F at h
  split at h
  · rename_i c n ls k
    simp only [Option.map_eq_some_iff] at h
    obtain ⟨l, hl, h⟩ := h
    obtain ⟨rfl, rfl⟩ := some_pair (congrArg some h)
    rw [unAc_eq hl]
    refine evFn (l := []) (nv := nv0) (fz := fz0) (dr := dr79) (dd := dd79) (lam := []) (ms := ms0) trivial hJ trivial ms0_ok Tryd.func79 rfl rfl (Nat.le_of_ble_eq_true rfl) (Nat.le_of_ble_eq_true rfl) drOk79 ?_
    dsimp only [Tryd.f79, dr79, dd79, Option.getD_some]
    refine ev_start ?_
    simp (disch := omega) only [bin_eql_str, go_sem, Int.reduceEq, Int.reduceLT, Int.reduceLE, Int.reduceNeg, Nat.reduceAdd, Nat.reduceLT, Nat.reduceEqDiff, Nat.reduceMul, Nat.reduceLeDiff, reduceIte, Nat.reduceBEq, reduceCtorEq, evP_D, evD_guard, evD_cons, evD_zero, evD_nil]
  · cases h
theorem bfind_sound {J : World → Prop} (hJ : Stable J) (A : List (ByteArray × Int)) (E : List En) (s : Int) (k : ByteArray) : SoundAt Tryd.prog J 44 [bkV A E s, .str k] (.int .i64 (fiE k E)) [] := by
  have hI := indexE_sound hJ 79 [.rd (.str k) 0] bfind1F (bfind1_snd hJ) rfl (isK k) E fun n _ => by simp only [bfind1F, enW, unAc_map, Option.map_some]; rfl
  unfold bkV
  refine evFn (l := [(78, at1 [.row 3 (E.map enW), .fn 79 [.rd (.str k) 0]] (.int .i64 (fiE k E), []))]) (nv := nv0) (fz := fz0) (dr := dr44) (dd := dd44) (lam := []) (ms := ms0) ⟨at1_snd hI, trivial⟩ hJ trivial ms0_ok Tryd.func44 rfl rfl (Nat.le_of_ble_eq_true rfl) (Nat.le_of_ble_eq_true rfl) drOk44 ?_
  dsimp only [Tryd.f44, dr44, dd44, Option.getD_some]
  refine ev_start ?_
  simp (disch := omega) only [at1_eq, List.mapM_cons, List.mapM_nil, Option.bind_eq_bind, Option.pure_def, Option.bind_some, go_sem, Int.reduceEq, Int.reduceLT, Int.reduceLE, Int.reduceNeg, Nat.reduceAdd, Nat.reduceLT, Nat.reduceEqDiff, Nat.reduceMul, Nat.reduceLeDiff, reduceIte, Nat.reduceBEq, reduceCtorEq, evP_D, evD_guard, evD_cons, evD_zero, evD_nil]
theorem esame_sound {J : World → Prop} (hJ : Stable J) (x y : En) : SoundAt Tryd.prog J 72 [enW x, enW y] (.bool (decide (x = y))) [] := by
  obtain ⟨k, d, l⟩ := x
  obtain ⟨k', d', l'⟩ := y
  unfold enW
  by_cases hk : k = k'
  · subst hk
    by_cases hd : d = d'
    · subst hd
      have e : decide ((k, d, l) = (k, d, l')) = decide (l = l') := by simp
      refine evFn (l := [(35, eqLF)]) (nv := nv0) (fz := fz0) (dr := dr72) (dd := dd72) (lam := []) (ms := ms0) ⟨eqL_snd hJ, trivial⟩ hJ trivial ms0_ok Tryd.func72 rfl rfl (Nat.le_of_ble_eq_true rfl) (Nat.le_of_ble_eq_true rfl) drOk72 ?_
      dsimp only [Tryd.f72, dr72, dd72, Option.getD_some]
      refine ev_start ?_
      simp (disch := omega) only [eqLF_rows, bin_eql_str, decide_true, e, go_sem, Int.reduceEq, Int.reduceLT, Int.reduceLE, Int.reduceNeg, Nat.reduceAdd, Nat.reduceLT, Nat.reduceEqDiff, Nat.reduceMul, Nat.reduceLeDiff, reduceIte, Nat.reduceBEq, reduceCtorEq, evP_D, evD_guard, evD_cons, evD_zero, evD_nil]
    · have e : decide ((k, d, l) = (k, d', l')) = false := by simp [hd]
      refine evFn (l := [(35, eqLF)]) (nv := nv0) (fz := fz0) (dr := dr72) (dd := dd72) (lam := []) (ms := ms0) ⟨eqL_snd hJ, trivial⟩ hJ trivial ms0_ok Tryd.func72 rfl rfl (Nat.le_of_ble_eq_true rfl) (Nat.le_of_ble_eq_true rfl) drOk72 ?_
      dsimp only [Tryd.f72, dr72, dd72, Option.getD_some]
      refine ev_start ?_
      simp (disch := omega) only [eqLF_rows, bin_eql_str, decide_true, hd, e, go_sem, Int.reduceEq, Int.reduceLT, Int.reduceLE, Int.reduceNeg, Nat.reduceAdd, Nat.reduceLT, Nat.reduceEqDiff, Nat.reduceMul, Nat.reduceLeDiff, reduceIte, Nat.reduceBEq, reduceCtorEq, evP_D, evD_guard, evD_cons, evD_zero, evD_nil]
  · have e : decide ((k, d, l) = (k', d', l')) = false := by simp [hk]
    have hk' := decide_eq_false hk
    refine evFn (l := [(35, eqLF)]) (nv := nv0) (fz := fz0) (dr := dr72) (dd := dd72) (lam := []) (ms := ms0) ⟨eqL_snd hJ, trivial⟩ hJ trivial ms0_ok Tryd.func72 rfl rfl (Nat.le_of_ble_eq_true rfl) (Nat.le_of_ble_eq_true rfl) drOk72 ?_
    dsimp only [Tryd.f72, dr72, dd72, Option.getD_some]
    refine ev_start ?_
    simp (disch := omega) only [eqLF_rows, bin_eql_str, hk', e, go_sem, Int.reduceEq, Int.reduceLT, Int.reduceLE, Int.reduceNeg, Nat.reduceAdd, Nat.reduceLT, Nat.reduceEqDiff, Nat.reduceMul, Nat.reduceLeDiff, reduceIte, Nat.reduceBEq, reduceCtorEq, evP_D, evD_guard, evD_cons, evD_zero, evD_nil]
end Go.Proofs.YtdmkmbaaemhhhaaDoor
namespace Go.Acc
open Go
theorem posE_mid {x : En} {E : List En} (hs : srtE E) {h : Nat} {y : En} (hy : E[h]? = some y) : (ltB y x = true → ∀ (k : Nat) z, k ≤ h → E[k]? = some z → ltB z x = true) ∧ (ltB y x = false → ∀ (k : Nat) z, h ≤ k → E[k]? = some z → ltB z x = false) := by
  constructor
  · intro hl k z hk hz
    rcases Nat.lt_or_ge k h with hkh | hkh
    · exact ltB_trans (hs k h z y hkh hz hy) hl
    · have e : k = h := by omega
      subst e
      rw [hy] at hz
      cases hz
      exact hl
  · intro hl k z hk hz
    rcases Nat.lt_or_ge h k with hkh | hkh
    · cases hzx : ltB z x with
      | false => rfl
      | true =>
        have := ltB_trans (hs h k y z hkh hy hz) hzx
        rw [hl] at this
        cases this
    · have e : k = h := by omega
      subst e
      rw [hy] at hz
      cases hz
      exact hl
end Go.Acc
namespace Go.Proofs.YtdmkmbaaemhhhaaDoor
open Go Go.Ev Go.RowKit Go.Acc
set_option maxHeartbeats 4000000
set_option linter.unusedSimpArgs false
set_option linter.unusedVariables false
attribute [local go_sem] mutV getB mvB bkB V.mv V.mvL V.bk V.bkL Blk.mv Blk.bk posN nmN backN noDup app_writes setHL_nil setHL_cons postM_ret postM_normal resM hasB_nil hasB_cons St.mut names_nil names_cons sortV cellOf mkX_M mkX_S mkX_ln lnL_at ms0_mt ms0_st V.lone V.loneL List.zip_cons_cons List.zip_nil_left Option.isNone_none bornV subE partR unB bytesW boundsV ownP sliceW copyV clearV lenM takeV tk1 mapsV mkMapV hintOk lookV updV mapKE keyOk V.key app_lend callW_fn lendV postL_ret postL_normal postT_ret postT_normal takeR St.lent mkX_L bin_eql_vz bin_eql_zv bin_eql_rz bin_eql_zr bin_eql_zz bin_neq_vz bin_neq_zv bin_neq_rz bin_neq_zr bin_neq_zz eqH nilEq nonE plainI gOf_bool gOf_skip g_some g_none Int.ofNat_zero Int.cast_ofNat_Int Bool.false_and Bool.and_false sliceV noBox elemsZ V.scrub V.scrubL Blk.scrub appendV isSlice maxLen_eq leT List.contains_nil List.contains_cons nvL_at fzL_at fillV V.plain V.plainL Blk.plain List.size_toArray mapO_nil mapO_cons Option.isNone_some beqT beqF oI_not mkX_e phi_nil phi_cons bin_eql_bool bin_neq_bool bin_eql_agg bin_neq_agg eqV eqFs eqK_int eqK_bool' eqK_str mkX_T mkX_Φ mkX_n mkX_f mkX_d mkX_r nv0_at fz0_at evQ_dr evP_W evW_nil evW_cons evW_guard okW_eq tame_none tame_new tame_write wb_none wb_new wb_write okU_some offW_none offW_some touchOf V.noRef V.noRefL Option.isSome_some Option.isSome_none mild_none mild_new Option.getD_some Option.getD_none evQ_seq evQ_region evQ_block evQ_cond evQ_ret evQ_skip evQ_exit evO_cons evO_nil evO_guard freezeL_nil oS_some oS_none oS_ite oS_ite' oB_bool oI_true oI_false oE_normal oE_exit oE_ret bQ_normal bQ_ret bQ_exit lQ_normal lQ_ret lQ_exit List.zipIdx_cons List.zipIdx_nil List.map_cons List.map_nil evalOp opd_const opd_tmp opd_func ofC_int ofC_bool ofC_str ofC_nil app_none app_new app_write app_change putE_some putE_none setA_cons setA_nil setH_cons setH_nil mapA_cons mapA_nil look_cons look_nil e_mk h_mk drop_nil drop_mk keep_mk dstOk_some dstOk_none guardT_eq true_and and_true Bool.not_false Bool.not_true selB_true selB_false mem_nil mem_cons kpL_nil kpL_cons drL_nil drL_cons closed_mk V.refsIn V.refsInL Blk.refsIn List.all_cons List.all_nil lenV bin_add bin_sub bin_mul bin_quo bin_rem bin_eql bin_neq bin_lss bin_leq bin_gtr bin_geq un_neg un_not post_ret post_normal St.init Bool.false_eq_true List.length_map Bool.or_false Bool.or_true Bool.false_or Bool.true_or beq_self_eq_true Option.map_some Option.map_none Option.bind_some List.getElem?_cons_zero List.getElem?_cons_succ scalar stor isAggV V.cells List.cons_append List.nil_append if_true if_false wrap_of callV V.dataL V.data Bool.and_true Bool.true_and fresh names V.ren V.renL retV resV packL packV packC getBlks wrapR subV putV decide_true decide_false TK.agg List.length_cons List.length_nil List.take_succ_cons List.take_zero List.drop_succ_cons List.drop_zero List.take_nil List.drop_nil Nat.zero_add Nat.add_zero List.append_nil List.getElem?_nil elemsV ro ro0 ro1 roC ty1 ty2 ty3 ty4 ty5 ty6 ty7 ty8 ty9 ty10 ty11 ty12 ty13 ty14 ty15 ty16 ty17 ty18 ty19 ty21 ty22 ty23 ty24 ty26 ty27 ty28 ty29 ty30 ty31 ty32 ty33 ty34 ty35 ty36 ty37 ty38 ty39 ty40 ty41 ty42 ty44 ty45 ty47 ty49 ty51 ty53 ty54 ty55 ty56 ty57 ty58 ty59 ty60 ty61 ty62 ty63 ty64 ty65 ty66 ty67 ty68 ty69 ty70 ty71 ty72 ty73 ty74 ty75 ty76 ty77 ty78 ty79 ty80 ty81 ty82 ty83 ty84 ty85 ty86 ty87 ty88 ty89 ty90 ty92 ty93 ty94 ty95 ty96 ty97 ty98 ty99 ty100 ty101 ty102 ty103 ty104 ty105 ty107 ty108 ty109 ty110 ty111 ty112 ty113 ty114 ty115 ty116 ty117 ty118 ty119 ty123 ty124 ty125 ty126 ty127 ty128 ty129 ty130 ty131 ty132 ty133 ty135 ty136 ty137 ty138 ty139 ty141 ty142 ty143 ty144 ty146 ty147 ty148 ty149 ty153 ty154 ty155 ty156 ty157 ty158 ty159 ty160 ty161 eqs29 eqs61 eqs79 eqs94
theorem half_shr (n : Nat) : binV .shr (.int .u64 ((n : Nat) : Int)) (.int .u64 1) = some (.int .u64 ((n / 2 : Nat) : Int)) := by
  have h : (2 ^ (min (Int.toNat 1) IntKind.u64.bits) : Int) = 2 := rfl
  have e : binV .shr (.int .u64 ((n : Nat) : Int)) (.int .u64 1) = some (.int .u64 (Int.fdiv ((n : Nat) : Int) (2 ^ (min (Int.toNat 1) IntKind.u64.bits)))) := by unfold binV; simp
  rw [e, h, Int.fdiv_eq_ediv_of_nonneg _ (by omega)]
  rfl
set_option maxHeartbeats 4000000 in
theorem bse_sound {J : World → Prop} (hJ : Stable J) (E : List En) (x : En) (hs : srtE E) (hE : ∀ y ∈ E, 0 ≤ y.2.1 ∧ y.2.1 ≤ 292193) (hx : 0 ≤ x.2.1 ∧ x.2.1 ≤ 292193) (hl : E.length ≤ 60) :
    SoundAt Tryd.prog J 73 [.row 3 (E.map enW), enW x, .fn 51 []] (.tup [.int .i64 (posE x E), .bool (bsB x E)]) [] := by
  obtain ⟨xk, xd, xl⟩ := x
  simp only at hx
  unfold enW
  refine evFn (l := [(51, cmpF)]) (nv := nv0) (fz := fz0) (dr := dr73) (dd := dd73) (lam := []) (ms := ms0) ⟨cmp_snd hJ, trivial⟩ hJ trivial ms0_ok Tryd.func73 rfl rfl (Nat.le_of_ble_eq_true rfl) (Nat.le_of_ble_eq_true rfl) drOk73 ?_
  dsimp only [Tryd.f73, dr73, dd73, Option.getD_some]
  refine ev_start ?_
  simp (disch := omega) only [List.length_map, go_sem, Int.reduceEq, Int.reduceLT, Int.reduceLE, Int.reduceNeg, Nat.reduceAdd, Nat.reduceLT, Nat.reduceEqDiff, Nat.reduceMul, Nat.reduceLeDiff, reduceIte, Nat.reduceBEq, reduceCtorEq, evP_D, evD_guard, evD_cons, evD_zero, evD_nil]
  refine evQ_loop [0, 2, 4, 8, 9, 10] [32] (fun σ => ∃ i j : Nat, (i ≤ j ∧ j ≤ E.length ∧ (∀ (k : Nat) y, k < i → E[k]? = some y → ltB y (xk, xd, xl) = true) ∧ (∀ (k : Nat) y, j ≤ k → E[k]? = some y → ltB y (xk, xd, xl) = false)) ∧
      σ = ⟨[(0, .row 3 (E.map enW)), (2, .fn 51 []), (4, .ptr 32 0), (8, .int .i64 E.length), (9, .int .i64 i), (10, .int .i64 j)], [(32, .box (.agg [.str xk, .int .i64 xd, .row 2 (xl.map acV)]))]⟩)
    (fun σ => (match Ev.look 10 σ.env with | some (.int _ n) => n.toNat | _ => 0) - (match Ev.look 9 σ.env with | some (.int _ n) => n.toNat | _ => 0)) ?_ ?_
  · simp only [go_sem, Int.reduceEq, Int.reduceLT, Int.reduceLE, Int.reduceNeg, Nat.reduceAdd, Nat.reduceLT, Nat.reduceEqDiff, Nat.reduceMul, Nat.reduceLeDiff, reduceIte, Nat.reduceBEq, reduceCtorEq, evP_D, evD_guard, evD_cons, evD_zero, evD_nil]
    exact ⟨0, E.length, ⟨Nat.zero_le _, Nat.le_refl _, fun _ _ h => by omega, fun k y hk hy => by have := (List.getElem?_eq_some_iff.1 hy).1; omega⟩, rfl⟩
  · rintro σ ⟨i, j, ⟨hij, hj, h1, h2⟩, rfl⟩
    by_cases hlt : i < j
    · have hlt' : (i : Int) < j := by omega
      have hlt1 : (i + j) / 2 < E.length := by omega
      obtain ⟨⟨c, d, l⟩, hcn⟩ : ∃ p, E[(i + j) / 2]? = some p := ⟨_, List.getElem?_eq_getElem hlt1⟩
      have hg := enW_get hcn
      have hdd := hE _ (List.mem_of_getElem? hcn)
      simp only at hdd
      have hc := cmpF_eq (a := c) (b := xk) (d := d) (e := xd) (l := l) (m := xl) hdd hx
      have w1 : IntKind.i64.wrap ((i : Int) + (j : Int)) = ((i + j : Nat) : Int) := by rw [IntKind.wrap_i64]; omega
      have w2 : IntKind.u64.wrap ((i + j : Nat) : Int) = ((i + j : Nat) : Int) := by simp [IntKind.wrap, IntKind.bits, IntKind.signed]; omega
      have w3 : IntKind.i64.wrap (((i + j) / 2 : Nat) : Int) = (((i + j) / 2 : Nat) : Int) := by rw [IntKind.wrap_i64]; omega
      have hm := posE_mid (x := (xk, xd, xl)) hs hcn
      cases hb : ltB (c, d, l) (xk, xd, xl) with
      | true =>
        have hneg : cmpE (c, d, l) (xk, xd, xl) < 0 := by
          have := (cmpE_ge (c, d, l) (xk, xd, xl))
          rw [hb] at this
          simp only [reduceCtorEq, iff_false] at this
          omega
        simp (disch := (first | omega | assumption)) only [hlt', w1, w2, w3, half_shr, idx_nat, List.length_map, hg, hc, hneg, go_sem, Int.reduceEq, Int.reduceLT, Int.reduceLE, Int.reduceNeg, Nat.reduceAdd, Nat.reduceLT, Nat.reduceEqDiff, Nat.reduceMul, Nat.reduceLeDiff, reduceIte, Nat.reduceBEq, reduceCtorEq, evP_D, evD_guard, evD_cons, evD_zero, evD_nil]
        refine ⟨⟨(i + j) / 2 + 1, j, ⟨by omega, hj, fun k y hk hy => hm.1 hb k y (by omega) hy, h2⟩, rfl⟩, ?_⟩
        have e3 : ((((i + j) / 2 : Nat) : Int) + 1).toNat = (i + j) / 2 + 1 := by omega
        rw [e3, Int.toNat_natCast, Int.toNat_natCast]
        omega
      | false =>
        have hneg : ¬ cmpE (c, d, l) (xk, xd, xl) < 0 := by
          have := (cmpE_ge (c, d, l) (xk, xd, xl)).2 hb
          omega
        simp (disch := (first | omega | assumption)) only [hlt', w1, w2, w3, half_shr, idx_nat, List.length_map, hg, hc, hneg, go_sem, Int.reduceEq, Int.reduceLT, Int.reduceLE, Int.reduceNeg, Nat.reduceAdd, Nat.reduceLT, Nat.reduceEqDiff, Nat.reduceMul, Nat.reduceLeDiff, reduceIte, Nat.reduceBEq, reduceCtorEq, evP_D, evD_guard, evD_cons, evD_zero, evD_nil]
        refine ⟨⟨i, (i + j) / 2, ⟨by omega, by omega, h1, fun k y hk hy => hm.2 hb k y hk hy⟩, rfl⟩, ?_⟩
        rw [Int.toNat_natCast, Int.toNat_natCast, Int.toNat_natCast]
        omega
    · have hij' : i = j := by omega
      subst hij'
      have hlt' : ¬ ((i : Int) < (i : Int)) := by omega
      have hp := posE_uniq (xk, xd, xl) E i hj h1 h2
      rw [hp]
      by_cases hi : i < E.length
      · have hi' : (i : Int) < E.length := by omega
        obtain ⟨⟨c, d, l⟩, hcn⟩ : ∃ p, E[i]? = some p := ⟨_, List.getElem?_eq_getElem hi⟩
        have hg := enW_get hcn
        have hdd := hE _ (List.mem_of_getElem? hcn)
        simp only at hdd
        have hc := cmpF_eq (a := c) (b := xk) (d := d) (e := xd) (l := l) (m := xl) hdd hx
        have hbs : bsB (xk, xd, xl) E = decide (cmpE (c, d, l) (xk, xd, xl) = 0) := by unfold bsB; rw [hp, hcn]
        by_cases h0 : cmpE (c, d, l) (xk, xd, xl) = 0
        · have h0' := decide_eq_true h0
          simp (disch := (first | omega | assumption)) only [hlt', hi', idx_nat, List.length_map, hg, hc, hbs, h0, go_sem, Int.reduceEq, Int.reduceLT, Int.reduceLE, Int.reduceNeg, Nat.reduceAdd, Nat.reduceLT, Nat.reduceEqDiff, Nat.reduceMul, Nat.reduceLeDiff, reduceIte, Nat.reduceBEq, reduceCtorEq, evP_D, evD_guard, evD_cons, evD_zero, evD_nil]
        · have h0' := decide_eq_false h0
          simp (disch := (first | omega | assumption)) only [hlt', hi', idx_nat, List.length_map, hg, hc, hbs, h0, go_sem, Int.reduceEq, Int.reduceLT, Int.reduceLE, Int.reduceNeg, Nat.reduceAdd, Nat.reduceLT, Nat.reduceEqDiff, Nat.reduceMul, Nat.reduceLeDiff, reduceIte, Nat.reduceBEq, reduceCtorEq, evP_D, evD_guard, evD_cons, evD_zero, evD_nil]
      · have hi' : ¬ ((i : Int) < E.length) := by omega
        have hbs : bsB (xk, xd, xl) E = false := by unfold bsB; rw [hp, List.getElem?_eq_none (by omega)]
        simp (disch := (first | omega | assumption)) only [hlt', hi', hbs, go_sem, Int.reduceEq, Int.reduceLT, Int.reduceLE, Int.reduceNeg, Nat.reduceAdd, Nat.reduceLT, Nat.reduceEqDiff, Nat.reduceMul, Nat.reduceLeDiff, reduceIte, Nat.reduceBEq, reduceCtorEq, evP_D, evD_guard, evD_cons, evD_zero, evD_nil]
end Go.Proofs.YtdmkmbaaemhhhaaDoor
namespace Go.Ev
open Go Go.RowKit
theorem run_copy_k {P : Program} (w : World) (dT sT ty elem : TypeId) (I : TypeInfo) (g o dLen dCap : Nat) (a : Addr) (sLen sCap n : Nat) (cur : Array Value) (t : TypeId) (cs : List Value)
    (hu : P.underlying dT = some (.slice elem)) (hi : P.info? elem = some I) (hg : w.heap[g]? = some (.cells cur t (0, 0))) (hn : Nat.min sLen dLen = n) (hl : cs.length = n * I.size)
    (hsrc : ∀ j v, cs[j]? = some v → w.cell? (a.add j) = some v) (hfit : o + cs.length ≤ cur.size) (h1 : ∀ v ∈ cs, v.oneCell' = true) :
    (Builtin.copy_ #[dT, sT] ty #[.slice (some ⟨g, o, none⟩) dLen dCap, .slice (some a) sLen sCap]).run P w =
      .ok (goInt n) (w.setRow g (cur.toList.take o ++ cs ++ cur.toList.drop (o + cs.length)).toArray) := by
  have hld := run_loadCells_list (P := P) w a cs hsrc
  have hst := run_storeCells_at P g o t cs 0 cur w hg (by simpa using hfit) h1
  rw [hl] at hld
  simp [Builtin.copy_, run_underlying hu, Builtin.lenOf, Builtin.firstCells, sizeOf, typeInfo, hi, hn, hld, hst]
theorem run_overlaps_own {P : Program} (w : World) (tS tR e : TypeId) (ht : P.underlying tS = some (.slice e)) (size : Nat) (hz : ∀ w, (Go.sizeOf e).run P w = .ok size w)
    (a b : Addr) (la ca lb cb : Nat) (hne : a.block ≠ b.block) (cur : Array Value) (t : TypeId) (hb : w.heap[b.block]? = some (.cells cur t (0, 0))) (h0 : cur.size ≠ 0) (tA : TypeId) (kA : Nat)
    (hsa : w.shape? a.block = some (tA, kA + 1)) :
    (Extern.SlicesOverlaps.overlaps #[tS, tS] #[tR] #[.slice (some a) la ca, .slice (some b) lb cb]).run P w = .ok (.bool false) w := by
  have hnb : (a.block != b.block) = true := by simpa using hne
  have hnb' : (a.block == b.block) = false := by simpa using hne
  have hsb : w.shape? b.block = some (t, cur.size) := by simp [World.shape?, hb]
  have hfb : w.frozen? b = false := by simp [World.frozen?, hb]
  have hfb' : ∀ k, w.frozen? { block := b.block, off := k } = false := fun k => by simp [World.frozen?, hb]
  change Sem.run P (α := Value) (do
    let some t := (#[tS, tS] : Array TypeId)[0]? | stuck "slices.overlaps: no parameter types"
    let .slice elem ← underlying t | stuck "slices.overlaps: slice type expected"
    let size ← sizeOf elem
    match (some a : Option Addr), (some b : Option Addr) with
    | some a, some b =>
      if la = 0 ∨ lb = 0 ∨ size = 0 then pure (Value.bool false)
      else if a.block != b.block && (← frozen a) && (← frozen b) then unsupported .addressObserved
      else do
        if a.block != b.block then do
          noView a; noView b
          if ← mayBeOne a b then return Value.bool ((← choose (.extern "sameAddr.stringBytes" 2)) == 1)
        pure (Value.bool (a.block == b.block && a.off < b.off + lb * size && b.off < a.off + la * size))
    | _, _ => pure (Value.bool false)) w = _
  by_cases hq : la = 0 ∨ lb = 0 ∨ size = 0
  · simp [run_underlying ht, hz, hq]
  · obtain ⟨k, hk⟩ : ∃ k, cur.size = k + 1 := ⟨cur.size - 1, by omega⟩
    rw [hk] at hsb
    cases hfa : w.frozen? a with
    | true => simp [run_underlying ht, hz, hq, hnb, hnb', frozen, noView, viewAt, mayBeOne, stringish, shape, Sem.run, hsa, hsb, hfa, hfb, hfb']
    | false =>
      cases hfe : w.frozen? { block := a.block, off := kA + 1 } with
      | true => simp [run_underlying ht, hz, hq, hnb, hnb', frozen, noView, viewAt, mayBeOne, stringish, shape, Sem.run, hsa, hsb, hfa, hfb, hfb', hfe]
      | false => simp [run_underlying ht, hz, hq, hnb, hnb', frozen, noView, viewAt, mayBeOne, stringish, shape, Sem.run, hsa, hsb, hfa, hfb, hfb', hfe]
/-- what lies there when a part was moved up and another put in -/
theorem ins_room (cur xs news : List Value) (a m k : Nat) (hx : cur.take k = xs) (hk : xs.length = k) (ha : a ≤ k) (hn : news.length = m) (hfit : k + m ≤ cur.length) :
    (((cur.take (a + m) ++ xs.drop a ++ cur.drop (a + m + (xs.drop a).length)).take a ++ news ++ (cur.take (a + m) ++ xs.drop a ++ cur.drop (a + m + (xs.drop a).length)).drop (a + news.length)).take (k + m)) = xs.take a ++ news ++ xs.drop a := by
  have e1 : (cur.take (a + m) ++ xs.drop a ++ cur.drop (a + m + (xs.drop a).length)).take a = xs.take a := by
    rw [List.append_assoc, List.take_append_of_le_length (by rw [List.length_take]; omega), List.take_take, ← hx, List.take_take]
    congr 1
    omega
  have e2 : (cur.take (a + m) ++ xs.drop a ++ cur.drop (a + m + (xs.drop a).length)).drop (a + news.length) = xs.drop a ++ cur.drop (a + m + (xs.drop a).length) := by
    rw [List.append_assoc]
    exact List.drop_left' (by rw [List.length_take]; omega)
  rw [e1, e2, ← List.append_assoc, List.take_append_of_le_length (by simp only [List.length_append, List.length_take, List.length_drop]; omega)]
  exact List.take_of_length_le (by simp only [List.length_append, List.length_take, List.length_drop]; omega)
theorem ins_grow (olds zs news rest : List Value) (a m k : Nat) (ho : olds.length = a) (hn : news.length = m) (hr : rest.length = k) :
    (((((olds ++ zs).take a ++ news ++ (olds ++ zs).drop (a + news.length)).take (a + m)) ++ rest ++ ((olds ++ zs).take a ++ news ++ (olds ++ zs).drop (a + news.length)).drop (a + m + rest.length)).take (a + m + k)) = olds ++ news ++ rest := by
  have e1 : (olds ++ zs).take a = olds := List.take_left' ho
  have e2 : ((olds ++ zs).take a ++ news ++ (olds ++ zs).drop (a + news.length)).take (a + m) = olds ++ news := by
    rw [e1]
    exact List.take_left' (by rw [List.length_append]; omega)
  rw [e2]
  exact List.take_left' (by simp only [List.length_append]; omega)
theorem run_append_ty {P : Program} (w : World) (a : Array TypeId) (ty ty' : TypeId) (args : Array Value) : (Builtin.append_ a ty args).run P w = (Builtin.append_ a ty' args).run P w := rfl
theorem listCopy {P : Program} (w : World) {ops : Array Oper} {rest : List Oper} {o : Oper} {a : Act} {Q : Exit → Act → World → Prop} (hgd : o.guard = none) (d s : Operand) (t t' : TypeId)
    (ho : o.op = .call { callee := .builtin .copy, args := #[d, s], argTypes := #[t, t'] }) (v u : Value) (hd : a.eval d = v) (hs : a.eval s = u) {v' : Value} {w' : World}
    (hr : (Builtin.copy_ #[t, t'] o.type #[v, u]).run P w = .ok v' w') (h : wpList P ops Q rest (a.put o.dst v') w') : wpList P ops Q (o :: rest) a w := by
  refine wpList_plain hgd fun K hK => ?_
  unfold Oper.wp execOp
  simp only [ho, resolve, invoke, builtin, Sem.run_bind, Sem.run_pure, Result.andThen_ok, List.map_toArray, List.map_cons, List.map_nil, hd, hs, hr]
  exact hK _ _ h
theorem stepCopy {P : Program} {ops : Array Oper} {o : Oper} {a : Act} {w : World} {K : Act → World → Prop} {Q : Exit → Act → World → Prop} {E : Prop}
    (hg : o.guard = none) (d x : Operand) (dT sT : TypeId) (hop : o.op = Op.call { callee := Callee.builtin Builtin.copy, args := #[d, x], argTypes := #[dT, sT] })
    (v u : Value) (hd : a.eval d = v) (hx : a.eval x = u) {v' : Value} {w' : World} (hr : (Builtin.copy_ #[dT, sT] o.type #[v, u]).run P w = .ok v' w') (hK : K (a.put o.dst v') w') :
    if Region.wanted o (yielded ops a.tmps) = true then Oper.wp P o a w K Q else E := by
  have hw : Region.wanted o (yielded ops a.tmps) = true := by simp [Region.wanted, hg]
  rw [if_pos hw]
  unfold Oper.wp
  simp [execOp, hop, resolve, invoke, builtin, hd, hx, hr, Result.andThen]
  exact hK
theorem flat_take {sz : Nat} : ∀ {vs : List Value}, (∀ v ∈ vs, v.cells.size = sz) → ∀ i, (vs.take i).flatMap (·.cells.toList) = (vs.flatMap (·.cells.toList)).take (i * sz)
  | [], _, i => by simp
  | v :: vs, h, 0 => by simp
  | v :: vs, h, i + 1 => by
    have hv : v.cells.toList.length = sz := by rw [Array.length_toList]; exact h v List.mem_cons_self
    have hadd : (i + 1) * sz = v.cells.toList.length + i * sz := by rw [hv, Nat.add_mul, Nat.one_mul, Nat.add_comm]
    rw [List.take_succ_cons, List.flatMap_cons, List.flatMap_cons, flat_take (fun y hy => h y (List.mem_cons_of_mem _ hy)) i, hadd, List.take_length_add_append]
theorem flat_drop {sz : Nat} : ∀ {vs : List Value}, (∀ v ∈ vs, v.cells.size = sz) → ∀ i, (vs.drop i).flatMap (·.cells.toList) = (vs.flatMap (·.cells.toList)).drop (i * sz)
  | [], _, i => by simp
  | v :: vs, h, 0 => by simp
  | v :: vs, h, i + 1 => by
    have hv : v.cells.toList.length = sz := by rw [Array.length_toList]; exact h v List.mem_cons_self
    have hadd : (i + 1) * sz = v.cells.toList.length + i * sz := by rw [hv, Nat.add_mul, Nat.one_mul, Nat.add_comm]
    rw [List.drop_succ_cons, List.flatMap_cons, flat_drop (fun y hy => h y (List.mem_cons_of_mem _ hy)) i, hadd, List.drop_length_add_append]
theorem allrel_app {R : V → Value → Prop} {es es' : List V} {vs vs' : List Value} (h : ∀ (j : Nat) e v, es[j]? = some e → vs[j]? = some v → R e v) (h' : ∀ (j : Nat) e v, es'[j]? = some e → vs'[j]? = some v → R e v) (hl : vs.length = es.length) :
    ∀ (j : Nat) e v, (es ++ es')[j]? = some e → (vs ++ vs')[j]? = some v → R e v := fun j e v he hv => by
  by_cases hj : j < es.length
  · rw [List.getElem?_append_left hj] at he
    rw [List.getElem?_append_left (by omega)] at hv
    exact h j e v he hv
  · rw [List.getElem?_append_right (by omega)] at he
    rw [List.getElem?_append_right (by omega), hl] at hv
    exact h' _ e v he hv
theorem allrel_take {R : V → Value → Prop} {es : List V} {vs : List Value} (i : Nat) (h : ∀ (j : Nat) e v, es[j]? = some e → vs[j]? = some v → R e v) : ∀ (j : Nat) e v, (es.take i)[j]? = some e → (vs.take i)[j]? = some v → R e v := fun j e v he hv => by
  rw [List.getElem?_take] at he hv
  split at he
  · rw [if_pos (by assumption)] at hv
    exact h j e v he hv
  · cases he
theorem allrel_drop {R : V → Value → Prop} {es : List V} {vs : List Value} (i : Nat) (h : ∀ (j : Nat) e v, es[j]? = some e → vs[j]? = some v → R e v) : ∀ (j : Nat) e v, (es.drop i)[j]? = some e → (vs.drop i)[j]? = some v → R e v := fun j e v he hv => by
  rw [List.getElem?_drop] at he hv
  exact h _ e v he hv
end Go.Ev
namespace Go.Proofs.YtdmkmbaaemhhhaaDoor
open Go Go.Ev Go.RowKit Go.Lib
set_option linter.unusedSimpArgs false
theorem infE : ∃ (i : TI) (I : TypeInfo) (D : TypeDesc) (z : Value), TFact Tryd.prog 34 i I D z ∧ I.size = 3 ∧ I.bytes = 48 ∧ z.cells.size = 3 := by
  obtain ⟨I, D, z, h⟩ := tiOk_spec (P := Tryd.prog) (t := 34) (i := ((tyF 34).getD ⟨.bool, 0, 0, .undef⟩)) (by kernel_rfl)
  exact ⟨_, I, D, z, h, h.size, h.bytes, h.zsize⟩
set_option maxHeartbeats 4000000 in
set_option maxRecDepth 100000 in
theorem insE_end (sv u v' : Value) (n m : Nat) (w w' : World) (hm : 0 < m) (hs : ∃ ad cap, sv = .slice ad n cap) (hu : ∃ a c, u = .slice (some a) m c)
    (hr : ∀ ty, (Builtin.append_ #[23, 23] ty #[sv, u]).run Tryd.prog w = .ok v' w') :
    Calls Tryd.prog 74 #[sv, .int .i64 n, u] w fun e w1 => e = .returned v' ∧ w1 = w' := by
  obtain ⟨ad, cap, rfl⟩ := hs
  obtain ⟨a, c, rfl⟩ := hu
  have hz1 : ¬ ((m : Int) = 0) := by omega
  have mixed := mixOk
  go_enter Tryd.func74, Tryd.ntmps74
  go_wp2_with (at_builtin; refine Lib.wpList_append_run _ rfl _ _ _ _ rfl _ _ rfl rfl _ _ (hr _) ?_)
  all_goals (go_ret; exact ⟨rfl, rfl⟩)
set_option maxHeartbeats 4000000 in
set_option maxRecDepth 100000 in
theorem insE_room (g n c i vb voff m vc : Nat) (cur : Array Value) (xs vs : List Value) (w : World) (hi : i < n) (hm : 0 < m) (hroom : n + m ≤ c) (hc63 : c ≤ maxLen) (hvb : vb ≠ g)
    (hg : w.heap[g]? = some (.cells cur 34 (0, 0))) (hcs : cur.size = c * 3) (hx : cur.toList.take (n * 3) = xs) (hvl : vs.length = m * 3)
    (hvs : ∀ j v, vs[j]? = some v → w.cell? ⟨vb, voff + j, none⟩ = some v) (h1x : ∀ v ∈ xs, v.oneCell' = true) (h1v : ∀ v ∈ vs, v.oneCell' = true) :
    Calls Tryd.prog 74 #[.slice (some ⟨g, 0, none⟩) n c, .int .i64 i, .slice (some ⟨vb, voff, none⟩) m vc] w fun e w' =>
      e = .returned (.slice (some ⟨g, 0, none⟩) (n + m) c) ∧ w.grownBy w' (some g) ∧ ∃ c2 : Array Value, w'.heap[g]? = some (.cells c2 34 (0, 0)) ∧ c2.size = c * 3 ∧ c2.toList.take ((n + m) * 3) = xs.take (i * 3) ++ vs ++ xs.drop (i * 3) := by
  obtain ⟨i0, I, D, z, hF, hI, hB, hz⟩ := infE
  unfold maxLen at hc63
  have hu : Tryd.prog.underlying 23 = some (.slice 34) := by kernel_rfl
  have hxl : xs.length = n * 3 := by rw [← hx, List.length_take, Array.length_toList, hcs]; omega
  have hz1 : ¬ ((m : Int) = 0) := by omega
  have hz2 : ¬ ((i : Int) = (n : Int)) := by omega
  obtain ⟨tA, kA, hsa⟩ : ∃ tA kA, w.shape? vb = some (tA, kA + 1) := by
    have h0 := hvs 0 (vs[0]'(by omega)) (List.getElem?_eq_getElem (by omega))
    unfold World.cell? at h0
    split at h0
    · rename_i cc t f hh
      simp at h0
      have hlt : voff < cc.size := by
        rcases Nat.lt_or_ge voff cc.size with h | h
        · exact h
        · rw [Array.getElem?_eq_none h] at h0; cases h0
      refine ⟨t, cc.size - 1, ?_⟩
      unfold World.shape?
      rw [show w.heap[vb]? = some (.cells cc t f) from hh]
      simp only [Option.some.injEq, Prod.mk.injEq, true_and]
      omega
    · cases h0
  have hov : ∀ o lb cb, (callFunc 101 #[.slice (some ⟨vb, voff, none⟩) m vc, .slice (some ⟨g, o, none⟩) lb cb]).run Tryd.prog w = .ok (.value (.bool false)) w := fun o lb cb => by
    rw [run_callFunc_extern Tryd.func101 (by kernel_rfl) (by kernel_rfl) (by kernel_rfl) (e := Extern.SlicesOverlaps.overlaps #[23, 23] #[4]) (by kernel_rfl),
      run_overlaps_own w 23 _ 34 hu I.size (fun w => by simp [Go.sizeOf, typeInfo, hF.info]) ⟨vb, voff, none⟩ ⟨g, o, none⟩ m vc lb cb hvb cur 34 hg (by omega) tA kA hsa]
    rfl
  have hdl : (xs.drop (i * 3)).length = (n - i) * 3 := by rw [List.length_drop, hxl]; omega
  have hw1 : IntKind.i64.wrap ((i : Int) + (m : Int)) = (i : Int) + (m : Int) := by rw [IntKind.wrap_i64]; omega
  have hb1 : (0 : Int) ≤ (i : Int) + (m : Int) := by omega
  have hin : i ≤ n := by omega
  have htn : ((i : Int) + (m : Int)).toNat = i + m := by omega
  have hb2 : ¬ (c = i + m) := by omega
  have hb3 : (i : Int) ≤ (n : Int) + (m : Int) := by omega
  have hb4 : ¬ (c = i) := by omega
  have hgx : ∀ (j : Nat) v, xs[j]? = some v → w.cell? ⟨g, j, none⟩ = some v := fun j v hj => by
    rw [← hx, List.getElem?_take] at hj
    split at hj
    · simp [World.cell?, hg]
      simpa using hj
    · cases hj
  obtain ⟨C1, hC1⟩ : ∃ C1 : Array Value, C1 = (cur.toList.take ((i + m) * 3) ++ xs.drop (i * 3) ++ cur.toList.drop ((i + m) * 3 + (xs.drop (i * 3)).length)).toArray := ⟨_, rfl⟩
  have hC1s : C1.size = c * 3 := by
    rw [hC1]
    simp only [List.size_toArray, List.length_append, List.length_take, List.length_drop, Array.length_toList, hdl, hcs, hxl]
    omega
  have hcp1 : ∀ ty dc sc, (Builtin.copy_ #[23, 23] ty #[.slice (some ⟨g, (i + m) * 3, none⟩) (n + m - (i + m)) dc, .slice (some ⟨g, i * 3, none⟩) (n + m - i) sc]).run Tryd.prog w.drew = .ok (goInt (n - i : Nat)) (w.drew.setRow g C1) := fun ty dc sc => by
    rw [hC1]
    exact run_copy_k w.drew 23 23 ty 34 I g ((i + m) * 3) (n + m - (i + m)) dc ⟨g, i * 3, none⟩ (n + m - i) sc (n - i) cur 34 (xs.drop (i * 3)) hu hF.info hg (by simp only [Nat.min_def]; split <;> omega) (by rw [hdl, hI])
      (fun j v hj => by rw [Addr.add_lit]; exact hgx (i * 3 + j) v (by rwa [List.getElem?_drop] at hj)) (by rw [hdl, hcs]; omega) (fun v hv => h1x v (List.mem_of_mem_drop hv))
  have hW1 : (w.drew.setRow g C1).heap[g]? = some (.cells C1 34 (0, 0)) := setRow_heap _ g cur C1 34 (0, 0) hg
  obtain ⟨C2, hC2⟩ : ∃ C2 : Array Value, C2 = (C1.toList.take (i * 3) ++ vs ++ C1.toList.drop (i * 3 + vs.length)).toArray := ⟨_, rfl⟩
  have hC2s : C2.size = c * 3 := by
    rw [hC2]
    simp only [List.size_toArray, List.length_append, List.length_take, List.length_drop, Array.length_toList, hC1s, hvl]
    omega
  have hcp2 : ∀ (W : World), W.heap = (w.drew.setRow g C1).heap → ∀ ty dc, (Builtin.copy_ #[23, 23] ty #[.slice (some ⟨g, i * 3, none⟩) (n + m - i) dc, .slice (some ⟨vb, voff, none⟩) m vc]).run Tryd.prog W = .ok (goInt m) (W.setRow g C2) := fun W hW ty dc => by
    rw [hC2]
    exact run_copy_k W 23 23 ty 34 I g (i * 3) (n + m - i) dc ⟨vb, voff, none⟩ m vc m C1 34 vs hu hF.info (by rw [hW]; exact hW1) (by simp only [Nat.min_def]; split <;> omega) (by rw [hvl, hI])
      (fun j v hj => by
        rw [Addr.add_lit]
        have h1 := hvs j v hj
        have h2 := cell_setRow_other w.drew g C1 ⟨vb, voff + j, none⟩ hvb
        unfold World.cell? at h1 h2 ⊢
        rw [hW, h2]
        exact h1) (by rw [hvl, hC1s]; omega) h1v
  have hfin : ∀ W : World, W = (w.drew.setRow g C1).setRow g C2 → w.grownBy W (some g) ∧ ∃ c2 : Array Value, W.heap[g]? = some (.cells c2 34 (0, 0)) ∧ c2.size = c * 3 ∧ c2.toList.take ((n + m) * 3) = xs.take (i * 3) ++ vs ++ xs.drop (i * 3) := by
    rintro W rfl
    refine ⟨⟨rfl, rfl, rfl, by simp, fun k hk hne => ?_⟩, C2, setRow_heap _ g C1 C2 34 (0, 0) hW1, hC2s, ?_⟩
    · have hkg : k ≠ g := fun e => hne (by rw [e])
      rw [setRow_other _ g k _ hkg, setRow_other _ g k _ hkg]
      rfl
    · have key := ins_room cur.toList xs vs (i * 3) (m * 3) (n * 3) hx hxl (by omega) hvl (by rw [Array.length_toList, hcs]; omega)
      rw [hC2, hC1]
      rw [show i * 3 + m * 3 = (i + m) * 3 by omega, show n * 3 + m * 3 = (n + m) * 3 by omega] at key
      exact key
  clear hC1 hC2 hC1s hC2s
  have mixed := mixOk
  go_enter Tryd.func74, Tryd.ntmps74
  go_wp2_with (simp only [hov])
  go_region_law_o (refine stepCopy rfl _ _ 23 23 rfl _ _ (by simp [Act.eval, Act.put]) (by simp [Act.eval, Act.put]) (hcp1 _ _ _) ?_)
  go_wp2_with (at_builtin; refine listCopy _ rfl _ _ 23 23 rfl _ _ rfl rfl (hcp2 _ rfl _ _) ?_)
  go_ret
  exact ⟨rfl, hfin _ rfl⟩
set_option maxHeartbeats 4000000 in
set_option maxRecDepth 100000 in
theorem insE_grow (g n c i vb voff m vc : Nat) (xs vs : List Value) (w : World) (hi : i < n) (hm : 0 < m) (hnc : n ≤ c) (hroom : c < n + m) (hbig : (n + m) * 48 ≤ 140737488355328)
    (hxl : xs.length = n * 3) (hvl : vs.length = m * 3) (hgx : ∀ (j : Nat) v, xs[j]? = some v → w.cell? ⟨g, j, none⟩ = some v)
    (hvs : ∀ j v, vs[j]? = some v → w.cell? ⟨vb, voff + j, none⟩ = some v) (h1x : ∀ v ∈ xs, v.oneCell' = true) (h1v : ∀ v ∈ vs, v.oneCell' = true) :
    Calls Tryd.prog 74 #[.slice (some ⟨g, 0, none⟩) n c, .int .i64 i, .slice (some ⟨vb, voff, none⟩) m vc] w fun e w' =>
      ∃ G, e = .returned (.slice (some ⟨w.heap.size, 0, none⟩) (n + m) G) ∧ n + m ≤ G ∧ G ≤ maxLen ∧ w.grownBy w' none ∧ ∃ c2 : Array Value, w'.heap[w.heap.size]? = some (.cells c2 34 (0, 0)) ∧ c2.size = G * 3 ∧ c2.toList.take ((n + m) * 3) = xs.take (i * 3) ++ vs ++ xs.drop (i * 3) := by
  obtain ⟨i0, I, D, z, hF, hI, hB, hz⟩ := infE
  have hu : Tryd.prog.underlying 23 = some (.slice 34) := by kernel_rfl
  have hui : Tryd.prog.underlying 3 = some (.int .i64) := by kernel_rfl
  have hz1 : ¬ ((m : Int) = 0) := by omega
  have hz2 : ¬ ((i : Int) = (n : Int)) := by omega
  have hz3 : (c : Int) < (n : Int) + (m : Int) := by omega
  have hbw : g < w.heap.size := World.block_lt_of_cell? w _ (hgx 0 _ (List.getElem?_eq_getElem (by omega)))
  have hvw : vb < w.heap.size := World.block_lt_of_cell? w _ (hvs 0 _ (List.getElem?_eq_getElem (by omega)))
  have hkk : (n : Int) + (m : Int) - (i : Int) = ((n + m - i : Nat) : Int) := by omega
  have hik : i + (n + m - i) = n + m := by omega
  have htl : (xs.take (i * 3)).length = i * 3 := by rw [List.length_take, hxl]; omega
  have hold : (Builtin.firstCells I.size i (.slice (some ⟨g, 0, none⟩) i c)).run Tryd.prog w.drew = .ok (xs.take (i * 3)).toArray w.drew := by
    rw [hI]
    exact run_firstCells_some w.drew 3 i ⟨g, 0, none⟩ i c (xs.take (i * 3)) htl (fun j v hj => by
      rw [Addr.add_lit, Nat.zero_add]
      rw [List.getElem?_take] at hj
      split at hj
      · exact hgx j v hj
      · cases hj)
  have hrz : ∀ ty, (Builtin.append_ #[23, 3] ty #[.slice (some ⟨g, 0, none⟩) i c, .int .i64 ((n : Int) + (m : Int) - (i : Int))]).run Tryd.prog w =
      .ok (.slice (some ⟨w.heap.size, 0, none⟩) (n + m) (grownCap w (n + m) c 34)) (w.drew.alloc (.cells ((xs.take (i * 3)).toArray ++ Builtin.zeroCells z.cells (n + m - i) ++ Builtin.zeroCells z.cells (grownCap w (n + m) c 34 - (n + m))) 34)) := fun ty => by
    have h := Lib.run_append_grow_zeros w 23 3 ty 34 I z .i64 .i64 hu hui hF.info hF.zero (some ⟨g, 0, none⟩) i c (xs.take (i * 3)) hold (n + m - i) (by omega) (by omega) (by omega) (by omega) (by rw [hB]; omega) (by rw [hB, hik]; exact growslice_fits hroom hbig)
    rw [hik] at h
    rw [hkk]
    exact h
  obtain ⟨G, hG⟩ : ∃ G, G = grownCap w (n + m) c 34 := ⟨_, rfl⟩
  have hGn : n + m ≤ G := by rw [hG]; exact grownCap_ge w _ _ _
  have hG63 : G ≤ maxLen := by rw [hG]; exact grownCap_le_maxLen w (n + m) c 34 (by unfold maxLen; omega)
  obtain ⟨ZS, hZS⟩ : ∃ ZS : List Value, ZS = (Builtin.zeroCells z.cells (n + m - i) ++ Builtin.zeroCells z.cells (G - (n + m))).toList := ⟨_, rfl⟩
  have hZl : ZS.length = (n + m - i) * 3 + (G - (n + m)) * 3 := by
    rw [hZS]
    simp [size_zeroCells, hz]
  obtain ⟨ROW, hROW⟩ : ∃ ROW : Array Value, ROW = (xs.take (i * 3)).toArray ++ Builtin.zeroCells z.cells (n + m - i) ++ Builtin.zeroCells z.cells (G - (n + m)) := ⟨_, rfl⟩
  have hRl : ROW.toList = xs.take (i * 3) ++ ZS := by rw [hROW, hZS]; simp [List.append_assoc]
  have hRs : ROW.size = G * 3 := by rw [← Array.length_toList, hRl, List.length_append, htl, hZl]; omega
  rw [← hG] at hrz
  rw [← hROW] at hrz
  obtain ⟨W1, hW1⟩ : ∃ W1, W1 = w.drew.alloc (.cells ROW 34) := ⟨_, rfl⟩
  rw [← hW1] at hrz
  have hN1 : W1.heap[w.heap.size]? = some (.cells ROW 34 (0, 0)) := by rw [hW1]; exact heap_alloc_new w.drew _
  have hO1 : ∀ k, k < w.heap.size → W1.heap[k]? = w.heap[k]? := fun k hk => by rw [hW1]; exact heap_alloc_old w.drew _ hk
  obtain ⟨R1, hR1⟩ : ∃ R1 : Array Value, R1 = (ROW.toList.take (i * 3) ++ vs ++ ROW.toList.drop (i * 3 + vs.length)).toArray := ⟨_, rfl⟩
  have hR1s : R1.size = G * 3 := by
    rw [hR1]
    simp only [List.size_toArray, List.length_append, List.length_take, List.length_drop, Array.length_toList, hRs, hvl]
    omega
  have hcpA : ∀ (W : World), W.heap = W1.heap → ∀ ty dc, (Builtin.copy_ #[23, 23] ty #[.slice (some ⟨w.heap.size, i * 3, none⟩) (n + m - i) dc, .slice (some ⟨vb, voff, none⟩) m vc]).run Tryd.prog W = .ok (goInt m) (W.setRow w.heap.size R1) := fun W hW ty dc => by
    rw [hR1]
    exact run_copy_k W 23 23 ty 34 I w.heap.size (i * 3) (n + m - i) dc ⟨vb, voff, none⟩ m vc m ROW 34 vs hu hF.info (by rw [hW]; exact hN1) (by simp only [Nat.min_def]; split <;> omega) (by rw [hvl, hI])
      (fun j v hj => by
        rw [Addr.add_lit]
        have h1 := hvs j v hj
        unfold World.cell? at h1 ⊢
        rw [hW, hO1 vb hvw]
        exact h1) (by rw [hvl, hRs]; omega) h1v
  have hW2 : (W1.setRow w.heap.size R1).heap[w.heap.size]? = some (.cells R1 34 (0, 0)) := setRow_heap _ _ ROW R1 34 (0, 0) hN1
  have hdl : (xs.drop (i * 3)).length = (n - i) * 3 := by rw [List.length_drop, hxl]; omega
  have hbN : g ≠ w.heap.size := by omega
  obtain ⟨R2, hR2⟩ : ∃ R2 : Array Value, R2 = (R1.toList.take ((i + m) * 3) ++ xs.drop (i * 3) ++ R1.toList.drop ((i + m) * 3 + (xs.drop (i * 3)).length)).toArray := ⟨_, rfl⟩
  have hR2s : R2.size = G * 3 := by
    rw [hR2]
    simp only [List.size_toArray, List.length_append, List.length_take, List.length_drop, Array.length_toList, hR1s, hdl, hxl]
    omega
  have hcpB : ∀ (W : World), W.heap = (W1.setRow w.heap.size R1).heap → ∀ ty dc sc, (Builtin.copy_ #[23, 23] ty #[.slice (some ⟨w.heap.size, (i + m) * 3, none⟩) (n + m - (i + m)) dc, .slice (some ⟨g, i * 3, none⟩) (n - i) sc]).run Tryd.prog W = .ok (goInt (n - i : Nat)) (W.setRow w.heap.size R2) := fun W hW ty dc sc => by
    rw [hR2]
    exact run_copy_k W 23 23 ty 34 I w.heap.size ((i + m) * 3) (n + m - (i + m)) dc ⟨g, i * 3, none⟩ (n - i) sc (n - i) R1 34 (xs.drop (i * 3)) hu hF.info (by rw [hW]; exact hW2) (by simp only [Nat.min_def]; split <;> omega) (by rw [hdl, hI])
      (fun j v hj => by
        rw [Addr.add_lit]
        have h1 := hgx (i * 3 + j) v (by rwa [List.getElem?_drop] at hj)
        have h2 := setRow_other W1 w.heap.size g R1 hbN
        unfold World.cell? at h1 ⊢
        rw [hW, h2, hO1 g hbw]
        exact h1) (by rw [hdl, hR1s]; omega) (fun v hv => h1x v (List.mem_of_mem_drop hv))
  have hfin : ∀ W : World, W.heap = ((W1.setRow w.heap.size R1).setRow w.heap.size R2).heap → W.os = w.os → W.tape = w.tape → W.output = w.output → ∃ G', (Ending.returned (.slice (some ⟨w.heap.size, 0, none⟩) (n + m) G) = .returned (.slice (some ⟨w.heap.size, 0, none⟩) (n + m) G')) ∧ n + m ≤ G' ∧ G' ≤ maxLen ∧
      w.grownBy W none ∧ ∃ c2 : Array Value, W.heap[w.heap.size]? = some (.cells c2 34 (0, 0)) ∧ c2.size = G' * 3 ∧ c2.toList.take ((n + m) * 3) = xs.take (i * 3) ++ vs ++ xs.drop (i * 3) := by
    intro W hW h1 h2 h3
    refine ⟨G, rfl, hGn, hG63, ⟨h1, h2, h3, ?_, fun k hk _ => ?_⟩, R2, by rw [hW]; exact setRow_heap _ _ R1 R2 34 (0, 0) hW2, hR2s, ?_⟩
    · rw [hW, setRow_size, setRow_size, hW1]; show _ ≤ (w.drew.heap.push _).size; rw [Array.size_push]; exact Nat.le_succ _
    · have hkg : k ≠ w.heap.size := by omega
      rw [hW, setRow_other _ _ k _ hkg, setRow_other _ _ k _ hkg]
      exact hO1 k hk
    · have key := ins_grow (xs.take (i * 3)) ZS vs (xs.drop (i * 3)) (i * 3) (m * 3) ((n - i) * 3) htl hvl hdl
      rw [show i * 3 + m * 3 = (i + m) * 3 by omega, show (i + m) * 3 + (n - i) * 3 = (n + m) * 3 by omega] at key
      rw [hR2, hR1, hRl]
      exact key
  have hE1 : ((w.alloc (.cells ROW 34)).drew).heap = W1.heap := by rw [hW1]; rfl
  have hF1 : (((w.alloc (.cells ROW 34)).drew.setRow w.heap.size R1).drew).heap = (W1.setRow w.heap.size R1).heap := by rw [hW1]; rfl
  have hF2 : (((w.alloc (.cells ROW 34)).drew.setRow w.heap.size R1)).heap = (W1.setRow w.heap.size R1).heap := by rw [hW1]; rfl
  have hw1 : IntKind.i64.wrap ((i : Int) + (m : Int)) = (i : Int) + (m : Int) := by rw [IntKind.wrap_i64]; omega
  have hb1 : (0 : Int) ≤ (i : Int) + (m : Int) := by omega
  have hin : i ≤ n := by omega
  have htn : ((i : Int) + (m : Int)).toNat = i + m := by omega
  have hb3 : (i : Int) ≤ (n : Int) := by omega
  have hGi : ¬ (G = i) := by omega
  have hGim : ¬ (G = i + m) := by omega
  have hci : ¬ (c = i) := by omega
  subst hW1
  clear hkk hik hold hROW hG hRl hR1 hR2 hZS hN1 hO1 hW2 hRs hR1s hR2s hZl
  have mixed := mixOk
  go_enter Tryd.func74, Tryd.ntmps74
  go_wp2_with (first
    | (at_builtin; refine Lib.wpList_append_run _ rfl _ _ _ _ rfl _ _ rfl rfl _ _ (hrz _) ?_)
    | (at_builtin; refine listCopy _ rfl _ _ 23 23 rfl _ _ rfl rfl (hcpA _ hE1 _ _) ?_)
    | (at_builtin; refine listCopy _ rfl _ _ 23 23 rfl _ _ rfl rfl (hcpB _ hF2 _ _ _) ?_))
  go_region_law_o (refine stepCopy rfl _ _ 23 23 rfl (.slice (some ⟨w.heap.size, (i + m) * 3, none⟩) (n + m - (i + m)) (G - (i + m))) (.slice (some ⟨g, i * 3, none⟩) (n - i) (c - i)) (by simp [Act.eval, Act.put]) (by simp [Act.eval, Act.put]) (hcpB _ hF1 3 (G - (i + m)) (c - i)) ?_)
  go_wp2
  go_ret
  exact hfin _ rfl rfl rfl rfl
theorem insE_take {J : World → Prop} (i : Nat) (es news : List V) (hi : i ≤ es.length) (hm : 0 < news.length) (hby : (es.length + news.length) * 48 ≤ 140737488355328) :
    TakeAt Tryd.prog J 74 34 3 es [.int .i64 i, .row 3 news] (es.take i ++ news ++ es.drop i) := by
  obtain ⟨i0, I, D, z, hF, hI, hB, hz⟩ := infE
  have hu : Tryd.prog.underlying 23 = some (.slice 34) := by kernel_rfl
  refine ⟨⟨_, Tryd.func74, by kernel_rfl, by kernel_rfl⟩, ?_⟩
  intro w B ok ok2 sv vals hJ hBw hok hsub h1 hpos hown hlen hrel
  match vals, hlen with
  | [x, u], _ =>
  have hx := hrel 0 _ x rfl rfl
  have hx' : x = .int .i64 i := by
    have : RelD w ok2 (.int .i64 i) x := hx
    cases this; rfl
  subst hx'
  have hu2 := hrel 1 _ u rfl rfl
  simp only [Rel2] at hu2
  rcases hu2 with ⟨_, _, _, h0⟩ | ⟨vb, voff, vc, vs, rfl, hokv, hvl, hvsz, hv1, hvr, hvc⟩
  · rw [h0] at hm; cases hm
  have hvlt := (hok vb hokv).1
  have hvne := (hok vb hokv).2
  have h1v : ∀ v ∈ vs.flatMap (·.cells.toList), v.oneCell' = true := fun v hv => by
    obtain ⟨y, hy, hvy⟩ := List.mem_flatMap.1 hv
    exact hv1 y hy v hvy
  have hfl := flat_length hvsz
  -- what the row becomes
  have fin : ∀ (vs0 : List Value) (sv' : Value) (w' : World), vs0.length = es.length → (∀ v ∈ vs0, v.cells.size = 3) → (∀ v ∈ vs0, ∀ u ∈ v.cells.toList, u.oneCell' = true) → (∀ (j : Nat) e v, es[j]? = some e → vs0[j]? = some v → RelD w ok2 e v) →
      (∀ g, g < w.heap.size → own sv ≠ some g → w'.heap[g]? = w.heap[g]?) → w'.ownsRow B 34 3 sv' (es.length + news.length) ((vs0.flatMap (·.cells.toList)).take (i * 3) ++ vs.flatMap (·.cells.toList) ++ (vs0.flatMap (·.cells.toList)).drop (i * 3)) →
      OwnV w' ok2 B 34 3 sv' (es.take i ++ news ++ es.drop i) := by
    intro vs0 sv' w' hl0 hs0 h10 hr0 hk how
    have hmono : ∀ e v, RelD w ok2 e v → RelD w' ok2 e v := fun e v h => h.mono fun g hg => ⟨hg, hk g (hok g (hsub g hg)).1 (hok g (hsub g hg)).2⟩
    have hcat : (vs0.take i ++ vs ++ vs0.drop i).flatMap (·.cells.toList) = (vs0.flatMap (·.cells.toList)).take (i * 3) ++ vs.flatMap (·.cells.toList) ++ (vs0.flatMap (·.cells.toList)).drop (i * 3) := by
      rw [List.flatMap_append, List.flatMap_append, flat_take hs0 i, flat_drop hs0 i]
    have hll : (es.take i ++ news ++ es.drop i).length = es.length + news.length := by
      simp only [List.length_append, List.length_take, List.length_drop]; omega
    refine ⟨vs0.take i ++ vs ++ vs0.drop i, ?_, ?_, ?_, ?_, .inr ?_⟩
    · rw [hll]; simp only [List.length_append, List.length_take, List.length_drop]; omega
    · intro v hv
      rcases List.mem_append.1 hv with hv | hv
      · rcases List.mem_append.1 hv with hv | hv
        · exact hs0 v (List.mem_of_mem_take hv)
        · exact hvsz v hv
      · exact hs0 v (List.mem_of_mem_drop hv)
    · intro v hv
      rcases List.mem_append.1 hv with hv | hv
      · rcases List.mem_append.1 hv with hv | hv
        · exact h10 v (List.mem_of_mem_take hv)
        · exact hv1 v hv
      · exact h10 v (List.mem_of_mem_drop hv)
    · exact allrel_app (allrel_app (allrel_take i fun j e v he hv => hmono e v (hr0 j e v he hv)) (fun j e v he hv => hmono e v (hvr j e v he hv)) (by simp [hl0])) (allrel_drop i fun j e v he hv => hmono e v (hr0 j e v he hv)) (by simp [hl0, hvl])
    · rw [hll, hcat]; exact how
  rcases hown.form with ⟨ad, rfl, rfl⟩ | ⟨g0, cap0, vs0, rfl, hc0, hle0, hl0, hsz0, h10, hr0, how⟩
  · have hi0 : i = 0 := by simpa using hi
    subst hi0
    obtain ⟨v', w1, hr, how, hgr⟩ : ∃ v' w1, (∀ ty, (Builtin.append_ #[23, 23] ty #[.slice ad 0 0, .slice (some ⟨vb, voff, none⟩) news.length vc]).run Tryd.prog w = .ok v' w1) ∧ w1.ownsRow w.heap.size 34 I.size v' news.length (vs.flatMap (·.cells.toList)) ∧ w.grownBy w1 none := by
      obtain ⟨v', w1, hr, how, hgr⟩ := append_zero (w := w) (ty := 23) hu ⟨hF.info, hF.under, rfl, rfl, hF.zero, fun _ _ => .undef _, hF.zsize.trans hF.size.symm, hF.z1, hF.tk⟩ (i := ⟨i0.k, I.size, I.bytes, .undef⟩) (by show 0 < I.size; omega) ad vb voff vc news vs hvl (fun v hv => (hvsz v hv).trans hI.symm) hvc hv1 hm (by rw [hB]; simpa using hby) (by unfold maxLen; simp only [List.length_nil] at hby; omega)
      exact ⟨v', w1, fun ty => (run_append_ty _ _ _ _ _).trans hr, how, hgr⟩
    refine (insE_end _ _ v' 0 news.length w w1 hm ⟨ad, 0, rfl⟩ ⟨_, _, rfl⟩ hr).mono ?_
    rintro e w' ⟨rfl, rfl⟩
    rw [hI] at how
    exact ⟨v', rfl, (below_grown hgr (Nat.le_refl _) fun k hk => by cases hk).mono hBw, fun k hk _ => hgr.block k hk (by simp), hgr.size, fun k hk => .inl (own_lt_of_owns how hk).1, owns_one how, fin [] v' w' rfl (by simp) (by simp) (by simp) (fun k hk _ => hgr.block k hk (by simp)) (by simpa using ownsRow_base how hBw)⟩
  · have hownS : own (.slice (some ⟨g0, 0, none⟩) es.length cap0) = some g0 := by simp [own, hc0]
    have hne : vb ≠ g0 := fun e => hvne (by rw [hownS, e])
    have hxl := flat_length hsz0
    have h1x : ∀ v ∈ vs0.flatMap (·.cells.toList), v.oneCell' = true := fun v hv => by
      obtain ⟨y, hy, hvy⟩ := List.mem_flatMap.1 hv
      exact h10 y hy v hvy
    obtain ⟨g1, cap1, cur, heq, hgB, hgc, hle1, hmx, hcs, hx⟩ : ∃ g cap cur, (Value.slice (some ⟨g0, 0, none⟩) es.length cap0) = .slice (some ⟨g, 0, none⟩) es.length cap ∧ B ≤ g ∧ w.heap[g]? = some (.cells cur 34 (0, 0)) ∧ es.length ≤ cap ∧ cap ≤ maxLen ∧ cur.size = cap * 3 ∧ cur.toList.take (es.length * 3) = vs0.flatMap (·.cells.toList) := by
      rcases how.2 with ⟨h, _⟩ | h
      · cases h
      · exact h
    cases heq
    by_cases hie : i = es.length
    · subst hie
      obtain ⟨v', w1, hr, how', hgr, _, hob⟩ := run_append_own_at (P := Tryd.prog) w B 23 23 34 I z 3 48 hu hF.info hF.zero hI hB hz (by decide) _ es.length _ how
        ⟨vb, voff, none⟩ news.length vc (vs.flatMap (·.cells.toList)) (by rw [hfl, hvl]) (fun j u hu => by rw [Addr.add_mid]; exact hvc j u hu) h1v (by unfold maxLen; omega) hby hBw
      refine (insE_end _ _ v' es.length news.length w w1 hm ⟨_, _, rfl⟩ ⟨_, _, rfl⟩ (fun ty => (run_append_ty _ _ _ _ _).trans hr)).mono ?_
      rintro e w' ⟨rfl, rfl⟩
      have hkeep : ∀ g, g < w.heap.size → own (.slice (some ⟨g0, 0, none⟩) es.length cap0) ≠ some g → w'.heap[g]? = w.heap[g]? := fun k hk hne => hgr.block k hk (by
        intro e; apply hne; rw [hownS, e]; rfl)
      refine ⟨v', rfl, below_grown hgr hBw (fun k hk => by simp [Value.ownBlock] at hk; omega), hkeep, hgr.size, fun k hk => ?_, owns_one how', fin vs0 v' w' hl0 hsz0 h10 hr0 hkeep ?_⟩
      · have hkb := (own_lt_of_owns how' hk).2
        rcases hob with hob | hob
        · right; rw [hownS]; rw [hob] at hkb; simpa [Value.ownBlock] using hkb
        · left; rw [hob] at hkb; simp at hkb; omega
      · rw [List.take_of_length_le (by rw [hxl, hl0]; exact Nat.le_refl _), List.drop_of_length_le (by rw [hxl, hl0]; exact Nat.le_refl _), List.append_nil]
        exact how'
    · have hilt : i < es.length := by omega
      by_cases hroom : es.length + news.length ≤ cap0
      · refine (insE_room g0 es.length cap0 i vb voff news.length vc cur _ _ w hilt hm hroom hmx hne hgc hcs hx (by rw [hfl, hvl]) hvc h1x h1v).mono ?_
        rintro e w' ⟨rfl, hgr, c2, hg2, hs2, ht2⟩
        have hkeep : ∀ g, g < w.heap.size → own (.slice (some ⟨g0, 0, none⟩) es.length cap0) ≠ some g → w'.heap[g]? = w.heap[g]? := fun k hk hne => hgr.block k hk (by
          intro e; apply hne; rw [hownS, e])
        refine ⟨_, rfl, below_grown hgr hBw (fun k hk => by simp at hk; omega), hkeep, hgr.size, fun k hk => .inr (by simpa [own, hc0] using hk), rfl, fin vs0 _ w' hl0 hsz0 h10 hr0 hkeep ⟨?_, .inr ⟨g0, cap0, c2, rfl, hgB, hg2, hroom, hmx, hs2, ht2⟩⟩⟩
        rw [← ht2, List.length_take, show c2.toList.length = c2.size from Array.length_toList, hs2]
        omega
      · have hgx : ∀ (j : Nat) v, (vs0.flatMap (·.cells.toList))[j]? = some v → w.cell? ⟨g0, j, none⟩ = some v := fun j v hj => by
          rw [← hx, List.getElem?_take] at hj
          split at hj
          · simp [World.cell?, hgc]
            simpa using hj
          · cases hj
        refine (insE_grow g0 es.length cap0 i vb voff news.length vc _ _ w hilt hm hle0 (by omega) hby (by rw [hxl, hl0]) (by rw [hfl, hvl]) hgx hvc h1x h1v).mono ?_
        rintro e w' ⟨G, rfl, hGn, hGm, hgr, c2, hg2, hs2, ht2⟩
        have hkeep : ∀ g, g < w.heap.size → own (.slice (some ⟨g0, 0, none⟩) es.length cap0) ≠ some g → w'.heap[g]? = w.heap[g]? := fun k hk _ => hgr.block k hk (by simp)
        have hG0 : ¬ G = 0 := by omega
        refine ⟨_, rfl, (below_grown hgr (Nat.le_refl _) fun k hk => by cases hk).mono hBw, hkeep, hgr.size, fun k hk => .inl (by simp [own, hG0] at hk; omega), rfl, fin vs0 _ w' hl0 hsz0 h10 hr0 hkeep ⟨?_, .inr ⟨w.heap.size, G, c2, rfl, hBw, hg2, hGn, hGm, hs2, ht2⟩⟩⟩
        rw [← ht2, List.length_take, show c2.toList.length = c2.size from Array.length_toList, hs2]
        omega
end Go.Proofs.YtdmkmbaaemhhhaaDoor
namespace Go.Ev
open Go Go.RowKit
set_option linter.unusedVariables false
/-- a function that takes a row, at nil: what it gives back is a row of one's own -/
theorem take_zero {P : Program} {J : World → Prop} {f : FuncId} {T : TypeId} {sz : Nat} {as1 es' : List V} (hJJ : Stable J) (hpos : 0 < sz) (h : TakeAt P J f T sz [] as1 es') (hd : ∀ a ∈ as1, V.data a = true) : SoundAt P J f (.zero :: as1) (.vec 0) [.vec T sz es'] := by
  refine ⟨h.1, fun w ok vals hJ hok hlen hrel => ?_⟩
  match vals, hlen with
  | sv0 :: vals', hlen =>
    have h0 := hrel 0 _ sv0 rfl rfl
    cases h0
    have hI : Inv ok w.heap.size w (fun _ => none) (fun _ => none) := ⟨Nat.le_refl _, (fun b k hk => by cases hk), (fun b sv hr => by cases hr), (fun b b' sv sv' g h1 => by cases h1)⟩
    have hR := RoQ.all hI
    refine (h.2 w w.heap.size (fun g => g < w.heap.size) (okAt ok w.heap.size (fun _ => none) w) (.slice none 0 0) vals' (fun w' hb => hJJ w w' hJ hb) (Nat.le_refl _) (fun g hg => ⟨hg, by simp [own]⟩) (fun g hg => okAt_lt (Nat.le_refl _) hg) rfl hpos ⟨[], rfl, by simp, by simp, by simp, .inl ⟨none, rfl, rfl⟩⟩ (by simpa using hlen) fun j c u hc hu => ?_).mono ?_
    · have hx := hrel (j + 1) c u (by simpa using hc) (by simpa using hu)
      have hc' := hd c (List.mem_of_getElem? hc)
      refine tk_rel hI hR (v := c) (.ro (hx.mono fun g hg => ⟨.inl ⟨hok g hg, hg⟩, rfl⟩)) ?_
      cases c <;> simp_all [tk1, V.data]
    · rintro e w' ⟨sv', rfl, hb, hkeep, hsz, hown', hone, hO⟩
      have key : ∀ b sv, one 0 sv' b = some sv → b = 0 ∧ sv = sv' := by
        intro b sv hs
        unfold Ev.one at hs
        split at hs
        · rename_i e; simp at hs; exact ⟨e, hs.symm⟩
        · cases hs
      refine ⟨sv', one 0 sv', rfl, hb, ⟨hb.size, ?_, ?_, ?_⟩, .vec 0 sv' (by simp [one]) hone⟩
      · intro b k hk
        match b with
        | 0 =>
          simp at hk
          subst hk
          refine ⟨sv', by simp [one], hpos, hO.mono (fun g hg => ⟨?_, rfl⟩) fun _ _ => rfl⟩
          rcases hg with h | ⟨h1, h2, _⟩
          · exact .inl h
          · omega
        | b + 1 => simp at hk
      · intro b sv hs
        obtain ⟨rfl, rfl⟩ := key b sv hs
        exact ⟨_, rfl⟩
      · intro b b' sv s2 g h1 h2 _ _
        rw [(key b sv h1).1, (key b' s2 h2).1]
noncomputable def take1 (T : TypeId) (sz : Nat) (es as1 es' : List V) : TypeId → Nat → List V → List V → Option (List V) := fun T' sz' es0 as0 => open Classical in if T' = T ∧ sz' = sz ∧ es0 = es ∧ as0 = as1 then some es' else none
theorem take1_eq (T : TypeId) (sz : Nat) (es as1 es' : List V) : take1 T sz es as1 es' T sz es as1 = some es' := by unfold take1; rw [if_pos ⟨rfl, rfl, rfl, rfl⟩]
theorem take1_ok {P : Program} {J : World → Prop} {f : FuncId} {T : TypeId} {sz : Nat} {es as1 es' : List V} {l : Lam} (h : TakeAt P J f T sz es as1 es') (hl : LamOk P J l) : LamOk P J ((f, (true, take1 T sz es as1 es')) :: l) := by
  refine ⟨fun T' sz' e0 a0 e1 he => ?_, hl⟩
  unfold take1 at he
  simp only at he
  split at he
  · rename_i hc
    obtain ⟨rfl, rfl, rfl, rfl⟩ := hc
    simp only [Option.some.injEq] at he
    subst he
    exact h
  · cases he
end Go.Ev
namespace Go.Proofs.YtdmkmbaaemhhhaaDoor
open Go Go.Ev Go.RowKit Go.Acc
set_option maxHeartbeats 4000000
set_option linter.unusedSimpArgs false
set_option linter.unusedVariables false
attribute [local go_sem] mutV getB mvB bkB V.mv V.mvL V.bk V.bkL Blk.mv Blk.bk posN nmN backN noDup app_writes setHL_nil setHL_cons postM_ret postM_normal resM hasB_nil hasB_cons St.mut names_nil names_cons sortV cellOf mkX_M mkX_S mkX_ln lnL_at ms0_mt ms0_st V.lone V.loneL List.zip_cons_cons List.zip_nil_left Option.isNone_none bornV subE partR unB bytesW boundsV ownP sliceW copyV clearV lenM takeV tk1 mapsV mkMapV hintOk lookV updV mapKE keyOk V.key app_lend callW_fn lendV postL_ret postL_normal postT_ret postT_normal takeR St.lent mkX_L bin_eql_vz bin_eql_zv bin_eql_rz bin_eql_zr bin_eql_zz bin_neq_vz bin_neq_zv bin_neq_rz bin_neq_zr bin_neq_zz eqH nilEq nonE plainI gOf_bool gOf_skip g_some g_none Int.ofNat_zero Int.cast_ofNat_Int Bool.false_and Bool.and_false sliceV noBox elemsZ V.scrub V.scrubL Blk.scrub appendV isSlice maxLen_eq leT List.contains_nil List.contains_cons nvL_at fzL_at fillV V.plain V.plainL Blk.plain List.size_toArray mapO_nil mapO_cons Option.isNone_some beqT beqF oI_not mkX_e phi_nil phi_cons bin_eql_bool bin_neq_bool bin_eql_agg bin_neq_agg eqV eqFs eqK_int eqK_bool' eqK_str mkX_T mkX_Φ mkX_n mkX_f mkX_d mkX_r nv0_at fz0_at evQ_dr evP_W evW_nil evW_cons evW_guard okW_eq tame_none tame_new tame_write wb_none wb_new wb_write okU_some offW_none offW_some touchOf V.noRef V.noRefL Option.isSome_some Option.isSome_none mild_none mild_new Option.getD_some Option.getD_none evQ_seq evQ_region evQ_block evQ_cond evQ_ret evQ_skip evQ_exit evO_cons evO_nil evO_guard freezeL_nil oS_some oS_none oS_ite oS_ite' oB_bool oI_true oI_false oE_normal oE_exit oE_ret bQ_normal bQ_ret bQ_exit lQ_normal lQ_ret lQ_exit List.zipIdx_cons List.zipIdx_nil List.map_cons List.map_nil evalOp opd_const opd_tmp opd_func ofC_int ofC_bool ofC_str ofC_nil app_none app_new app_write app_change putE_some putE_none setA_cons setA_nil setH_cons setH_nil mapA_cons mapA_nil look_cons look_nil e_mk h_mk drop_nil drop_mk keep_mk dstOk_some dstOk_none guardT_eq true_and and_true Bool.not_false Bool.not_true selB_true selB_false mem_nil mem_cons kpL_nil kpL_cons drL_nil drL_cons closed_mk V.refsIn V.refsInL Blk.refsIn List.all_cons List.all_nil lenV bin_add bin_sub bin_mul bin_quo bin_rem bin_eql bin_neq bin_lss bin_leq bin_gtr bin_geq un_neg un_not post_ret post_normal St.init Bool.false_eq_true List.length_map Bool.or_false Bool.or_true Bool.false_or Bool.true_or beq_self_eq_true Option.map_some Option.map_none Option.bind_some List.getElem?_cons_zero List.getElem?_cons_succ scalar stor isAggV V.cells List.cons_append List.nil_append if_true if_false wrap_of callV V.dataL V.data Bool.and_true Bool.true_and fresh names V.ren V.renL retV resV packL packV packC getBlks wrapR subV putV decide_true decide_false TK.agg List.length_cons List.length_nil List.take_succ_cons List.take_zero List.drop_succ_cons List.drop_zero List.take_nil List.drop_nil Nat.zero_add Nat.add_zero List.append_nil List.getElem?_nil elemsV ro ro0 ro1 roC ty1 ty2 ty3 ty4 ty5 ty6 ty7 ty8 ty9 ty10 ty11 ty12 ty13 ty14 ty15 ty16 ty17 ty18 ty19 ty21 ty22 ty23 ty24 ty26 ty27 ty28 ty29 ty30 ty31 ty32 ty33 ty34 ty35 ty36 ty37 ty38 ty39 ty40 ty41 ty42 ty44 ty45 ty47 ty49 ty51 ty53 ty54 ty55 ty56 ty57 ty58 ty59 ty60 ty61 ty62 ty63 ty64 ty65 ty66 ty67 ty68 ty69 ty70 ty71 ty72 ty73 ty74 ty75 ty76 ty77 ty78 ty79 ty80 ty81 ty82 ty83 ty84 ty85 ty86 ty87 ty88 ty89 ty90 ty92 ty93 ty94 ty95 ty96 ty97 ty98 ty99 ty100 ty101 ty102 ty103 ty104 ty105 ty107 ty108 ty109 ty110 ty111 ty112 ty113 ty114 ty115 ty116 ty117 ty118 ty119 ty123 ty124 ty125 ty126 ty127 ty128 ty129 ty130 ty131 ty132 ty133 ty135 ty136 ty137 ty138 ty139 ty141 ty142 ty143 ty144 ty146 ty147 ty148 ty149 ty153 ty154 ty155 ty156 ty157 ty158 ty159 ty160 ty161 eqs29 eqs61 eqs79 eqs94
set_option maxHeartbeats 4000000 in
theorem copied_own {J : World → Prop} (hJ : Stable J) (A : List (ByteArray × Int)) (x0 : En) (r0 : List En) (s : Int) (hA : A.length ≤ 24) (hE : ∀ x ∈ x0 :: r0, x.2.2.length ≤ 12) (hl : (x0 :: r0).length ≤ 60) :
    SoundAt Tryd.prog J 40 [bkV A (x0 :: r0) s] (.agg [.row 2 (A.map acV), .vec 0, .int .i64 s]) [.vec 34 3 ((x0 :: r0).map enW)] := by
  generalize hEE : x0 :: r0 = E at *
  unfold bkV
  refine evFn (l := [(45, cloneF), (77, cloneF)]) (nv := nv0) (fz := fz0) (dr := dr40) (dd := dd40) (lam := []) (ms := ms0) ⟨cloneL_snd hJ, cloneA_snd hJ, trivial⟩ hJ trivial ms0_ok Tryd.func40 rfl rfl (Nat.le_of_ble_eq_true rfl) (Nat.le_of_ble_eq_true rfl) drOk40 ?_
  dsimp only [Tryd.f40, dr40, dd40, Option.getD_some]
  refine ev_start ?_
  have hcA := cloneF_eq A (by omega)
  simp (disch := omega) only [List.length_map, hcA, freezeL, go_sem, Int.reduceEq, Int.reduceLT, Int.reduceLE, Int.reduceNeg, Nat.reduceAdd, Nat.reduceLT, Nat.reduceEqDiff, Nat.reduceMul, Nat.reduceLeDiff, reduceIte, Nat.reduceBEq, reduceCtorEq, evP_D, evD_guard, evD_cons, evD_zero, evD_nil]
  refine evQ_loop [2, 3, 13, 14, 15] [16, 24, 216] (fun σ => ∃ (k : Nat), k ≤ E.length ∧ σ = cpS A E s k)
    (fun σ => E.length - (match Ev.look 15 σ.env with | some (.int _ n) => n.toNat | _ => 0)) ?_ ?_
  · simp only [go_sem, Int.reduceEq, Int.reduceLT, Int.reduceLE, Int.reduceNeg, Nat.reduceAdd, Nat.reduceLT, Nat.reduceEqDiff, Nat.reduceMul, Nat.reduceLeDiff, reduceIte, Nat.reduceBEq, reduceCtorEq, evP_D, evD_guard, evD_cons, evD_zero, evD_nil]
    exact ⟨0, Nat.zero_le _, rfl⟩
  · rintro σ ⟨k, hkl, rfl⟩
    by_cases hlt : k < E.length
    · have hlt' : (k : Int) < E.length := by omega
      obtain ⟨⟨c, d, l⟩, hcn⟩ : ∃ p, E[k]? = some p := ⟨_, List.getElem?_eq_getElem hlt⟩
      have hcl := cloneF_eq l (by have := hE _ (List.mem_of_getElem? hcn); simp only at this; omega)
      have hg := enW_get hcn
      have ht := take_enW hcn
      have hms : E.length - ((k : Int) + 1).toNat < E.length - (k : Int).toNat := by
        have e3 : ((k : Int) + 1).toNat = k + 1 := by omega
        rw [e3, Int.toNat_natCast]; exact Nat.sub_lt_sub_left hlt (Nat.lt_succ_self k)
      cases k with
      | zero =>
        have z0 : ((0 : Nat) : Int) = 0 := rfl
        have hi0 := idx_nat E.length 0 hlt
        rw [z0] at hlt' hi0 hms
        unfold cpS
        simp (disch := (first | omega | assumption)) only [hlt', hi0, List.length_map, hg, hcl, freezeL, go_sem, Int.reduceEq, Int.reduceLT, Int.reduceLE, Int.reduceNeg, Nat.reduceAdd, Nat.reduceLT, Nat.reduceEqDiff, Nat.reduceMul, Nat.reduceLeDiff, reduceIte, Nat.reduceBEq, reduceCtorEq, evP_D, evD_guard, evD_cons, evD_zero, evD_nil]
        exact ⟨⟨1, hlt, by simp only [cpS, ht]; rfl⟩, hms⟩
      | succ k =>
        have hlk : (E.take (k + 1)).length = k + 1 := by rw [List.length_take]; omega
        unfold cpS
        simp (disch := (first | omega | assumption)) only [hlt', idx_nat, List.length_map, hlk, List.length_append, List.length_cons, List.length_nil, hg, hcl, freezeL, go_sem, Int.reduceEq, Int.reduceLT, Int.reduceLE, Int.reduceNeg, Nat.reduceAdd, Nat.reduceLT, Nat.reduceEqDiff, Nat.reduceMul, Nat.reduceLeDiff, reduceIte, Nat.reduceBEq, reduceCtorEq, evP_D, evD_guard, evD_cons, evD_zero, evD_nil]
        exact ⟨⟨k + 2, hlt, by simp only [cpS, ht]; rfl⟩, hms⟩
    · have hk' : k = E.length := by omega
      subst hk'
      subst hEE
      have hlt'' : ¬ (((r0.length + 1 : Nat) : Int) < ((r0.length + 1 : Nat) : Int)) := by omega
      have htk : (x0 :: r0).take (r0.length + 1) = x0 :: r0 := List.take_length (l := x0 :: r0)
      simp only [List.length_cons, cpS]
      simp (disch := (first | omega | assumption)) only [hlt'', htk, freezeL, go_sem, Int.reduceEq, Int.reduceLT, Int.reduceLE, Int.reduceNeg, Nat.reduceAdd, Nat.reduceLT, Nat.reduceEqDiff, Nat.reduceMul, Nat.reduceLeDiff, reduceIte, Nat.reduceBEq, reduceCtorEq, evP_D, evD_guard, evD_cons, evD_zero, evD_nil]
end Go.Proofs.YtdmkmbaaemhhhaaDoor
namespace Go.Proofs.YtdmkmbaaemhhhaaDoor
open Go Go.Ev Go.RowKit Go.Acc
set_option maxHeartbeats 4000000
set_option linter.unusedSimpArgs false
set_option linter.unusedVariables false
attribute [local go_sem] mutV getB mvB bkB V.mv V.mvL V.bk V.bkL Blk.mv Blk.bk posN nmN backN noDup app_writes setHL_nil setHL_cons postM_ret postM_normal resM hasB_nil hasB_cons St.mut names_nil names_cons sortV cellOf mkX_M mkX_S mkX_ln lnL_at ms0_mt ms0_st V.lone V.loneL List.zip_cons_cons List.zip_nil_left Option.isNone_none bornV subE partR unB bytesW boundsV ownP sliceW copyV clearV lenM takeV tk1 mapsV mkMapV hintOk lookV updV mapKE keyOk V.key app_lend callW_fn lendV postL_ret postL_normal postT_ret postT_normal takeR St.lent mkX_L bin_eql_vz bin_eql_zv bin_eql_rz bin_eql_zr bin_eql_zz bin_neq_vz bin_neq_zv bin_neq_rz bin_neq_zr bin_neq_zz eqH nilEq nonE plainI gOf_bool gOf_skip g_some g_none Int.ofNat_zero Int.cast_ofNat_Int Bool.false_and Bool.and_false sliceV noBox elemsZ V.scrub V.scrubL Blk.scrub appendV isSlice maxLen_eq leT List.contains_nil List.contains_cons nvL_at fzL_at fillV V.plain V.plainL Blk.plain List.size_toArray mapO_nil mapO_cons Option.isNone_some beqT beqF oI_not mkX_e phi_nil phi_cons bin_eql_bool bin_neq_bool bin_eql_agg bin_neq_agg eqV eqFs eqK_int eqK_bool' eqK_str mkX_T mkX_Φ mkX_n mkX_f mkX_d mkX_r nv0_at fz0_at evQ_dr evP_W evW_nil evW_cons evW_guard okW_eq tame_none tame_new tame_write wb_none wb_new wb_write okU_some offW_none offW_some touchOf V.noRef V.noRefL Option.isSome_some Option.isSome_none mild_none mild_new Option.getD_some Option.getD_none evQ_seq evQ_region evQ_block evQ_cond evQ_ret evQ_skip evQ_exit evO_cons evO_nil evO_guard freezeL_nil oS_some oS_none oS_ite oS_ite' oB_bool oI_true oI_false oE_normal oE_exit oE_ret bQ_normal bQ_ret bQ_exit lQ_normal lQ_ret lQ_exit List.zipIdx_cons List.zipIdx_nil List.map_cons List.map_nil evalOp opd_const opd_tmp opd_func ofC_int ofC_bool ofC_str ofC_nil app_none app_new app_write app_change putE_some putE_none setA_cons setA_nil setH_cons setH_nil mapA_cons mapA_nil look_cons look_nil e_mk h_mk drop_nil drop_mk keep_mk dstOk_some dstOk_none guardT_eq true_and and_true Bool.not_false Bool.not_true selB_true selB_false mem_nil mem_cons kpL_nil kpL_cons drL_nil drL_cons closed_mk V.refsIn V.refsInL Blk.refsIn List.all_cons List.all_nil lenV bin_add bin_sub bin_mul bin_quo bin_rem bin_eql bin_neq bin_lss bin_leq bin_gtr bin_geq un_neg un_not post_ret post_normal St.init Bool.false_eq_true List.length_map Bool.or_false Bool.or_true Bool.false_or Bool.true_or beq_self_eq_true Option.map_some Option.map_none Option.bind_some List.getElem?_cons_zero List.getElem?_cons_succ scalar stor isAggV V.cells List.cons_append List.nil_append if_true if_false wrap_of callV V.dataL V.data Bool.and_true Bool.true_and fresh names V.ren V.renL retV resV packL packV packC getBlks wrapR subV putV decide_true decide_false TK.agg List.length_cons List.length_nil List.take_succ_cons List.take_zero List.drop_succ_cons List.drop_zero List.take_nil List.drop_nil Nat.zero_add Nat.add_zero List.append_nil List.getElem?_nil elemsV ro ro0 ro1 roC ty1 ty2 ty3 ty4 ty5 ty6 ty7 ty8 ty9 ty10 ty11 ty12 ty13 ty14 ty15 ty16 ty17 ty18 ty19 ty21 ty22 ty23 ty24 ty26 ty27 ty28 ty29 ty30 ty31 ty32 ty33 ty34 ty35 ty36 ty37 ty38 ty39 ty40 ty41 ty42 ty44 ty45 ty47 ty49 ty51 ty53 ty54 ty55 ty56 ty57 ty58 ty59 ty60 ty61 ty62 ty63 ty64 ty65 ty66 ty67 ty68 ty69 ty70 ty71 ty72 ty73 ty74 ty75 ty76 ty77 ty78 ty79 ty80 ty81 ty82 ty83 ty84 ty85 ty86 ty87 ty88 ty89 ty90 ty92 ty93 ty94 ty95 ty96 ty97 ty98 ty99 ty100 ty101 ty102 ty103 ty104 ty105 ty107 ty108 ty109 ty110 ty111 ty112 ty113 ty114 ty115 ty116 ty117 ty118 ty119 ty123 ty124 ty125 ty126 ty127 ty128 ty129 ty130 ty131 ty132 ty133 ty135 ty136 ty137 ty138 ty139 ty141 ty142 ty143 ty144 ty146 ty147 ty148 ty149 ty153 ty154 ty155 ty156 ty157 ty158 ty159 ty160 ty161 eqs29 eqs61 eqs79 eqs94
theorem enW_mk (k : ByteArray) (d : Int) (l : List (ByteArray × Int)) : enW (k, d, l) = .agg [.str k, .int .i64 d, .row 2 (l.map acV)] := rfl
noncomputable def poPhi (A : List (ByteArray × Int)) (E : List En) (s : Int) (x : En) : Phi :=
  [(20, at1 [.agg [.row 2 (A.map acV), .row 3 (E.map enW), .int .i64 s]] (.int .i64 (bkChk A E s), [])), (49, echeckF), (44, at1 [.agg [.row 2 (A.map acV), .row 3 (E.map enW), .int .i64 s], .str x.1] (.int .i64 (fiE x.1 E), [])), (50, knownF)]
theorem poPhi_ok {J : World → Prop} (hJ : Stable J) (A : List (ByteArray × Int)) (E : List En) (s : Int) (x : En) (hE : E.length ≤ maxLen) : PhiOk Tryd.prog J (poPhi A E s x) :=
  ⟨at1_snd (bcheck_sound hJ A E s hE), echeck_snd hJ, at1_snd (bfind_sound hJ A E s x.1), known_snd hJ, trivial⟩
def posR (A : List (ByteArray × Int)) (E : List En) (s : Int) (x : En) : V := .tup [if postE A E s x = 0 then bkV A (postB E x) s else zbV, .int .i64 (postE A E s x)]
theorem bse_snd {J : World → Prop} (hJ : Stable J) {A : List (ByteArray × Int)} {E : List En} {s : Int} {x : En} (hz : bkChk A E s = 0) (hx : enX x = 0) :
    SoundAt Tryd.prog J 73 [.row 3 (E.map enW), enW x, .fn 51 []] (.tup [.int .i64 (posE x E), .bool (bsB x E)]) [] := by
  obtain ⟨_, _, h3, h4, _, h6⟩ := bkChk_iff.1 hz
  exact bse_sound hJ E x h6 (fun y hy => (enX_ok (h4 y hy).1).1) (enX_ok hx).1 h3
theorem insE_rows (x : En) (E : List En) : (E.map enW).take (posE x E) ++ [enW x] ++ (E.map enW).drop (posE x E) = (insE x E).map enW := by
  unfold insE
  rw [List.map_append, List.map_cons, List.map_take, List.map_drop, List.append_assoc]
  rfl
set_option maxRecDepth 20000 in
set_option maxHeartbeats 8000000 in
theorem post_sound {J : World → Prop} (hJ : Stable J) (A : List (ByteArray × Int)) (E : List En) (s : Int) (x : En) (hE : E.length ≤ maxLen) : SoundAt Tryd.prog J 36 [bkV A E s, enW x] (posR A E s x) [] := by
  have hP := poPhi_ok hJ A E s x hE
  obtain ⟨k, d, l⟩ := x
  unfold bkV
  rw [enW_mk]
  by_cases hz : bkChk A E s = 0
  case neg =>
    have e1 : postE A E s (k, d, l) = bkChk A E s := if_pos hz
    have eR : posR A E s (k, d, l) = .tup [.agg [.zero, .zero, .int .i64 0], .int .i64 (bkChk A E s)] := by unfold posR; rw [e1, if_neg hz]; rfl
    rw [eR]
    refine evFn (l := poPhi A E s (k, d, l)) (nv := nv0) (fz := fz0) (dr := dr36) (dd := dd36) (lam := []) (ms := ms0) hP hJ trivial ms0_ok Tryd.func36 rfl rfl (Nat.le_of_ble_eq_true rfl) (Nat.le_of_ble_eq_true rfl) drOk36 ?_
    dsimp only [Tryd.f36, dr36, dd36, Option.getD_some]
    refine ev_start ?_
    simp (disch := omega) only [poPhi, at1_eq, hz, go_sem, Int.reduceEq, Int.reduceLT, Int.reduceLE, Int.reduceNeg, Nat.reduceAdd, Nat.reduceLT, Nat.reduceEqDiff, Nat.reduceMul, Nat.reduceLeDiff, reduceIte, Nat.reduceBEq, reduceCtorEq, evP_D, evD_guard, evD_cons, evD_zero, evD_nil]
  by_cases hx : enX (k, d, l) = 0
  case neg =>
    have e1 : postE A E s (k, d, l) = enX (k, d, l) := by unfold postE; rw [if_neg (fun h => h hz), if_pos hx]
    have eR : posR A E s (k, d, l) = .tup [.agg [.zero, .zero, .int .i64 0], .int .i64 (enE k d l)] := by unfold posR; rw [e1, if_neg hx]; rfl
    have hx' : ¬ enE k d l = 0 := hx
    rw [eR]
    refine evFn (l := poPhi A E s (k, d, l)) (nv := nv0) (fz := fz0) (dr := dr36) (dd := dd36) (lam := []) (ms := ms0) hP hJ trivial ms0_ok Tryd.func36 rfl rfl (Nat.le_of_ble_eq_true rfl) (Nat.le_of_ble_eq_true rfl) drOk36 ?_
    dsimp only [Tryd.f36, dr36, dd36, Option.getD_some]
    refine ev_start ?_
    simp (disch := omega) only [poPhi, at1_eq, echeckF_eq, hz, hx', go_sem, Int.reduceEq, Int.reduceLT, Int.reduceLE, Int.reduceNeg, Nat.reduceAdd, Nat.reduceLT, Nat.reduceEqDiff, Nat.reduceMul, Nat.reduceLeDiff, reduceIte, Nat.reduceBEq, reduceCtorEq, evP_D, evD_guard, evD_cons, evD_zero, evD_nil]
  have hx' : enE k d l = 0 := hx
  have hk := bkChk_ok hz
  have hA24 := acChk_len hk.1
  have hE12 : ∀ y ∈ E, y.2.2.length ≤ 12 := fun y hy => (enX_ok (hk.2.2.2 y hy).1).2.1
  cases hg : getE k E with
  | some y =>
    obtain ⟨i, hi, hyi⟩ := fiE_some hg
    have hlt : i < E.length := (List.getElem?_eq_some_iff.1 hyi).1
    have hfi : (0 : Int) ≤ i := by omega
    have e1 : postE A E s (k, d, l) = if y = (k, d, l) then 0 else 5 := by unfold postE; rw [if_neg (fun h => h hz), if_neg (fun h => h hx)]; simp only [hg]
    have e2 : postB E (k, d, l) = E := by unfold postB; simp only [hg]
    have hS := esame_sound hJ y (k, d, l)
    obtain ⟨k', d', l'⟩ := y
    have hyg := enW_get hyi
    simp only [enW_mk] at hS
    have hP' : PhiOk Tryd.prog J ((72, at1 _ (.bool (decide ((k', d', l') = (k, d, l))), [])) :: poPhi A E s (k, d, l)) := ⟨at1_snd hS, hP⟩
    by_cases hy : (k', d', l') = (k, d, l)
    · rw [if_pos hy] at e1
      have eR : posR A E s (k, d, l) = .tup [.agg [.row 2 (A.map acV), .row 3 (E.map enW), .int .i64 s], .int .i64 0] := by unfold posR; rw [e1, if_pos rfl, e2]; rfl
      have hC := copied_sound hJ A E s hA24 hE12 hk.2.2.1
      unfold bkV at hC
      rw [eR]
      refine evFn (l := (40, at1 _ (_, [])) :: (72, at1 _ (_, [])) :: poPhi A E s (k, d, l)) (nv := nv0) (fz := fz0) (dr := dr36) (dd := dd36) (lam := []) (ms := ms0) ⟨at1_snd hC, hP'⟩ hJ trivial ms0_ok Tryd.func36 rfl rfl (Nat.le_of_ble_eq_true rfl) (Nat.le_of_ble_eq_true rfl) drOk36 ?_
      dsimp only [Tryd.f36, dr36, dd36, Option.getD_some]
      refine ev_start ?_
      simp (disch := (first | omega | assumption)) only [poPhi, at1_eq, echeckF_eq, hz, hx', hi, hfi, idx_nat, List.length_map, hyg, decide_eq_true hy, go_sem, Int.reduceEq, Int.reduceLT, Int.reduceLE, Int.reduceNeg, Nat.reduceAdd, Nat.reduceLT, Nat.reduceEqDiff, Nat.reduceMul, Nat.reduceLeDiff, reduceIte, Nat.reduceBEq, reduceCtorEq, evP_D, evD_guard, evD_cons, evD_zero, evD_nil]
    · rw [if_neg hy] at e1
      have eR : posR A E s (k, d, l) = .tup [.agg [.zero, .zero, .int .i64 0], .int .i64 5] := by unfold posR; rw [e1, if_neg (by decide)]; rfl
      rw [eR]
      refine evFn (l := (72, at1 _ (_, [])) :: poPhi A E s (k, d, l)) (nv := nv0) (fz := fz0) (dr := dr36) (dd := dd36) (lam := []) (ms := ms0) hP' hJ trivial ms0_ok Tryd.func36 rfl rfl (Nat.le_of_ble_eq_true rfl) (Nat.le_of_ble_eq_true rfl) drOk36 ?_
      dsimp only [Tryd.f36, dr36, dd36, Option.getD_some]
      refine ev_start ?_
      simp (disch := (first | omega | assumption)) only [poPhi, at1_eq, echeckF_eq, hz, hx', hi, hfi, idx_nat, List.length_map, hyg, decide_eq_false hy, go_sem, Int.reduceEq, Int.reduceLT, Int.reduceLE, Int.reduceNeg, Nat.reduceAdd, Nat.reduceLT, Nat.reduceEqDiff, Nat.reduceMul, Nat.reduceLeDiff, reduceIte, Nat.reduceBEq, reduceCtorEq, evP_D, evD_guard, evD_cons, evD_zero, evD_nil]
  | none =>
    have hfn := fiE_none hg
    have e0 : postE A E s (k, d, l) = if knownB A (k, d, l) = false then 4 else if d ≤ s then 9 else if E.length = 60 then 2 else 0 := by unfold postE; rw [if_neg (fun h => h hz), if_neg (fun h => h hx)]; simp only [hg]
    cases hkn : knownB A (k, d, l) with
    | false =>
      have e1 : postE A E s (k, d, l) = 4 := by rw [e0, if_pos hkn]
      have eR : posR A E s (k, d, l) = .tup [.agg [.zero, .zero, .int .i64 0], .int .i64 4] := by unfold posR; rw [e1, if_neg (by decide)]; rfl
      rw [eR]
      refine evFn (l := poPhi A E s (k, d, l)) (nv := nv0) (fz := fz0) (dr := dr36) (dd := dd36) (lam := []) (ms := ms0) hP hJ trivial ms0_ok Tryd.func36 rfl rfl (Nat.le_of_ble_eq_true rfl) (Nat.le_of_ble_eq_true rfl) drOk36 ?_
      dsimp only [Tryd.f36, dr36, dd36, Option.getD_some]
      refine ev_start ?_
      simp (disch := omega) only [poPhi, at1_eq, echeckF_eq, knownF_eq, hkn, hz, hx', hfn, go_sem, Int.reduceEq, Int.reduceLT, Int.reduceLE, Int.reduceNeg, Nat.reduceAdd, Nat.reduceLT, Nat.reduceEqDiff, Nat.reduceMul, Nat.reduceLeDiff, reduceIte, Nat.reduceBEq, reduceCtorEq, evP_D, evD_guard, evD_cons, evD_zero, evD_nil]
    | true =>
      by_cases hds : d ≤ s
      · have e1 : postE A E s (k, d, l) = 9 := by rw [e0, if_neg (by rw [hkn]; simp), if_pos hds]
        have eR : posR A E s (k, d, l) = .tup [.agg [.zero, .zero, .int .i64 0], .int .i64 9] := by unfold posR; rw [e1, if_neg (by decide)]; rfl
        rw [eR]
        refine evFn (l := poPhi A E s (k, d, l)) (nv := nv0) (fz := fz0) (dr := dr36) (dd := dd36) (lam := []) (ms := ms0) hP hJ trivial ms0_ok Tryd.func36 rfl rfl (Nat.le_of_ble_eq_true rfl) (Nat.le_of_ble_eq_true rfl) drOk36 ?_
        dsimp only [Tryd.f36, dr36, dd36, Option.getD_some]
        refine ev_start ?_
        simp (disch := omega) only [poPhi, at1_eq, echeckF_eq, knownF_eq, hkn, hz, hx', hfn, hds, go_sem, Int.reduceEq, Int.reduceLT, Int.reduceLE, Int.reduceNeg, Nat.reduceAdd, Nat.reduceLT, Nat.reduceEqDiff, Nat.reduceMul, Nat.reduceLeDiff, reduceIte, Nat.reduceBEq, reduceCtorEq, evP_D, evD_guard, evD_cons, evD_zero, evD_nil]
      by_cases h60 : E.length = 60
      · have e1 : postE A E s (k, d, l) = 2 := by rw [e0, if_neg (by rw [hkn]; simp), if_neg hds, if_pos h60]
        have eR : posR A E s (k, d, l) = .tup [.agg [.zero, .zero, .int .i64 0], .int .i64 2] := by unfold posR; rw [e1, if_neg (by decide)]; rfl
        have h60' : ((E.length : Nat) : Int) = 60 := by omega
        rw [eR]
        refine evFn (l := poPhi A E s (k, d, l)) (nv := nv0) (fz := fz0) (dr := dr36) (dd := dd36) (lam := []) (ms := ms0) hP hJ trivial ms0_ok Tryd.func36 rfl rfl (Nat.le_of_ble_eq_true rfl) (Nat.le_of_ble_eq_true rfl) drOk36 ?_
        dsimp only [Tryd.f36, dr36, dd36, Option.getD_some]
        refine ev_start ?_
        simp (disch := omega) only [poPhi, at1_eq, echeckF_eq, knownF_eq, hkn, hz, hx', hfn, hds, List.length_map, h60', go_sem, Int.reduceEq, Int.reduceLT, Int.reduceLE, Int.reduceNeg, Nat.reduceAdd, Nat.reduceLT, Nat.reduceEqDiff, Nat.reduceMul, Nat.reduceLeDiff, reduceIte, Nat.reduceBEq, reduceCtorEq, evP_D, evD_guard, evD_cons, evD_zero, evD_nil]
      have h60' : ¬ ((E.length : Nat) : Int) = 60 := by omega
      have e1 : postE A E s (k, d, l) = 0 := by rw [e0, if_neg (by rw [hkn]; simp), if_neg hds, if_neg h60]
      have e2 : postB E (k, d, l) = insE (k, d, l) E := by unfold postB; simp only [hg]
      have eR : posR A E s (k, d, l) = .tup [.agg [.row 2 (A.map acV), .row 3 ((insE (k, d, l) E).map enW), .int .i64 s], .int .i64 0] := by unfold posR; rw [e1, if_pos rfl, e2]; rfl
      have hll : l.length ≤ 12 := (enX_ok hx).2.1
      have hcl := cloneF_eq l (by omega)
      have hbs := bse_snd hJ hz hx
      have hT := insE_take (J := J) (posE (k, d, l) E) (E.map enW) [enW (k, d, l)] (by rw [List.length_map]; exact posE_le _ _) (by simp) (by rw [List.length_map]; simp; have := hk.2.2.1; omega)
      rw [insE_rows] at hT
      rw [eR]
      rw [enW_mk] at hbs hT
      cases E with
      | nil =>
        have hC := copied_raw hJ A [] s hA24 hE12 hk.2.2.1
        rw [if_pos rfl] at hC
        unfold bkV at hC
        have hI := take_zero hJ (by decide) hT (fun a ha => by
          simp only [List.mem_cons, List.not_mem_nil, or_false] at ha
          rcases ha with rfl | rfl <;> rfl)
        have hb0 : SoundAt Tryd.prog J 73 [.zero, .agg [.str k, .int .i64 d, .row 2 (l.map acV)], .fn 51 []] (.tup [.int .i64 (posE (k, d, l) []), .bool (bsB (k, d, l) [])]) [] :=
          sound_by hbs rfl fun w ok j c v hc hv => by
            match j with
            | 0 => simp at hc; subst hc; exact ⟨_, rfl, zero_row 3 _ _ _ hv⟩
            | 1 => simp at hc; subst hc; exact ⟨_, rfl, hv⟩
            | 2 => simp at hc; subst hc; exact ⟨_, rfl, hv⟩
            | j + 3 => simp at hc
        refine evFn (l := (40, at1 _ (_, [])) :: (45, cloneF) :: (73, at1 _ (_, [])) :: (74, at1 _ (_, _)) :: poPhi A [] s (k, d, l)) (nv := nv0) (fz := fzL [(77, [608]), (79, [616])]) (dr := dr36) (dd := dd36) (lam := []) (ms := ms0) ⟨at1_snd hC, cloneL_snd hJ, at1_snd hb0, at1_snd hI, hP⟩ hJ trivial ms0_ok Tryd.func36 rfl rfl (Nat.le_of_ble_eq_true rfl) (Nat.le_of_ble_eq_true rfl) drOk36 ?_
        dsimp only [Tryd.f36, dr36, dd36, Option.getD_some]
        refine ev_start ?_
        simp (disch := (first | omega | assumption)) only [poPhi, at1_eq, echeckF_eq, knownF_eq, hkn, hz, hx', hfn, hds, List.length_map, h60', hcl, freezeL, St.freeze, List.filter_cons, List.filter_nil, bne, go_sem, Int.reduceEq, Int.reduceLT, Int.reduceLE, Int.reduceNeg, Nat.reduceAdd, Nat.reduceLT, Nat.reduceEqDiff, Nat.reduceMul, Nat.reduceLeDiff, reduceIte, Nat.reduceBEq, reduceCtorEq, evP_D, evD_guard, evD_cons, evD_zero, evD_nil]
      | cons x0 r0 =>
        have hC := copied_own hJ A x0 r0 s hA24 hE12 hk.2.2.1
        unfold bkV at hC
        refine evFn (l := (40, at1 _ (_, _)) :: (45, cloneF) :: (73, at1 _ (_, [])) :: poPhi A (x0 :: r0) s (k, d, l)) (nv := nv0) (fz := fzL [(79, [480])]) (dr := dr36) (dd := dd36) (lam := [(74, (true, take1 34 3 ((x0 :: r0).map enW) [.int .i64 (posE (k, d, l) (x0 :: r0)), .row 3 [.agg [.str k, .int .i64 d, .row 2 (l.map acV)]]] ((insE (k, d, l) (x0 :: r0)).map enW)))]) (ms := ms0) ⟨at1_snd hC, cloneL_snd hJ, at1_snd hbs, hP⟩ hJ (take1_ok hT trivial) ms0_ok Tryd.func36 rfl rfl (Nat.le_of_ble_eq_true rfl) (Nat.le_of_ble_eq_true rfl) drOk36 ?_
        dsimp only [Tryd.f36, dr36, dd36, Option.getD_some]
        refine ev_start ?_
        generalize hEE : x0 :: r0 = E at *
        simp (disch := (first | omega | assumption)) only [poPhi, at1_eq, take1_eq, echeckF_eq, knownF_eq, hkn, hz, hx', hfn, hds, List.length_map, h60', hcl, List.mapM_cons, List.mapM_nil, Option.bind_eq_bind, Option.pure_def, freezeL, St.freeze, List.filter_cons, List.filter_nil, bne, go_sem, Int.reduceEq, Int.reduceLT, Int.reduceLE, Int.reduceNeg, Nat.reduceAdd, Nat.reduceLT, Nat.reduceEqDiff, Nat.reduceMul, Nat.reduceLeDiff, reduceIte, Nat.reduceBEq, reduceCtorEq, evP_D, evD_guard, evD_cons, evD_zero, evD_nil]
end Go.Proofs.YtdmkmbaaemhhhaaDoor
