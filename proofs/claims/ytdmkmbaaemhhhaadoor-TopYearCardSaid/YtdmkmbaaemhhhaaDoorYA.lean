/-
  Steps of the proof of TopYear, joined: EnJ EntrySaysW BkJ BkK BookTellsW TyPl JobL EarnP TopP PoE PoF PoG PoH.
-/
import Derived.Test.YtdmkmbaaemhhhaaDoorEnI
import Derived.Test.YtdmkmbaaemhhhaaDoorBkI
import Derived.Test.YtdmkmbaaemhhhaaDoorJobP
import Derived.Test.YtdmkmbaaemhhhaaDoorJobG
import Derived.Test.YtdmkmbaaemhhhaaDoorJobK
import Derived.Test.YtdmkmbaaemhhhaaDoorRnd
import Derived.Test.YtdmkmbaaemhhhaaDoorCal
import Derived.Test.YtdmkmbaaemhhhaaDoorDecE
import Derived.Test.YtdmkmbaaemhhhaaDoorPoP
import Derived.Test.YtdmkmbaaemhhhaaDoorBkE
import Derived.Test.YtdmkmbaaemhhhaaDoorEnH
import Derived.Test.YtdmkmbaaemhhhaaDoorInsE
namespace Go.Proofs.YtdmkmbaaemhhhaaDoor
open Go Go.Ev Go.RowKit Go.Acc
theorem key_a : keyOk' ⟨#[97]⟩ = true := by decide
theorem echeck_zero : echeckF [.agg [.str ByteArray.empty, .int .i64 0, .zero]] = some (.int .i64 3, []) := by
  have : enE ByteArray.empty 0 [] = 3 := by decide
  simp only [echeckF, rowAc, Option.map_some, this]
end Go.Proofs.YtdmkmbaaemhhhaaDoor
namespace Go.Proofs.YtdmkmbaaemhhhaaDoor
open Go Go.Ev Go.RowKit Go.Acc
theorem tyC_strs {P : Program} {m : Nat} {t : TypeId} {c : V} (h : TyC P (m + 1) t [c]) (hu : P.underlying t = some .string) : ∃ s, c = .str s ∧ s.size ≤ maxLen := by
  unfold TyC at h
  rw [hu] at h
  obtain ⟨n, h1, h2⟩ := h
  exact ⟨n, by simpa using h1, h2⟩
theorem tyC_ints {P : Program} {m : Nat} {t : TypeId} {c : V} {k : IntKind} (h : TyC P (m + 1) t [c]) (hu : P.underlying t = some (.int k)) : ∃ n, c = .int k n := by
  unfold TyC at h
  rw [hu] at h
  obtain ⟨n, h1, h2⟩ := h
  exact ⟨n, by simpa using h1⟩
theorem tyC_slices {P : Program} {m : Nat} {t e : TypeId} {c : V} (h : TyC P (m + 1) t [c]) (hu : P.underlying t = some (.slice e)) : ∃ es, c = .row (P.cellsOf e) es ∧ es.length ≤ maxLen ∧ ∀ x ∈ es, TyV P m e x := by
  unfold TyC at h
  rw [hu] at h
  obtain ⟨es, h1, h2, h3⟩ := h
  exact ⟨es, by simpa using h1, h2, h3⟩
set_option maxRecDepth 100000 in
theorem ty_line {m : Nat} {c : V} (h : TyV Tryd.prog (m + 2) 61 c) : ∃ p, c = acV p ∧ True := by
  obtain ⟨cs, rfl, hl, hf⟩ := ty_struct h Tryd.underlying61
  have hc : Tryd.prog.cellsOf 61 = 2 := by kernel_rfl
  rw [hc] at hl
  match cs, hl, hf with
  | [a, b], _, hf =>
    have h0 := hf _ (by simp only [List.mem_toArray]; exact List.mem_cons_self)
    have h1 := hf _ (by simp only [List.mem_toArray]; exact List.mem_cons_of_mem _ List.mem_cons_self)
    have c0 : Tryd.prog.cellsOf 9 = 1 := by kernel_rfl
    have c1 : Tryd.prog.cellsOf 3 = 1 := by kernel_rfl
    simp only [c0, c1, List.drop_zero, List.take_succ_cons, List.take_zero, List.drop_succ_cons] at h0 h1
    obtain ⟨s, rfl, _⟩ := tyC_strs h0 Tryd.underlying9
    obtain ⟨n, rfl⟩ := tyC_ints h1 Tryd.underlying3
    exact ⟨(s, n), rfl, trivial⟩
set_option maxRecDepth 100000 in
theorem ty_entry {m : Nat} {c : V} (h : TyV Tryd.prog (m + 4) 34 c) : ∃ (k : ByteArray) (d : Int) (l : List (ByteArray × Int)), c = enV k d (.row 2 (l.map acV)) ∧ k.size ≤ maxLen ∧ l.length ≤ maxLen := by
  obtain ⟨cs, rfl, hl, hf⟩ := ty_struct h Tryd.underlying34
  have hc : Tryd.prog.cellsOf 34 = 3 := by kernel_rfl
  rw [hc] at hl
  match cs, hl, hf with
  | [a, b, d], _, hf =>
    have h0 := hf _ (by simp only [List.mem_toArray]; exact List.mem_cons_self)
    have h1 := hf _ (by simp only [List.mem_toArray]; exact List.mem_cons_of_mem _ List.mem_cons_self)
    have h2 := hf _ (by simp only [List.mem_toArray]; exact List.mem_cons_of_mem _ (List.mem_cons_of_mem _ List.mem_cons_self))
    have c0 : Tryd.prog.cellsOf 9 = 1 := by kernel_rfl
    have c1 : Tryd.prog.cellsOf 3 = 1 := by kernel_rfl
    have c2 : Tryd.prog.cellsOf 32 = 1 := by kernel_rfl
    have c3 : Tryd.prog.cellsOf 61 = 2 := by kernel_rfl
    simp only [c0, c1, c2, List.drop_zero, List.take_succ_cons, List.take_zero, List.drop_succ_cons] at h0 h1 h2
    obtain ⟨s, rfl, hs⟩ := tyC_strs h0 Tryd.underlying9
    obtain ⟨n, rfl⟩ := tyC_ints h1 Tryd.underlying3
    obtain ⟨es, rfl, he, hes⟩ := tyC_slices h2 Tryd.underlying32
    obtain ⟨l, rfl, _⟩ := map_of_all (f := acV) (p := fun _ => True) fun x hx => ty_line (m := m) (hes x hx)
    rw [c3]
    exact ⟨s, n, l, rfl, hs, by simpa using he⟩
end Go.Proofs.YtdmkmbaaemhhhaaDoor
namespace Go.Proofs.YtdmkmbaaemhhhaaDoor
open Go Go.Ev Go.RowKit Go.Acc
def unEn : List V → Option (List En)
  | [] => some []
  | .agg [.str k, .int .i64 d, .row 2 es] :: r => match unAc es, unEn r with
    | some l, some E => some ((k, d, l) :: E)
    | _, _ => none
  | _ => none
theorem unEn_map : ∀ E : List En, unEn (E.map enW) = some E
  | [] => rfl
  | (k, d, l) :: E => by simp only [List.map_cons, enW, unEn, unAc_map]; rw [show unEn (List.map enW E) = some E from unEn_map E]
theorem unEn_eq : ∀ {es : List V} {E : List En}, unEn es = some E → es = E.map enW
  | [], E, h => by simp only [unEn, Option.some.injEq] at h; subst h; rfl
  | v :: es, E, h => by
    unfold unEn at h
    split at h
    · rename_i heq; cases heq
    · rename_i k d fs r heq
      cases heq
      split at h
      · rename_i l E' h1 h2
        simp only [Option.some.injEq] at h
        subst h
        rw [unEn_eq h2, unAc_eq h1]
        rfl
      · cases h
    · cases h
/-- entries as a value: a row, or none -/
def rowEn : V → Option (List En)
  | .row 3 es => unEn es
  | .zero => some []
  | _ => none
theorem rowEn_row (E : List En) : rowEn (.row 3 (E.map enW)) = some E := unEn_map E
theorem rowEn_rel {L : V} {E : List En} (h : rowEn L = some E) {w : World} {ok : Nat → Prop} {val : Value} (hv : RelD w ok L val) : RelD w ok (.row 3 (E.map enW)) val := by
  unfold rowEn at h
  split at h
  · rw [← unEn_eq h]; exact hv
  · simp only [Option.some.injEq] at h
    subst h
    cases hv
    exact .nil _ _
  · cases h
end Go.Proofs.YtdmkmbaaemhhhaaDoor
namespace Go.Proofs.YtdmkmbaaemhhhaaDoor
open Go Go.Ev Go.RowKit Go.Acc
end Go.Proofs.YtdmkmbaaemhhhaaDoor
namespace Go.Proofs.YtdmkmbaaemhhhaaDoor
open Go Go.Ev Go.RowKit Go.Acc
set_option maxRecDepth 100000 in
theorem ty_acct {m : Nat} {c : V} (h : TyV Tryd.prog (m + 2) 79 c) : ∃ p, c = acV p ∧ True := by
  obtain ⟨cs, rfl, hl, hf⟩ := ty_struct h Tryd.underlying79
  have hc : Tryd.prog.cellsOf 79 = 2 := by kernel_rfl
  rw [hc] at hl
  match cs, hl, hf with
  | [a, b], _, hf =>
    have h0 := hf _ (by simp only [List.mem_toArray]; exact List.mem_cons_self)
    have h1 := hf _ (by simp only [List.mem_toArray]; exact List.mem_cons_of_mem _ List.mem_cons_self)
    have c0 : Tryd.prog.cellsOf 9 = 1 := by kernel_rfl
    have c1 : Tryd.prog.cellsOf 3 = 1 := by kernel_rfl
    simp only [c0, c1, List.drop_zero, List.take_succ_cons, List.take_zero, List.drop_succ_cons] at h0 h1
    obtain ⟨s, rfl, _⟩ := tyC_strs h0 Tryd.underlying9
    obtain ⟨n, rfl⟩ := tyC_ints h1 Tryd.underlying3
    exact ⟨(s, n), rfl, trivial⟩
set_option maxRecDepth 100000 in
theorem ty_book {m : Nat} {c : V} (h : TyV Tryd.prog (m + 6) 40 c) : ∃ (A : List (ByteArray × Int)) (E : List En) (s : Int), c = bkV A E s ∧ okEn E := by
  obtain ⟨cs, rfl, hl, hf⟩ := ty_struct h Tryd.underlying40
  have hc : Tryd.prog.cellsOf 40 = 3 := by kernel_rfl
  rw [hc] at hl
  match cs, hl, hf with
  | [a, b, d], _, hf =>
    have h0 := hf _ (by simp only [List.mem_toArray]; exact List.mem_cons_self)
    have h1 := hf _ (by simp only [List.mem_toArray]; exact List.mem_cons_of_mem _ List.mem_cons_self)
    have h2 := hf _ (by simp only [List.mem_toArray]; exact List.mem_cons_of_mem _ (List.mem_cons_of_mem _ List.mem_cons_self))
    have c0 : Tryd.prog.cellsOf 38 = 1 := by kernel_rfl
    have c1 : Tryd.prog.cellsOf 23 = 1 := by kernel_rfl
    have c2 : Tryd.prog.cellsOf 3 = 1 := by kernel_rfl
    have c3 : Tryd.prog.cellsOf 79 = 2 := by kernel_rfl
    have c4 : Tryd.prog.cellsOf 34 = 3 := by kernel_rfl
    simp only [c0, c1, c2, List.drop_zero, List.take_succ_cons, List.take_zero, List.drop_succ_cons] at h0 h1 h2
    obtain ⟨ac, rfl, ha, has⟩ := tyC_slices h0 Tryd.underlying38
    obtain ⟨es, rfl, he, hes⟩ := tyC_slices h1 Tryd.underlying23
    obtain ⟨s, rfl⟩ := tyC_ints h2 Tryd.underlying3
    obtain ⟨A, rfl, _⟩ := map_of_all (f := acV) (p := fun _ => True) fun x hx => ty_acct (m := m + 2) (has x hx)
    obtain ⟨E, rfl, hE⟩ := map_of_all (f := enW) (p := fun x : En => x.1.size ≤ maxLen ∧ x.2.2.length ≤ maxLen) fun x hx => by
      obtain ⟨k, d, l, rfl, hk, hl⟩ := ty_entry (m := m) (hes x hx)
      exact ⟨(k, d, l), rfl, hk, hl⟩
    rw [c3, c4]
    exact ⟨A, E, s, rfl, by simpa using he, hE⟩
end Go.Proofs.YtdmkmbaaemhhhaaDoor
namespace Go.Proofs.YtdmkmbaaemhhhaaDoor
open Go Go.Ev Go.RowKit Go.Job Go.Acc
set_option maxRecDepth 100000 in
theorem ty_plan {m : Nat} {c : V} (h : TyV Tryd.prog (m + 2) 29 c) : ∃ p, c = plV p ∧ p.key.size ≤ maxLen := by
  obtain ⟨cs, rfl, hl, hf⟩ := ty_struct h Tryd.underlying29
  have hc : Tryd.prog.cellsOf 29 = 7 := by kernel_rfl
  rw [hc] at hl
  match cs, hl, hf with
  | [a, b, c, d, e, f, g], _, hf =>
    have m0 := hf _ (by simp only [List.mem_toArray]; exact List.mem_cons_self)
    have m1 := hf _ (by simp only [List.mem_toArray]; exact List.mem_cons_of_mem _ List.mem_cons_self)
    have m2 := hf _ (by simp only [List.mem_toArray]; exact List.mem_cons_of_mem _ (List.mem_cons_of_mem _ List.mem_cons_self))
    have m3 := hf _ (by simp only [List.mem_toArray]; exact List.mem_cons_of_mem _ (List.mem_cons_of_mem _ (List.mem_cons_of_mem _ List.mem_cons_self)))
    have m4 := hf _ (by simp only [List.mem_toArray]; exact List.mem_cons_of_mem _ (List.mem_cons_of_mem _ (List.mem_cons_of_mem _ (List.mem_cons_of_mem _ List.mem_cons_self))))
    have m5 := hf _ (by simp only [List.mem_toArray]; exact List.mem_cons_of_mem _ (List.mem_cons_of_mem _ (List.mem_cons_of_mem _ (List.mem_cons_of_mem _ (List.mem_cons_of_mem _ List.mem_cons_self)))))
    have m6 := hf _ (by simp only [List.mem_toArray]; exact List.mem_cons_of_mem _ (List.mem_cons_of_mem _ (List.mem_cons_of_mem _ (List.mem_cons_of_mem _ (List.mem_cons_of_mem _ (List.mem_cons_of_mem _ List.mem_cons_self))))))
    have c0 : Tryd.prog.cellsOf 9 = 1 := by kernel_rfl
    have c1 : Tryd.prog.cellsOf 3 = 1 := by kernel_rfl
    simp only [c0, c1, List.drop_zero, List.take_succ_cons, List.take_zero, List.drop_succ_cons] at m0 m1 m2 m3 m4 m5 m6
    obtain ⟨s, rfl, hs⟩ := tyC_strs m0 Tryd.underlying9
    obtain ⟨n1, rfl⟩ := tyC_ints m1 Tryd.underlying3
    obtain ⟨n2, rfl⟩ := tyC_ints m2 Tryd.underlying3
    obtain ⟨n3, rfl⟩ := tyC_ints m3 Tryd.underlying3
    obtain ⟨n4, rfl⟩ := tyC_ints m4 Tryd.underlying3
    obtain ⟨s5, rfl, _⟩ := tyC_strs m5 Tryd.underlying9
    obtain ⟨s6, rfl, _⟩ := tyC_strs m6 Tryd.underlying9
    exact ⟨⟨s, n1, n2, n3, n4, s5, s6⟩, rfl, hs⟩
end Go.Proofs.YtdmkmbaaemhhhaaDoor
namespace Go.Proofs.YtdmkmbaaemhhhaaDoor
open Go Go.Ev Go.RowKit Go.Job Go.Acc
set_option maxHeartbeats 4000000
set_option linter.unusedSimpArgs false
set_option linter.unusedVariables false
attribute [local go_sem] mutV getB mvB bkB V.mv V.mvL V.bk V.bkL Blk.mv Blk.bk posN nmN backN noDup app_writes setHL_nil setHL_cons postM_ret postM_normal resM hasB_nil hasB_cons St.mut names_nil names_cons sortV cellOf mkX_M mkX_S mkX_ln lnL_at ms0_mt ms0_st V.lone V.loneL List.zip_cons_cons List.zip_nil_left Option.isNone_none bornV subE partR unB bytesW boundsV ownP sliceW copyV clearV lenM takeV tk1 mapsV mkMapV hintOk lookV updV mapKE keyOk V.key app_lend callW_fn lendV postL_ret postL_normal postT_ret postT_normal takeR St.lent mkX_L bin_eql_vz bin_eql_zv bin_eql_rz bin_eql_zr bin_eql_zz bin_neq_vz bin_neq_zv bin_neq_rz bin_neq_zr bin_neq_zz eqH nilEq nonE plainI gOf_bool gOf_skip g_some g_none Int.ofNat_zero Int.cast_ofNat_Int Bool.false_and Bool.and_false sliceV noBox elemsZ V.scrub V.scrubL Blk.scrub appendV isSlice maxLen_eq leT List.contains_nil List.contains_cons nvL_at fzL_at fillV V.plain V.plainL Blk.plain List.size_toArray mapO_nil mapO_cons Option.isNone_some beqT beqF oI_not mkX_e phi_nil phi_cons bin_eql_bool bin_neq_bool bin_eql_agg bin_neq_agg eqV eqFs eqK_int eqK_bool' eqK_str mkX_T mkX_Φ mkX_n mkX_f mkX_d mkX_r nv0_at fz0_at evQ_dr evP_W evW_nil evW_cons evW_guard okW_eq tame_none tame_new tame_write wb_none wb_new wb_write okU_some offW_none offW_some touchOf V.noRef V.noRefL Option.isSome_some Option.isSome_none mild_none mild_new Option.getD_some Option.getD_none evQ_seq evQ_region evQ_block evQ_cond evQ_ret evQ_skip evQ_exit evO_cons evO_nil evO_guard freezeL_nil oS_some oS_none oS_ite oS_ite' oB_bool oI_true oI_false oE_normal oE_exit oE_ret bQ_normal bQ_ret bQ_exit lQ_normal lQ_ret lQ_exit List.zipIdx_cons List.zipIdx_nil List.map_cons List.map_nil evalOp opd_const opd_tmp opd_func ofC_int ofC_bool ofC_str ofC_nil app_none app_new app_write app_change putE_some putE_none setA_cons setA_nil setH_cons setH_nil mapA_cons mapA_nil look_cons look_nil e_mk h_mk drop_nil drop_mk keep_mk dstOk_some dstOk_none guardT_eq true_and and_true Bool.not_false Bool.not_true selB_true selB_false mem_nil mem_cons kpL_nil kpL_cons drL_nil drL_cons closed_mk V.refsIn V.refsInL Blk.refsIn List.all_cons List.all_nil lenV bin_add bin_sub bin_mul bin_quo bin_rem bin_eql bin_neq bin_lss bin_leq bin_gtr bin_geq un_neg un_not post_ret post_normal St.init Bool.false_eq_true List.length_map Bool.or_false Bool.or_true Bool.false_or Bool.true_or beq_self_eq_true Option.map_some Option.map_none Option.bind_some List.getElem?_cons_zero List.getElem?_cons_succ scalar stor isAggV V.cells List.cons_append List.nil_append if_true if_false wrap_of callV V.dataL V.data Bool.and_true Bool.true_and fresh names V.ren V.renL retV resV packL packV packC getBlks wrapR subV putV decide_true decide_false TK.agg List.length_cons List.length_nil List.take_succ_cons List.take_zero List.drop_succ_cons List.drop_zero List.take_nil List.drop_nil Nat.zero_add Nat.add_zero List.append_nil List.getElem?_nil elemsV ro ro0 ro1 roC ty1 ty2 ty3 ty4 ty5 ty6 ty7 ty8 ty9 ty10 ty11 ty12 ty13 ty14 ty15 ty16 ty17 ty18 ty19 ty21 ty22 ty23 ty24 ty26 ty27 ty28 ty29 ty30 ty31 ty32 ty33 ty34 ty35 ty36 ty37 ty38 ty39 ty40 ty41 ty42 ty44 ty45 ty47 ty49 ty51 ty53 ty54 ty55 ty56 ty57 ty58 ty59 ty60 ty61 ty62 ty63 ty64 ty65 ty66 ty67 ty68 ty69 ty70 ty71 ty72 ty73 ty74 ty75 ty76 ty77 ty78 ty79 ty80 ty81 ty82 ty83 ty84 ty85 ty86 ty87 ty88 ty89 ty90 ty92 ty93 ty94 ty95 ty96 ty97 ty98 ty99 ty100 ty101 ty102 ty103 ty104 ty105 ty107 ty108 ty109 ty110 ty111 ty112 ty113 ty114 ty115 ty116 ty117 ty118 ty119 ty123 ty124 ty125 ty126 ty127 ty128 ty129 ty130 ty131 ty132 ty133 ty135 ty136 ty137 ty138 ty139 ty141 ty142 ty143 ty144 ty146 ty147 ty148 ty149 ty153 ty154 ty155 ty156 ty157 ty158 ty159 ty160 ty161 eqs29 eqs61 eqs79 eqs94
def enJ (x : Job.En) : V := .agg [.str x.1, .int .i64 x.2.1, .row 2 (x.2.2.map acV)]
theorem enJ_P (p : Pl) (k : Nat) (n : Int) : enJ (enP p k n) = .agg [.str (keyP p k), .int .i64 (Cal.add p.at_ k), .row 2 [.agg [.str p.deb, .int .i64 n], .agg [.str p.cre, .int .i64 (-n)]]] := rfl
theorem partL_bd {p : Pl} (h : PlOk keyOk' codeOk p) (x : Int) (hx : x ∈ partL p) : 0 ≤ x ∧ x ≤ 1000000000000 := by
  obtain ⟨n, hn⟩ : ∃ n : Nat, p.num = n := ⟨p.num.toNat, by have := h.num; omega⟩
  have hb := h.num
  have ha := h.amt
  unfold partL at hx
  rw [hn, Int.toNat_natCast] at hx
  have := steps_bd (F := partF p) (n := n) (M := p.amt) (fun k hk => ?_) (fun k hk => ?_) x hx
  · omega
  · by_cases h1 : p.kind = 1
    · rw [partF_1 h1, hn]; exact lnD_mono ha.1 (by omega) (by omega) hk
    · rw [partF_0 h1, hn]; exact lnS_mono ha.1 (by omega) (by omega)
  · by_cases h1 : p.kind = 1
    · rw [partF_1 h1, hn]; exact lnD_bd ha.1 (by omega) (by omega) hk
    · rw [partF_0 h1, hn]; exact lnS_bd ha.1 (by omega) (by omega) (by omega)
theorem due_len {day : Int} {p : Pl} (h : 1 ≤ p.num ∧ p.num ≤ 40) : (dueP day p).length ≤ 40 := by
  have h1 := dueFrom_len day p 0 (partL p)
  have h2 := partL_len h
  unfold dueP
  omega
theorem dueL_len {day : Int} : ∀ {l : List Pl}, (∀ p ∈ l, 1 ≤ p.num ∧ p.num ≤ 40) → (dueL day l).length ≤ l.length * 40
  | [], _ => by simp [dueL]
  | p :: l, h => by
    have h1 := due_len (day := day) (h p (by simp))
    have h2 := dueL_len (day := day) (l := l) fun q hq => h q (by simp [hq])
    unfold dueL at h2 ⊢
    rw [List.flatMap_cons, List.length_append, List.length_cons]
    omega
theorem dueL_succ {day : Int} {l : List Pl} {i : Nat} {p : Pl} (h : l[i]? = some p) : dueL day (l.take (i + 1)) = dueL day (l.take i) ++ dueP day p := by
  obtain ⟨hk, rfl⟩ := List.getElem?_eq_some_iff.1 h
  unfold dueL
  rw [List.take_succ_eq_append_getElem hk, List.flatMap_append]
  simp
theorem jkeyx {J : World → Prop} : ∃ F : List V → Option (V × List Ev.Blk), (∀ (p : Pl) (k : Nat), p.key.size ≤ 9 → k < 100 → F [plV p, .int .i64 k] = some (.str (keyP p k), [])) ∧ Snd Tryd.prog J 24 F := by
  obtain ⟨F, h1, h2⟩ := famj (P := Tryd.prog) (J := J) (f := 24) (fun q : { q : Pl × Nat // q.1.key.size ≤ 9 ∧ q.2 < 100 } => [plV q.1.1, .int .i64 q.1.2]) (fun q => (.str (keyP q.1.1 q.1.2), [])) (fun i j h => by
    simp only [List.cons.injEq, V.int.injEq, true_and, and_true] at h
    rw [plV_inj1 h.1, Int.ofNat.inj h.2]) fun q => jkey_sound q.1.1 q.1.2 q.2.1 q.2.2
  exact ⟨F, fun p k ha hb => h1 ⟨(p, k), ha, hb⟩, h2⟩
theorem jpartsx {J : World → Prop} (hJ : Stable J) : ∃ F : List V → Option (V × List Ev.Blk), (∀ p : Pl, PlOk keyOk' codeOk p → F [plV p] = some (.vec 0, [.vec 3 1 ((partL p).map (V.int .i64))])) ∧ Snd Tryd.prog J 22 F := by
  obtain ⟨F, h1, h2⟩ := famj (P := Tryd.prog) (J := J) (f := 22) (fun q : { p : Pl // PlOk keyOk' codeOk p } => [plV q.1]) (fun q => (.vec 0, [.vec 3 1 ((partL q.1).map (V.int .i64))])) (fun i j h => by
    simp only [List.cons.injEq, and_true] at h
    rw [plV_inj1 h]) fun q => jparts_sound hJ q.1 q.2
  exact ⟨F, fun p h => h1 ⟨p, h⟩, h2⟩
theorem jdue_bad (l : List Pl) (day : Int) (e : Int) (h : (if plChk keyOk' codeOk l = 0 then (if 0 ≤ day ∧ day ≤ 292193 then 0 else 1) else plChk keyOk' codeOk l) = e) (he : e ≠ 0) : SoundAt Tryd.prog Tab 5 [.row 7 (l.map plV), .int .i64 day] (.tup [.zero, .int .i64 e]) [] := by
  have hJ := stableTab
  have hC := jcheck_sound l
  refine evFn (l := [(7, at1 _ (_, [])), (21, dayF)]) (nv := nv0) (fz := fz0) (dr := dr5) (dd := dd5) (lam := []) (ms := ms0) ⟨at1_snd hC, is_snd hJ, trivial⟩ hJ trivial ms0_ok Tryd.func5 rfl rfl (Nat.le_of_ble_eq_true rfl) (Nat.le_of_ble_eq_true rfl) drOk5 ?_
  dsimp only [Tryd.f5, dr5, dd5, Option.getD_some]
  refine ev_start ?_
  by_cases h0 : plChk keyOk' codeOk l = 0
  · rw [if_pos h0] at h
    by_cases hd : 0 ≤ day ∧ day ≤ 292193
    · rw [if_pos hd] at h
      exact absurd h.symm he
    · rw [if_neg hd] at h
      subst h
      have hd' : decide (0 ≤ day ∧ day ≤ 292193) = false := decide_eq_false hd
      simp (disch := omega) only [at1_eq, h0, dayF_eq, hd', go_sem, Int.reduceEq, Int.reduceLT, Int.reduceLE, Int.reduceNeg, Nat.reduceAdd, Nat.reduceLT, Nat.reduceEqDiff, Nat.reduceMul, Nat.reduceLeDiff, reduceIte, Nat.reduceBEq, reduceCtorEq, evP_D, evD_guard, evD_cons, evD_zero, evD_nil]
  · rw [if_neg h0] at h
    rw [h] at hC ⊢
    simp (disch := omega) only [at1_eq, he, go_sem, Int.reduceEq, Int.reduceLT, Int.reduceLE, Int.reduceNeg, Nat.reduceAdd, Nat.reduceLT, Nat.reduceEqDiff, Nat.reduceMul, Nat.reduceLeDiff, reduceIte, Nat.reduceBEq, reduceCtorEq, evP_D, evD_guard, evD_cons, evD_zero, evD_nil]
set_option maxHeartbeats 8000000 in
theorem jdue_sound (l : List Pl) (day : Int) (hok : plChk keyOk' codeOk l = 0) (hd : 0 ≤ day ∧ day ≤ 292193) : SoundAt Tryd.prog Tab 5 [.row 7 (l.map plV), .int .i64 day] (.tup [.vec 0, .int .i64 0]) [.vec 34 3 ((dueL day l).map enJ)] := by
  have hJ := stableTab
  have hC := jcheck_sound l
  rw [hok] at hC
  obtain ⟨hl12, hall⟩ := chk_one keyOk' codeOk hok
  have hPl : ∀ p ∈ l, PlOk keyOk' codeOk p := fun p hp => one_ok keyOk' codeOk (hall p hp)
  obtain ⟨PF, hPF, sPF⟩ := jpartsx hJ
  obtain ⟨KF, hKF, sKF⟩ := jkeyx (J := Tab)
  refine evFn (l := [(7, at1 _ (_, [])), (21, dayF), (22, PF), (23, addF), (24, KF)]) (nv := (nvL [(7, (34, 3)), (62, (34, 3))])) (fz := fz0) (dr := dr5) (dd := dd5) (lam := []) (ms := ms0) ⟨at1_snd hC, is_snd hJ, sPF, add_snd, sKF, trivial⟩ hJ trivial ms0_ok Tryd.func5 rfl rfl (Nat.le_of_ble_eq_true rfl) (Nat.le_of_ble_eq_true rfl) drOk5 ?_
  dsimp only [Tryd.f5, dr5, dd5, Option.getD_some]
  refine ev_start ?_
  simp (disch := omega) only [at1_eq, dayF_eq, hd, and_self, List.length_map, go_sem, Int.reduceEq, Int.reduceLT, Int.reduceLE, Int.reduceNeg, Nat.reduceAdd, Nat.reduceLT, Nat.reduceEqDiff, Nat.reduceMul, Nat.reduceLeDiff, reduceIte, Nat.reduceBEq, reduceCtorEq, evP_D, evD_guard, evD_cons, evD_zero, evD_nil]
  refine evQ_loop [1, 7, 22, 23, 24] [56] (fun σ => ∃ (i : Nat), i ≤ l.length ∧ σ = ⟨[(1, .int .i64 day), (7, .vec 56), (22, .row 7 (l.map plV)), (23, .int .i64 l.length), (24, .int .i64 i)], [(56, .vec 34 3 ((dueL day (l.take i)).map enJ))]⟩)
    (fun σ => l.length - (match Ev.look 24 σ.env with | some (.int _ n) => n.toNat | _ => 0)) ?_ ?_
  · simp only [go_sem, Int.reduceEq, Int.reduceLT, Int.reduceLE, Int.reduceNeg, Nat.reduceAdd, Nat.reduceLT, Nat.reduceEqDiff, Nat.reduceMul, Nat.reduceLeDiff, reduceIte, Nat.reduceBEq, reduceCtorEq, evP_D, evD_guard, evD_cons, evD_zero, evD_nil]
    exact ⟨0, Nat.zero_le _, rfl⟩
  · rintro σ ⟨i, hi, rfl⟩
    by_cases hlt : i < l.length
    case neg =>
      have hi' : i = l.length := by omega
      subst hi'
      have hlt' : ¬ ((l.length : Int) < l.length) := by omega
      simp (disch := (first | omega | assumption)) only [hlt', List.take_length, go_sem, Int.reduceEq, Int.reduceLT, Int.reduceLE, Int.reduceNeg, Nat.reduceAdd, Nat.reduceLT, Nat.reduceEqDiff, Nat.reduceMul, Nat.reduceLeDiff, reduceIte, Nat.reduceBEq, reduceCtorEq, evP_D, evD_guard, evD_cons, evD_zero, evD_nil]
    have hlt' : (i : Int) < l.length := by omega
    obtain ⟨p, hp⟩ : ∃ p, l[i]? = some p := ⟨_, List.getElem?_eq_getElem hlt⟩
    have hg := plV_get hp
    have ok := hPl p (List.mem_of_getElem? hp)
    have hP1 := hPF p ok
    unfold plV at hP1
    have hsu := dueL_succ (day := day) hp
    have hnum := ok.num
    have hat := ok.at_
    have hlen := partL_len hnum
    have hbd := partL_bd ok
    have hol : (dueL day (l.take (i + 1))).length ≤ 480 := by
      have h1 := dueL_len (day := day) (l := l.take (i + 1)) fun q hq => (hPl q (List.mem_of_mem_take hq)).num
      have h2 : (l.take (i + 1)).length ≤ 12 := by rw [List.length_take]; omega
      have h3 : (l.take (i + 1)).length * 40 ≤ 12 * 40 := Nat.mul_le_mul_right _ h2
      omega
    have hms : l.length - ((i : Int) + 1).toNat < l.length - (i : Int).toNat := by
      have e3 : ((i : Int) + 1).toNat = i + 1 := by omega
      rw [e3, Int.toNat_natCast]; exact Nat.sub_lt_sub_left hlt (Nat.lt_succ_self i)
    have hKp := fun (j : Nat) (hj : j < 100) => hKF p j ok.key.2.1 hj
    unfold plV at hKp
    obtain ⟨L, hL⟩ : ∃ L, L = partL p := ⟨_, rfl⟩
    rw [← hL] at hlen hbd hP1
    simp (disch := (first | omega | assumption)) only [hlt', idx_nat, List.length_map, hg, hP1, go_sem, Int.reduceEq, Int.reduceLT, Int.reduceLE, Int.reduceNeg, Nat.reduceAdd, Nat.reduceLT, Nat.reduceEqDiff, Nat.reduceMul, Nat.reduceLeDiff, reduceIte, Nat.reduceBEq, reduceCtorEq, evP_D, evD_guard, evD_cons, evD_zero, evD_nil]
    refine evQ_loop [1, 7, 9, 22, 23, 24, 29, 30, 31] [56, 72, 232] (fun σ => ∃ (j : Nat) (O : List Job.En), (j ≤ L.length ∧ O ++ dueFrom day p j (L.drop j) = dueL day (l.take (i + 1))) ∧ σ = ⟨[(1, .int .i64 day), (7, .vec 56), (9, .ptr 72 0), (22, .row 7 (l.map plV)), (23, .int .i64 l.length), (24, .int .i64 i), (29, .vec 232), (30, .int .i64 L.length), (31, .int .i64 j)], [(56, .vec 34 3 (O.map enJ)), (72, .box (.agg [.str p.key, .int .i64 p.kind, .int .i64 p.at_, .int .i64 p.amt, .int .i64 p.num, .str p.deb, .str p.cre])), (232, .vec 3 1 (L.map (V.int .i64)))]⟩)
      (fun σ => L.length - (match Ev.look 31 σ.env with | some (.int _ n) => n.toNat | _ => 0)) ?_ ?_
    · simp only [go_sem, Int.reduceEq, Int.reduceLT, Int.reduceLE, Int.reduceNeg, Nat.reduceAdd, Nat.reduceLT, Nat.reduceEqDiff, Nat.reduceMul, Nat.reduceLeDiff, reduceIte, Nat.reduceBEq, reduceCtorEq, evP_D, evD_guard, evD_cons, evD_zero, evD_nil]
      exact ⟨0, dueL day (l.take i), ⟨Nat.zero_le _, by rw [hsu, hL]; rfl⟩, rfl⟩
    · rintro σ ⟨j, O, ⟨hj, hO⟩, rfl⟩
      by_cases hjt : j < L.length
      case neg =>
        have hj' : j = L.length := by omega
        subst hj'
        have hjt' : ¬ ((L.length : Int) < L.length) := by omega
        have e : O = dueL day (l.take (i + 1)) := by rw [← hO, List.drop_length]; simp [dueFrom]
        simp (disch := (first | omega | assumption)) only [hjt', go_sem, Int.reduceEq, Int.reduceLT, Int.reduceLE, Int.reduceNeg, Nat.reduceAdd, Nat.reduceLT, Nat.reduceEqDiff, Nat.reduceMul, Nat.reduceLeDiff, reduceIte, Nat.reduceBEq, reduceCtorEq, evP_D, evD_guard, evD_cons, evD_zero, evD_nil]
        exact ⟨⟨i + 1, hlt, by rw [e]; rfl⟩, hms⟩
      have hjt' : (j : Int) < L.length := by omega
      obtain ⟨n, hn⟩ : ∃ n, L[j]? = some n := ⟨_, List.getElem?_eq_getElem hjt⟩
      have hgn := get_map (V.int .i64) L j n hn
      have hnb := hbd n (List.mem_of_getElem? hn)
      have hdr := dueFrom_drop (day := day) (p := p) hn
      obtain ⟨hm1, hm2⟩ := add_month (k := (j : Int)) hat ok.add (by omega) (by omega)
      have hA := addF_eq (n := p.at_) (k := (j : Int)) (by omega)
      have eN : addN p.at_ j = Cal.add p.at_ j := if_pos hm1
      have eE : addE p.at_ j = 0 := if_pos hm1
      rw [eN, eE] at hA
      have hmj : L.length - ((j : Int) + 1).toNat < L.length - (j : Int).toNat := by
        have e3 : ((j : Int) + 1).toNat = j + 1 := by omega
        rw [e3, Int.toNat_natCast]; exact Nat.sub_lt_sub_left hjt (Nat.lt_succ_self j)
      have hOl : O.length ≤ 480 := by
        have := congrArg List.length hO
        rw [List.length_append] at this
        omega
      by_cases hgt : day < Cal.add p.at_ j
      · have hno : dueFrom day p j (L.drop j) = [] := dueFrom_none j _ fun q h1 h2 => by
          rw [List.length_drop] at h2
          by_cases e : q = j
          · rw [e]; exact hgt
          · have := add_lt (j := (j : Int)) (k := (q : Int)) hat ok.add (by omega) (by omega) (by omega)
            omega
        have e : O = dueL day (l.take (i + 1)) := by rw [← hO, hno, List.append_nil]
        simp (disch := (first | omega | assumption)) only [hjt', idx_nat, List.length_map, hgn, hA, hgt, go_sem, Int.reduceEq, Int.reduceLT, Int.reduceLE, Int.reduceNeg, Nat.reduceAdd, Nat.reduceLT, Nat.reduceEqDiff, Nat.reduceMul, Nat.reduceLeDiff, reduceIte, Nat.reduceBEq, reduceCtorEq, evP_D, evD_guard, evD_cons, evD_zero, evD_nil]
        exact ⟨⟨i + 1, hlt, by rw [e]; rfl⟩, hms⟩
      · by_cases hn0 : n = 0
        · rw [if_neg (by omega), List.nil_append] at hdr
          simp (disch := (first | omega | assumption)) only [hjt', idx_nat, List.length_map, hgn, hA, hgt, hn0, go_sem, Int.reduceEq, Int.reduceLT, Int.reduceLE, Int.reduceNeg, Nat.reduceAdd, Nat.reduceLT, Nat.reduceEqDiff, Nat.reduceMul, Nat.reduceLeDiff, reduceIte, Nat.reduceBEq, reduceCtorEq, evP_D, evD_guard, evD_cons, evD_zero, evD_nil]
          exact ⟨⟨j + 1, O, ⟨hjt, by rw [← hdr]; exact hO⟩, rfl⟩, hmj⟩
        · rw [if_pos (by omega)] at hdr
          have hK := hKp j (by omega)
          simp (disch := (first | omega | assumption)) only [hjt', idx_nat, List.length_map, hgn, hA, hgt, hn0, hK, Int.zero_sub, go_sem, Int.reduceEq, Int.reduceLT, Int.reduceLE, Int.reduceNeg, Nat.reduceAdd, Nat.reduceLT, Nat.reduceEqDiff, Nat.reduceMul, Nat.reduceLeDiff, reduceIte, Nat.reduceBEq, reduceCtorEq, evP_D, evD_guard, evD_cons, evD_zero, evD_nil]
          exact ⟨⟨j + 1, O ++ [enP p j n], ⟨hjt, by rw [List.append_assoc, ← hdr]; exact hO⟩, by rw [List.map_append, List.map_cons, enJ_P]; rfl⟩, hmj⟩
end Go.Proofs.YtdmkmbaaemhhhaaDoor
namespace Go.Proofs.YtdmkmbaaemhhhaaDoor.Earn
open Go.Proofs.YtdmkmbaaemhhhaaDoor
/-- the days that count -/
def dys (f t day : Int) : Int := if (if t < day then t else day) - f + 1 > 0 then (if t < day then t else day) - f + 1 else 0
def ear (a f t day : Int) : Int := Rnd.rnd (a * dys f t day) (t - f + 1) 2
/-- by the end of the k-th month -/
def F (a f t k : Int) : Int := if k = 0 then 0 else ear a f t (Cal.fm (Cal.mon f + k) - 1)
theorem dys_bd {f t day : Int} (h : f ≤ t) : 0 ≤ dys f t day ∧ dys f t day ≤ t - f + 1 := by
  unfold dys; split <;> split <;> omega
theorem dys_ref {f t day : Int} (h : f ≤ t) : dys f t day = (if t < day then t - f + 1 else if f ≤ day then day - f + 1 else 0) := by
  unfold dys; split <;> split <;> (try split) <;> omega
theorem prod_bd {a x : Int} (h0 : -1000000000000 ≤ a) (h1 : a ≤ 1000000000000) (h2 : 0 ≤ x) (h3 : x ≤ 292194) : -300000000000000000 ≤ a * x ∧ a * x ≤ 300000000000000000 := by
  have k1 : a * x ≤ 1000000000000 * x := Int.mul_le_mul_of_nonneg_right h1 h2
  have k2 : -1000000000000 * x ≤ a * x := Int.mul_le_mul_of_nonneg_right h0 h2
  omega
theorem rnd_bd {n d M : Int} (hd : 1 ≤ d) (h0 : -M ≤ n) (h1 : n ≤ M) (hM : 0 ≤ M) : -M ≤ Rnd.rnd n d 2 ∧ Rnd.rnd n d 2 ≤ M + 1 := by
  have h := Rnd.div_bd n hd h0 h1 hM
  rw [Rnd.rnd2]
  split <;> omega
theorem ear_bd {a f t day : Int} (h0 : -1000000000000 ≤ a) (h1 : a ≤ 1000000000000) (hf : 0 ≤ f) (ht : t ≤ 292193) (h : f ≤ t) : -300000000000000000 ≤ ear a f t day ∧ ear a f t day ≤ 300000000000000001 := by
  have hd := dys_bd (day := day) h
  have p := prod_bd h0 h1 hd.1 (by omega)
  exact rnd_bd (by omega) p.1 p.2 (by omega)
theorem F_bd {a f t k : Int} (h0 : -1000000000000 ≤ a) (h1 : a ≤ 1000000000000) (hf : 0 ≤ f) (ht : t ≤ 292193) (h : f ≤ t) : -300000000000000000 ≤ F a f t k ∧ F a f t k ≤ 300000000000000001 := by
  unfold F
  split
  · omega
  · exact ear_bd h0 h1 hf ht h
theorem vld_fm {k : Int} (h0 : 0 ≤ k) (h1 : k < 9600) : Cal.vld (1600 + k / 12) (1 + k % 12) 1 := by
  have := Cal.len_bd (1600 + k / 12) (1 + k % 12)
  unfold Cal.vld
  omega
theorem fm_day {k : Int} (h0 : 0 ≤ k) (h1 : k < 9600) : Cal.mon (Cal.fm k) = k ∧ Cal.dD (Cal.fm k) = 1 ∧ 0 ≤ Cal.fm k ∧ Cal.fm k ≤ 292193 := by
  have hv := vld_fm h0 h1
  obtain ⟨e1, e2, e3⟩ := Cal.date_of _ _ _ (Cal.fm k) hv rfl
  have hb := Cal.num_bd _ _ _ hv
  refine ⟨?_, e3, hb.1, hb.2⟩
  unfold Cal.mon
  rw [e1, e2]
  omega
theorem last_fm {n : Int} (h0 : 0 ≤ n) (h1 : n ≤ 292193) : Cal.last n = Cal.fm (Cal.mon n + 1) - 1 := by
  have hv := (Cal.date_ok n h0 h1).1
  have hd := Cal.day_fm n h0 h1
  rw [Cal.last_eq n h0 h1, Cal.fm_succ]
  have : Cal.ml (Cal.mon n) = Cal.len (Cal.dY n) (Cal.dM n) := by
    unfold Cal.ml Cal.mon
    unfold Cal.vld at hv
    rw [show 1600 + (12 * (Cal.dY n - 1600) + Cal.dM n - 1) / 12 = Cal.dY n by omega, show 1 + (12 * (Cal.dY n - 1600) + Cal.dM n - 1) % 12 = Cal.dM n by omega]
  omega
theorem add_fm {M j : Int} (h0 : 0 ≤ M) (h1 : M < 9600) (h2 : 0 ≤ M + j) (h3 : M + j < 9600) : Cal.add (Cal.fm M) j = Cal.fm (M + j) := by
  obtain ⟨e1, e2, _⟩ := fm_day h0 h1
  unfold Cal.add
  rw [e1, e2, if_pos ⟨h2, h3⟩, Cal.ofMon_fm]
  have := Cal.ml_bd (M + j)
  omega
theorem fm_le_day {n k : Int} (h0 : 0 ≤ n) (h1 : n ≤ 292193) : Cal.fm k ≤ n ↔ k ≤ Cal.mon n := by
  have hd := Cal.day_fm n h0 h1
  have hs := Cal.fm_succ (Cal.mon n)
  constructor
  · intro h
    rcases Int.lt_or_le (Cal.mon n) k with hk | hk
    · have := Cal.fm_le (Cal.mon n + 1) k (by omega); omega
    · exact hk
  · intro h
    have := Cal.fm_le k (Cal.mon n) h
    omega
end Go.Proofs.YtdmkmbaaemhhhaaDoor.Earn
namespace Go.Acc
open Go Go.Proofs.YtdmkmbaaemhhhaaDoor
set_option linter.unusedVariables false
set_option linter.unusedSimpArgs false
def c10 : ByteArray := ⟨#[49, 48]⟩
def c15 : ByteArray := ⟨#[49, 53]⟩
def c20 : ByteArray := ⟨#[50, 48]⟩
def c30 : ByteArray := ⟨#[51, 48]⟩
def c40 : ByteArray := ⟨#[52, 48]⟩
def c50 : ByteArray := ⟨#[53, 48]⟩
def plA : List (ByteArray × Int) := [(c10, 0), (c15, 0), (c20, 1), (c30, 2), (c40, 3), (c50, 4)]
def keyT (n : Nat) : ByteArray := (⟨#[107]⟩ : ByteArray) ++ decF 1 n
def mvX (n : Nat) (at_ a : Int) (to from_ : ByteArray) : En := (keyT n, at_, [(to, a), (from_, -a)])
def keyTB (n : Nat) : Bool := keyOk' (keyT n)
theorem keyT_ok : ∀ n : Fin 100, keyOk' (keyT n.1) = true := by decide +kernel
theorem keyT_inj : ∀ n m : Fin 100, keyT n.1 = keyT m.1 → n = m := by decide +kernel
theorem plA_ok : acChk plA = 0 := by
  unfold acChk plA
  simp only [acE, ByteArray.toList_eq]
  decide +kernel
theorem plA_has : hasA plA c10 = true ∧ hasA plA c15 = true ∧ hasA plA c20 = true ∧ hasA plA c30 = true ∧ hasA plA c40 = true ∧ hasA plA c50 = true := by decide +kernel
theorem codes_ok : codeOk c10 = true ∧ codeOk c15 = true ∧ codeOk c20 = true ∧ codeOk c30 = true ∧ codeOk c40 = true ∧ codeOk c50 = true := by decide +kernel
theorem enX_mv {n : Nat} {at_ a : Int} {to from_ : ByteArray} (hn : n < 100) (h0 : 0 ≤ at_) (h1 : at_ ≤ 292193) (ha : a ≠ 0) (ha0 : -1000000000000 ≤ a) (ha1 : a ≤ 1000000000000) (ht : codeOk to = true) (hf : codeOk from_ = true) (hne : to ≠ from_) : enX (mvX n at_ a to from_) = 0 := by
  have hk := keyT_ok ⟨n, hn⟩
  simp only at hk
  have hne' : decide (to = from_) = false := decide_eq_false hne
  have e1 : lnE [] [(to, a), (from_, -a)] = 0 := by
    simp only [lnE, ht, hf, hasC, List.any_nil, List.nil_append, List.any_cons, hne', Bool.or_false, Bool.true_eq_false, if_false, Bool.false_eq_true]
    rw [if_neg (fun h => h ⟨⟨ha0, ha1⟩, ha⟩), if_neg (fun h => h ⟨⟨by omega, by omega⟩, by omega⟩)]
  have e2 : lnSum [(to, a), (from_, -a)] 2 = 0 := by
    simp [lnSum]
    omega
  unfold enX mvX enE lnChk
  simp only [hk, e1, Bool.true_eq_false, if_false, List.length_cons, List.length_nil]
  rw [if_neg (fun h => h ⟨h0, h1⟩), if_neg (by omega), if_neg (fun h => h rfl), if_neg (fun h => by rcases h with h | h; omega; exact h e2)]
theorem known_mv {n : Nat} {at_ a : Int} {to from_ : ByteArray} (ht : hasA plA to = true) (hf : hasA plA from_ = true) : knownB plA (mvX n at_ a to from_) = true := by
  unfold knownB mvX
  simp [ht, hf]
theorem ofX_mv (c : ByteArray) (d : Int) (n : Nat) (at_ a : Int) (to from_ : ByteArray) : ofX c 0 d (mvX n at_ a to from_) = if 0 ≤ at_ ∧ at_ ≤ d then (if to = c then a else 0) + (if from_ = c then -a else 0) else 0 := by
  unfold ofX mvX
  simp only
  split
  · unfold ofL
    simp only [List.map_cons, List.map_nil, List.sum_cons, List.sum_nil, lnW, isC, decide_eq_true_eq]
    omega
  · rfl
/-- a new entry is posted -/
theorem post_mv {E : List En} {n : Nat} {at_ a : Int} {to from_ : ByteArray} (hb : bkChk plA E (-1) = 0) (hx : enX (mvX n at_ a to from_) = 0) (hno : ∀ y ∈ E, y.1 ≠ keyT n) (ht : hasA plA to = true) (hf : hasA plA from_ = true) (h0 : 0 ≤ at_) (hl : E.length < 60) :
    postE plA E (-1) (mvX n at_ a to from_) = 0 ∧ postB E (mvX n at_ a to from_) = insE (mvX n at_ a to from_) E := by
  have hg : getE (mvX n at_ a to from_).1 E = none := by
    unfold getE
    rw [List.find?_eq_none]
    intro y hy
    rw [decide_eq_true_eq]
    exact hno y hy
  have hk := known_mv (n := n) (at_ := at_) (a := a) ht hf
  constructor
  · unfold postE
    rw [if_neg (fun h => h hb), if_neg (fun h => h hx)]
    simp only [hg]
    rw [if_neg (by rw [hk]; simp), if_neg (by show ¬ at_ ≤ -1; omega), if_neg (by omega)]
  · unfold postB
    simp only [hg]
theorem plain_ok : bkChk plA [] (-1) = 0 := bkChk_iff.2 ⟨plA_ok, by omega, by simp, by simp, by simp [keysE], fun i k y z _ hy => by simp at hy⟩
end Go.Acc
namespace Go.Acc
open Go
def isK (k : ByteArray) (y : En) : Bool := decide (y.1 = k)
def fiE (k : ByteArray) (E : List En) : Int := if E.any (isK k) = true then ((E.findIdx (isK k) : Nat) : Int) else -1
theorem find_idx {α : Type} (p : α → Bool) : ∀ (E : List α) (y : α), E.find? p = some y → E.any p = true ∧ E[E.findIdx p]? = some y
  | [], _, h => by simp at h
  | x :: r, y, h => by
    rw [List.find?_cons] at h
    rw [List.findIdx_cons, List.any_cons]
    cases hp : p x with
    | true => rw [hp] at h; simp at h; subst h; exact ⟨rfl, rfl⟩
    | false =>
      rw [hp] at h
      obtain ⟨h1, h2⟩ := find_idx p r y h
      exact ⟨by rw [h1]; rfl, h2⟩
theorem fiE_some {k : ByteArray} {E : List En} {y : En} (h : getE k E = some y) : ∃ i : Nat, fiE k E = (i : Int) ∧ E[i]? = some y := by
  obtain ⟨h1, h2⟩ := find_idx (isK k) E y h
  exact ⟨_, by unfold fiE; rw [if_pos h1], h2⟩
theorem fiE_none {k : ByteArray} {E : List En} (h : getE k E = none) : fiE k E = -1 := by
  unfold fiE
  rw [if_neg]
  intro ha
  obtain ⟨y, hy, hp⟩ := List.any_eq_true.1 ha
  exact getE_none h y hy (of_decide_eq_true hp)
def bsB (x : En) (E : List En) : Bool := match E[posE x E]? with
  | some y => decide (cmpE y x = 0)
  | none => false
end Go.Acc
namespace Go.Proofs.YtdmkmbaaemhhhaaDoor
open Go Go.Ev Go.RowKit Go.Acc
set_option maxHeartbeats 4000000
set_option linter.unusedSimpArgs false
set_option linter.unusedVariables false
attribute [local go_sem] mutV getB mvB bkB V.mv V.mvL V.bk V.bkL Blk.mv Blk.bk posN nmN backN noDup app_writes setHL_nil setHL_cons postM_ret postM_normal resM hasB_nil hasB_cons St.mut names_nil names_cons sortV cellOf mkX_M mkX_S mkX_ln lnL_at ms0_mt ms0_st V.lone V.loneL List.zip_cons_cons List.zip_nil_left Option.isNone_none bornV subE partR unB bytesW boundsV ownP sliceW copyV clearV lenM takeV tk1 mapsV mkMapV hintOk lookV updV mapKE keyOk V.key app_lend callW_fn lendV postL_ret postL_normal postT_ret postT_normal takeR St.lent mkX_L bin_eql_vz bin_eql_zv bin_eql_rz bin_eql_zr bin_eql_zz bin_neq_vz bin_neq_zv bin_neq_rz bin_neq_zr bin_neq_zz eqH nilEq nonE plainI gOf_bool gOf_skip g_some g_none Int.ofNat_zero Int.cast_ofNat_Int Bool.false_and Bool.and_false sliceV noBox elemsZ V.scrub V.scrubL Blk.scrub appendV isSlice maxLen_eq leT List.contains_nil List.contains_cons nvL_at fzL_at fillV V.plain V.plainL Blk.plain List.size_toArray mapO_nil mapO_cons Option.isNone_some beqT beqF oI_not mkX_e phi_nil phi_cons bin_eql_bool bin_neq_bool bin_eql_agg bin_neq_agg eqV eqFs eqK_int eqK_bool' eqK_str mkX_T mkX_Φ mkX_n mkX_f mkX_d mkX_r nv0_at fz0_at evQ_dr evP_W evW_nil evW_cons evW_guard okW_eq tame_none tame_new tame_write wb_none wb_new wb_write okU_some offW_none offW_some touchOf V.noRef V.noRefL Option.isSome_some Option.isSome_none mild_none mild_new Option.getD_some Option.getD_none evQ_seq evQ_region evQ_block evQ_cond evQ_ret evQ_skip evQ_exit evO_cons evO_nil evO_guard freezeL_nil oS_some oS_none oS_ite oS_ite' oB_bool oI_true oI_false oE_normal oE_exit oE_ret bQ_normal bQ_ret bQ_exit lQ_normal lQ_ret lQ_exit List.zipIdx_cons List.zipIdx_nil List.map_cons List.map_nil evalOp opd_const opd_tmp opd_func ofC_int ofC_bool ofC_str ofC_nil app_none app_new app_write app_change putE_some putE_none setA_cons setA_nil setH_cons setH_nil mapA_cons mapA_nil look_cons look_nil e_mk h_mk drop_nil drop_mk keep_mk dstOk_some dstOk_none guardT_eq true_and and_true Bool.not_false Bool.not_true selB_true selB_false mem_nil mem_cons kpL_nil kpL_cons drL_nil drL_cons closed_mk V.refsIn V.refsInL Blk.refsIn List.all_cons List.all_nil lenV bin_add bin_sub bin_mul bin_quo bin_rem bin_eql bin_neq bin_lss bin_leq bin_gtr bin_geq un_neg un_not post_ret post_normal St.init Bool.false_eq_true List.length_map Bool.or_false Bool.or_true Bool.false_or Bool.true_or beq_self_eq_true Option.map_some Option.map_none Option.bind_some List.getElem?_cons_zero List.getElem?_cons_succ scalar stor isAggV V.cells List.cons_append List.nil_append if_true if_false wrap_of callV V.dataL V.data Bool.and_true Bool.true_and fresh names V.ren V.renL retV resV packL packV packC getBlks wrapR subV putV decide_true decide_false TK.agg List.length_cons List.length_nil List.take_succ_cons List.take_zero List.drop_succ_cons List.drop_zero List.take_nil List.drop_nil Nat.zero_add Nat.add_zero List.append_nil List.getElem?_nil elemsV ro ro0 ro1 roC ty1 ty2 ty3 ty4 ty5 ty6 ty7 ty8 ty9 ty10 ty11 ty12 ty13 ty14 ty15 ty16 ty17 ty18 ty19 ty21 ty22 ty23 ty24 ty26 ty27 ty28 ty29 ty30 ty31 ty32 ty33 ty34 ty35 ty36 ty37 ty38 ty39 ty40 ty41 ty42 ty44 ty45 ty47 ty49 ty51 ty53 ty54 ty55 ty56 ty57 ty58 ty59 ty60 ty61 ty62 ty63 ty64 ty65 ty66 ty67 ty68 ty69 ty70 ty71 ty72 ty73 ty74 ty75 ty76 ty77 ty78 ty79 ty80 ty81 ty82 ty83 ty84 ty85 ty86 ty87 ty88 ty89 ty90 ty92 ty93 ty94 ty95 ty96 ty97 ty98 ty99 ty100 ty101 ty102 ty103 ty104 ty105 ty107 ty108 ty109 ty110 ty111 ty112 ty113 ty114 ty115 ty116 ty117 ty118 ty119 ty123 ty124 ty125 ty126 ty127 ty128 ty129 ty130 ty131 ty132 ty133 ty135 ty136 ty137 ty138 ty139 ty141 ty142 ty143 ty144 ty146 ty147 ty148 ty149 ty153 ty154 ty155 ty156 ty157 ty158 ty159 ty160 ty161 eqs29 eqs61 eqs79 eqs94
theorem indexE_sound {J : World → Prop} (hJ : Stable J) (g : FuncId) (cs : List V) (G : List V → Option (V × List Ev.Blk)) (hG : Snd Tryd.prog J g G) (hd : V.dataL cs = true) (p : En → Bool) (l : List En) (hp : ∀ n ∈ l, G (enW n :: cs) = some (.bool (p n), [])) :
    SoundAt Tryd.prog J 78 [.row 3 (l.map enW), .fn g cs] (.int .i64 (if l.any p = true then ((l.findIdx p : Nat) : Int) else -1)) [] := by
  refine SoundAt.row 0 rfl (callOk Tryd.func78 rfl rfl) fun hlen => ?_
  simp only [maxLen, List.length_map] at hlen
  refine evFn (l := [(g, G)]) (nv := nv0) (fz := fz0) (dr := dr78) (dd := dd78) (lam := []) (ms := ms0) ⟨hG, trivial⟩ hJ trivial ms0_ok Tryd.func78 rfl rfl (Nat.le_of_ble_eq_true rfl) (Nat.le_of_ble_eq_true rfl) drOk78 ?_
  dsimp only [Tryd.f78, dr78, dd78, Option.getD_some]
  refine ev_start ?_
  simp (disch := omega) only [go_sem, Int.reduceEq, Int.reduceLT, Int.reduceLE, Int.reduceNeg, Nat.reduceAdd, Nat.reduceLT, Nat.reduceEqDiff, Nat.reduceMul, Nat.reduceLeDiff, reduceIte, Nat.reduceBEq, reduceCtorEq, evP_D, evD_guard, evD_cons, evD_zero, evD_nil]
  refine evQ_loop [0, 1, 7, 8] [] (fun σ => ∃ k : Nat, (k ≤ l.length ∧ ∀ i (h : i < l.length), i < k → p l[i] = false) ∧ σ = ⟨[(0, .row 3 (l.map enW)), (1, .fn g cs), (7, .int .i64 l.length), (8, .int .i64 k)], []⟩) (fun σ => l.length - (match Ev.look 8 σ.env with | some (.int _ n) => n.toNat | _ => 0)) ?_ ?_
  · simp only [go_sem, Int.reduceEq, Int.reduceLT, Int.reduceLE, Int.reduceNeg, Nat.reduceAdd, Nat.reduceLT, Nat.reduceEqDiff, Nat.reduceMul, Nat.reduceLeDiff, reduceIte, Nat.reduceBEq, reduceCtorEq, evP_D, evD_guard, evD_cons, evD_zero, evD_nil]
    exact ⟨refsInL_data hd, 0, ⟨Nat.zero_le _, fun _ _ h => by omega⟩, rfl⟩
  · rintro σ ⟨k, ⟨hk, hall⟩, rfl⟩
    by_cases hlt : k < l.length
    · have hlt' : (k : Int) < l.length := by omega
      have hg : (l.map enW)[k]? = some (.agg [.str l[k].1, .int .i64 l[k].2.1, .row 2 (l[k].2.2.map acV)]) := enW_get (c := l[k].1) (d := l[k].2.1) (l := l[k].2.2) (List.getElem?_eq_getElem hlt)
      have hpk := hp l[k] (List.getElem_mem hlt)
      simp only [enW] at hpk
      cases hb : p l[k] with
      | true =>
        rw [hb] at hpk
        have hany : l.any p = true := List.any_eq_true.2 ⟨l[k], List.getElem_mem hlt, hb⟩
        have hidx : l.findIdx p = k := (List.findIdx_eq hlt).2 ⟨hb, fun j hj => hall j (by omega) hj⟩
        simp (disch := (first | omega | assumption)) only [hlt', idx_nat, List.length_map, hg, hpk, hd, V.dataL, V.data, hany, hidx, go_sem, Int.reduceEq, Int.reduceLT, Int.reduceLE, Int.reduceNeg, Nat.reduceAdd, Nat.reduceLT, Nat.reduceEqDiff, Nat.reduceMul, Nat.reduceLeDiff, reduceIte, Nat.reduceBEq, reduceCtorEq, evP_D, evD_guard, evD_cons, evD_zero, evD_nil]
      | false =>
        rw [hb] at hpk
        simp (disch := (first | omega | assumption)) only [hlt', idx_nat, List.length_map, hg, hpk, hd, refsInL_data hd, scrubL_data hd, V.dataL, V.data, go_sem, Int.reduceEq, Int.reduceLT, Int.reduceLE, Int.reduceNeg, Nat.reduceAdd, Nat.reduceLT, Nat.reduceEqDiff, Nat.reduceMul, Nat.reduceLeDiff, reduceIte, Nat.reduceBEq, reduceCtorEq, evP_D, evD_guard, evD_cons, evD_zero, evD_nil]
        exact ⟨⟨k + 1, ⟨hlt, fun i hi hik => by
          by_cases e : i = k
          · subst e; exact hb
          · exact hall i hi (by omega)⟩, rfl⟩, by show l.length - ((k : Int) + 1).toNat < l.length - (k : Int).toNat; omega⟩
    · have hk' : k = l.length := by omega
      subst hk'
      have hlt' : ¬ ((l.length : Int) < l.length) := by omega
      have hany : l.any p = false := by
        rw [List.any_eq_false]
        intro x hx
        obtain ⟨i, hi, rfl⟩ := List.mem_iff_getElem.1 hx
        simp [hall i hi hi]
      simp (disch := (first | omega | assumption)) only [hlt', hany, go_sem, Int.reduceEq, Int.reduceLT, Int.reduceLE, Int.reduceNeg, Nat.reduceAdd, Nat.reduceLT, Nat.reduceEqDiff, Nat.reduceMul, Nat.reduceLeDiff, reduceIte, Nat.reduceBEq, reduceCtorEq, evP_D, evD_guard, evD_cons, evD_zero, evD_nil]
def bfind1F : List V → Option (V × List Ev.Blk)
  | [.agg [.str c, .int .i64 n, .row 2 ls], .rd (.str k) 0] => (unAc ls).map fun _ => (.bool (decide (c = k)), [])
  | _ => none
theorem bfind1_snd {J : World → Prop} (hJ : Stable J) : Snd Tryd.prog J 79 bfind1F := by
  intro args r bs h
  unfold bfind1F at h
  split at h
  · rename_i c n ls k
    simp only [Option.map_eq_some_iff] at h
    obtain ⟨l, hl, h⟩ := h
    obtain ⟨rfl, rfl⟩ := some_pair (congrArg some h)
    rw [unAc_eq hl]
    refine evFn (l := []) (nv := nv0) (fz := fz0) (dr := dr79) (dd := dd79) (lam := []) (ms := ms0) trivial hJ trivial ms0_ok Tryd.func79 rfl rfl (Nat.le_of_ble_eq_true rfl) (Nat.le_of_ble_eq_true rfl) drOk79 ?_
    dsimp only [Tryd.f79, dr79, dd79, Option.getD_some]
    refine ev_start ?_
    simp (disch := omega) only [bin_eql_str, go_sem, Int.reduceEq, Int.reduceLT, Int.reduceLE, Int.reduceNeg, Nat.reduceAdd, Nat.reduceLT, Nat.reduceEqDiff, Nat.reduceMul, Nat.reduceLeDiff, reduceIte, Nat.reduceBEq, reduceCtorEq, evP_D, evD_guard, evD_cons, evD_zero, evD_nil]
  · cases h
theorem bfind_sound {J : World → Prop} (hJ : Stable J) (A : List (ByteArray × Int)) (E : List En) (s : Int) (k : ByteArray) : SoundAt Tryd.prog J 44 [bkV A E s, .str k] (.int .i64 (fiE k E)) [] := by
  have hI := indexE_sound hJ 79 [.rd (.str k) 0] bfind1F (bfind1_snd hJ) rfl (isK k) E fun n _ => by simp only [bfind1F, enW, unAc_map, Option.map_some]; rfl
  unfold bkV
  refine evFn (l := [(78, at1 [.row 3 (E.map enW), .fn 79 [.rd (.str k) 0]] (.int .i64 (fiE k E), []))]) (nv := nv0) (fz := fz0) (dr := dr44) (dd := dd44) (lam := []) (ms := ms0) ⟨at1_snd hI, trivial⟩ hJ trivial ms0_ok Tryd.func44 rfl rfl (Nat.le_of_ble_eq_true rfl) (Nat.le_of_ble_eq_true rfl) drOk44 ?_
  dsimp only [Tryd.f44, dr44, dd44, Option.getD_some]
  refine ev_start ?_
  simp (disch := omega) only [at1_eq, List.mapM_cons, List.mapM_nil, Option.bind_eq_bind, Option.pure_def, Option.bind_some, go_sem, Int.reduceEq, Int.reduceLT, Int.reduceLE, Int.reduceNeg, Nat.reduceAdd, Nat.reduceLT, Nat.reduceEqDiff, Nat.reduceMul, Nat.reduceLeDiff, reduceIte, Nat.reduceBEq, reduceCtorEq, evP_D, evD_guard, evD_cons, evD_zero, evD_nil]
theorem esame_sound {J : World → Prop} (hJ : Stable J) (x y : En) : SoundAt Tryd.prog J 72 [enW x, enW y] (.bool (decide (x = y))) [] := by
  obtain ⟨k, d, l⟩ := x
  obtain ⟨k', d', l'⟩ := y
  unfold enW
  by_cases hk : k = k'
  · subst hk
    by_cases hd : d = d'
    · subst hd
      have e : decide ((k, d, l) = (k, d, l')) = decide (l = l') := by simp
      refine evFn (l := [(35, eqLF)]) (nv := nv0) (fz := fz0) (dr := dr72) (dd := dd72) (lam := []) (ms := ms0) ⟨eqL_snd hJ, trivial⟩ hJ trivial ms0_ok Tryd.func72 rfl rfl (Nat.le_of_ble_eq_true rfl) (Nat.le_of_ble_eq_true rfl) drOk72 ?_
      dsimp only [Tryd.f72, dr72, dd72, Option.getD_some]
      refine ev_start ?_
      simp (disch := omega) only [eqLF_rows, bin_eql_str, decide_true, e, go_sem, Int.reduceEq, Int.reduceLT, Int.reduceLE, Int.reduceNeg, Nat.reduceAdd, Nat.reduceLT, Nat.reduceEqDiff, Nat.reduceMul, Nat.reduceLeDiff, reduceIte, Nat.reduceBEq, reduceCtorEq, evP_D, evD_guard, evD_cons, evD_zero, evD_nil]
    · have e : decide ((k, d, l) = (k, d', l')) = false := by simp [hd]
      refine evFn (l := [(35, eqLF)]) (nv := nv0) (fz := fz0) (dr := dr72) (dd := dd72) (lam := []) (ms := ms0) ⟨eqL_snd hJ, trivial⟩ hJ trivial ms0_ok Tryd.func72 rfl rfl (Nat.le_of_ble_eq_true rfl) (Nat.le_of_ble_eq_true rfl) drOk72 ?_
      dsimp only [Tryd.f72, dr72, dd72, Option.getD_some]
      refine ev_start ?_
      simp (disch := omega) only [eqLF_rows, bin_eql_str, decide_true, hd, e, go_sem, Int.reduceEq, Int.reduceLT, Int.reduceLE, Int.reduceNeg, Nat.reduceAdd, Nat.reduceLT, Nat.reduceEqDiff, Nat.reduceMul, Nat.reduceLeDiff, reduceIte, Nat.reduceBEq, reduceCtorEq, evP_D, evD_guard, evD_cons, evD_zero, evD_nil]
  · have e : decide ((k, d, l) = (k', d', l')) = false := by simp [hk]
    have hk' := decide_eq_false hk
    refine evFn (l := [(35, eqLF)]) (nv := nv0) (fz := fz0) (dr := dr72) (dd := dd72) (lam := []) (ms := ms0) ⟨eqL_snd hJ, trivial⟩ hJ trivial ms0_ok Tryd.func72 rfl rfl (Nat.le_of_ble_eq_true rfl) (Nat.le_of_ble_eq_true rfl) drOk72 ?_
    dsimp only [Tryd.f72, dr72, dd72, Option.getD_some]
    refine ev_start ?_
    simp (disch := omega) only [eqLF_rows, bin_eql_str, hk', e, go_sem, Int.reduceEq, Int.reduceLT, Int.reduceLE, Int.reduceNeg, Nat.reduceAdd, Nat.reduceLT, Nat.reduceEqDiff, Nat.reduceMul, Nat.reduceLeDiff, reduceIte, Nat.reduceBEq, reduceCtorEq, evP_D, evD_guard, evD_cons, evD_zero, evD_nil]
end Go.Proofs.YtdmkmbaaemhhhaaDoor
namespace Go.Acc
open Go
theorem posE_mid {x : En} {E : List En} (hs : srtE E) {h : Nat} {y : En} (hy : E[h]? = some y) : (ltB y x = true → ∀ (k : Nat) z, k ≤ h → E[k]? = some z → ltB z x = true) ∧ (ltB y x = false → ∀ (k : Nat) z, h ≤ k → E[k]? = some z → ltB z x = false) := by
  constructor
  · intro hl k z hk hz
    rcases Nat.lt_or_ge k h with hkh | hkh
    · exact ltB_trans (hs k h z y hkh hz hy) hl
    · have e : k = h := by omega
      subst e
      rw [hy] at hz
      cases hz
      exact hl
  · intro hl k z hk hz
    rcases Nat.lt_or_ge h k with hkh | hkh
    · cases hzx : ltB z x with
      | false => rfl
      | true =>
        have := ltB_trans (hs h k y z hkh hy hz) hzx
        rw [hl] at this
        cases this
    · have e : k = h := by omega
      subst e
      rw [hy] at hz
      cases hz
      exact hl
end Go.Acc
namespace Go.Proofs.YtdmkmbaaemhhhaaDoor
open Go Go.Ev Go.RowKit Go.Acc
set_option maxHeartbeats 4000000
set_option linter.unusedSimpArgs false
set_option linter.unusedVariables false
attribute [local go_sem] mutV getB mvB bkB V.mv V.mvL V.bk V.bkL Blk.mv Blk.bk posN nmN backN noDup app_writes setHL_nil setHL_cons postM_ret postM_normal resM hasB_nil hasB_cons St.mut names_nil names_cons sortV cellOf mkX_M mkX_S mkX_ln lnL_at ms0_mt ms0_st V.lone V.loneL List.zip_cons_cons List.zip_nil_left Option.isNone_none bornV subE partR unB bytesW boundsV ownP sliceW copyV clearV lenM takeV tk1 mapsV mkMapV hintOk lookV updV mapKE keyOk V.key app_lend callW_fn lendV postL_ret postL_normal postT_ret postT_normal takeR St.lent mkX_L bin_eql_vz bin_eql_zv bin_eql_rz bin_eql_zr bin_eql_zz bin_neq_vz bin_neq_zv bin_neq_rz bin_neq_zr bin_neq_zz eqH nilEq nonE plainI gOf_bool gOf_skip g_some g_none Int.ofNat_zero Int.cast_ofNat_Int Bool.false_and Bool.and_false sliceV noBox elemsZ V.scrub V.scrubL Blk.scrub appendV isSlice maxLen_eq leT List.contains_nil List.contains_cons nvL_at fzL_at fillV V.plain V.plainL Blk.plain List.size_toArray mapO_nil mapO_cons Option.isNone_some beqT beqF oI_not mkX_e phi_nil phi_cons bin_eql_bool bin_neq_bool bin_eql_agg bin_neq_agg eqV eqFs eqK_int eqK_bool' eqK_str mkX_T mkX_Φ mkX_n mkX_f mkX_d mkX_r nv0_at fz0_at evQ_dr evP_W evW_nil evW_cons evW_guard okW_eq tame_none tame_new tame_write wb_none wb_new wb_write okU_some offW_none offW_some touchOf V.noRef V.noRefL Option.isSome_some Option.isSome_none mild_none mild_new Option.getD_some Option.getD_none evQ_seq evQ_region evQ_block evQ_cond evQ_ret evQ_skip evQ_exit evO_cons evO_nil evO_guard freezeL_nil oS_some oS_none oS_ite oS_ite' oB_bool oI_true oI_false oE_normal oE_exit oE_ret bQ_normal bQ_ret bQ_exit lQ_normal lQ_ret lQ_exit List.zipIdx_cons List.zipIdx_nil List.map_cons List.map_nil evalOp opd_const opd_tmp opd_func ofC_int ofC_bool ofC_str ofC_nil app_none app_new app_write app_change putE_some putE_none setA_cons setA_nil setH_cons setH_nil mapA_cons mapA_nil look_cons look_nil e_mk h_mk drop_nil drop_mk keep_mk dstOk_some dstOk_none guardT_eq true_and and_true Bool.not_false Bool.not_true selB_true selB_false mem_nil mem_cons kpL_nil kpL_cons drL_nil drL_cons closed_mk V.refsIn V.refsInL Blk.refsIn List.all_cons List.all_nil lenV bin_add bin_sub bin_mul bin_quo bin_rem bin_eql bin_neq bin_lss bin_leq bin_gtr bin_geq un_neg un_not post_ret post_normal St.init Bool.false_eq_true List.length_map Bool.or_false Bool.or_true Bool.false_or Bool.true_or beq_self_eq_true Option.map_some Option.map_none Option.bind_some List.getElem?_cons_zero List.getElem?_cons_succ scalar stor isAggV V.cells List.cons_append List.nil_append if_true if_false wrap_of callV V.dataL V.data Bool.and_true Bool.true_and fresh names V.ren V.renL retV resV packL packV packC getBlks wrapR subV putV decide_true decide_false TK.agg List.length_cons List.length_nil List.take_succ_cons List.take_zero List.drop_succ_cons List.drop_zero List.take_nil List.drop_nil Nat.zero_add Nat.add_zero List.append_nil List.getElem?_nil elemsV ro ro0 ro1 roC ty1 ty2 ty3 ty4 ty5 ty6 ty7 ty8 ty9 ty10 ty11 ty12 ty13 ty14 ty15 ty16 ty17 ty18 ty19 ty21 ty22 ty23 ty24 ty26 ty27 ty28 ty29 ty30 ty31 ty32 ty33 ty34 ty35 ty36 ty37 ty38 ty39 ty40 ty41 ty42 ty44 ty45 ty47 ty49 ty51 ty53 ty54 ty55 ty56 ty57 ty58 ty59 ty60 ty61 ty62 ty63 ty64 ty65 ty66 ty67 ty68 ty69 ty70 ty71 ty72 ty73 ty74 ty75 ty76 ty77 ty78 ty79 ty80 ty81 ty82 ty83 ty84 ty85 ty86 ty87 ty88 ty89 ty90 ty92 ty93 ty94 ty95 ty96 ty97 ty98 ty99 ty100 ty101 ty102 ty103 ty104 ty105 ty107 ty108 ty109 ty110 ty111 ty112 ty113 ty114 ty115 ty116 ty117 ty118 ty119 ty123 ty124 ty125 ty126 ty127 ty128 ty129 ty130 ty131 ty132 ty133 ty135 ty136 ty137 ty138 ty139 ty141 ty142 ty143 ty144 ty146 ty147 ty148 ty149 ty153 ty154 ty155 ty156 ty157 ty158 ty159 ty160 ty161 eqs29 eqs61 eqs79 eqs94
theorem half_shr (n : Nat) : binV .shr (.int .u64 ((n : Nat) : Int)) (.int .u64 1) = some (.int .u64 ((n / 2 : Nat) : Int)) := by
  have h : (2 ^ (min (Int.toNat 1) IntKind.u64.bits) : Int) = 2 := rfl
  have e : binV .shr (.int .u64 ((n : Nat) : Int)) (.int .u64 1) = some (.int .u64 (Int.fdiv ((n : Nat) : Int) (2 ^ (min (Int.toNat 1) IntKind.u64.bits)))) := by unfold binV; simp
  rw [e, h, Int.fdiv_eq_ediv_of_nonneg _ (by omega)]
  rfl
set_option maxHeartbeats 4000000 in
theorem bse_sound {J : World → Prop} (hJ : Stable J) (E : List En) (x : En) (hs : srtE E) (hE : ∀ y ∈ E, 0 ≤ y.2.1 ∧ y.2.1 ≤ 292193) (hx : 0 ≤ x.2.1 ∧ x.2.1 ≤ 292193) (hl : E.length ≤ 60) :
    SoundAt Tryd.prog J 73 [.row 3 (E.map enW), enW x, .fn 51 []] (.tup [.int .i64 (posE x E), .bool (bsB x E)]) [] := by
  obtain ⟨xk, xd, xl⟩ := x
  simp only at hx
  unfold enW
  refine evFn (l := [(51, cmpF)]) (nv := nv0) (fz := fz0) (dr := dr73) (dd := dd73) (lam := []) (ms := ms0) ⟨cmp_snd hJ, trivial⟩ hJ trivial ms0_ok Tryd.func73 rfl rfl (Nat.le_of_ble_eq_true rfl) (Nat.le_of_ble_eq_true rfl) drOk73 ?_
  dsimp only [Tryd.f73, dr73, dd73, Option.getD_some]
  refine ev_start ?_
  simp (disch := omega) only [List.length_map, go_sem, Int.reduceEq, Int.reduceLT, Int.reduceLE, Int.reduceNeg, Nat.reduceAdd, Nat.reduceLT, Nat.reduceEqDiff, Nat.reduceMul, Nat.reduceLeDiff, reduceIte, Nat.reduceBEq, reduceCtorEq, evP_D, evD_guard, evD_cons, evD_zero, evD_nil]
  refine evQ_loop [0, 2, 4, 8, 9, 10] [32] (fun σ => ∃ i j : Nat, (i ≤ j ∧ j ≤ E.length ∧ (∀ (k : Nat) y, k < i → E[k]? = some y → ltB y (xk, xd, xl) = true) ∧ (∀ (k : Nat) y, j ≤ k → E[k]? = some y → ltB y (xk, xd, xl) = false)) ∧
      σ = ⟨[(0, .row 3 (E.map enW)), (2, .fn 51 []), (4, .ptr 32 0), (8, .int .i64 E.length), (9, .int .i64 i), (10, .int .i64 j)], [(32, .box (.agg [.str xk, .int .i64 xd, .row 2 (xl.map acV)]))]⟩)
    (fun σ => (match Ev.look 10 σ.env with | some (.int _ n) => n.toNat | _ => 0) - (match Ev.look 9 σ.env with | some (.int _ n) => n.toNat | _ => 0)) ?_ ?_
  · simp only [go_sem, Int.reduceEq, Int.reduceLT, Int.reduceLE, Int.reduceNeg, Nat.reduceAdd, Nat.reduceLT, Nat.reduceEqDiff, Nat.reduceMul, Nat.reduceLeDiff, reduceIte, Nat.reduceBEq, reduceCtorEq, evP_D, evD_guard, evD_cons, evD_zero, evD_nil]
    exact ⟨0, E.length, ⟨Nat.zero_le _, Nat.le_refl _, fun _ _ h => by omega, fun k y hk hy => by have := (List.getElem?_eq_some_iff.1 hy).1; omega⟩, rfl⟩
  · rintro σ ⟨i, j, ⟨hij, hj, h1, h2⟩, rfl⟩
    by_cases hlt : i < j
    · have hlt' : (i : Int) < j := by omega
      have hlt1 : (i + j) / 2 < E.length := by omega
      obtain ⟨⟨c, d, l⟩, hcn⟩ : ∃ p, E[(i + j) / 2]? = some p := ⟨_, List.getElem?_eq_getElem hlt1⟩
      have hg := enW_get hcn
      have hdd := hE _ (List.mem_of_getElem? hcn)
      simp only at hdd
      have hc := cmpF_eq (a := c) (b := xk) (d := d) (e := xd) (l := l) (m := xl) hdd hx
      have w1 : IntKind.i64.wrap ((i : Int) + (j : Int)) = ((i + j : Nat) : Int) := by rw [IntKind.wrap_i64]; omega
      have w2 : IntKind.u64.wrap ((i + j : Nat) : Int) = ((i + j : Nat) : Int) := by simp [IntKind.wrap, IntKind.bits, IntKind.signed]; omega
      have w3 : IntKind.i64.wrap (((i + j) / 2 : Nat) : Int) = (((i + j) / 2 : Nat) : Int) := by rw [IntKind.wrap_i64]; omega
      have hm := posE_mid (x := (xk, xd, xl)) hs hcn
      cases hb : ltB (c, d, l) (xk, xd, xl) with
      | true =>
        have hneg : cmpE (c, d, l) (xk, xd, xl) < 0 := by
          have := (cmpE_ge (c, d, l) (xk, xd, xl))
          rw [hb] at this
          simp only [reduceCtorEq, iff_false] at this
          omega
        simp (disch := (first | omega | assumption)) only [hlt', w1, w2, w3, half_shr, idx_nat, List.length_map, hg, hc, hneg, go_sem, Int.reduceEq, Int.reduceLT, Int.reduceLE, Int.reduceNeg, Nat.reduceAdd, Nat.reduceLT, Nat.reduceEqDiff, Nat.reduceMul, Nat.reduceLeDiff, reduceIte, Nat.reduceBEq, reduceCtorEq, evP_D, evD_guard, evD_cons, evD_zero, evD_nil]
        refine ⟨⟨(i + j) / 2 + 1, j, ⟨by omega, hj, fun k y hk hy => hm.1 hb k y (by omega) hy, h2⟩, rfl⟩, ?_⟩
        have e3 : ((((i + j) / 2 : Nat) : Int) + 1).toNat = (i + j) / 2 + 1 := by omega
        rw [e3, Int.toNat_natCast, Int.toNat_natCast]
        omega
      | false =>
        have hneg : ¬ cmpE (c, d, l) (xk, xd, xl) < 0 := by
          have := (cmpE_ge (c, d, l) (xk, xd, xl)).2 hb
          omega
        simp (disch := (first | omega | assumption)) only [hlt', w1, w2, w3, half_shr, idx_nat, List.length_map, hg, hc, hneg, go_sem, Int.reduceEq, Int.reduceLT, Int.reduceLE, Int.reduceNeg, Nat.reduceAdd, Nat.reduceLT, Nat.reduceEqDiff, Nat.reduceMul, Nat.reduceLeDiff, reduceIte, Nat.reduceBEq, reduceCtorEq, evP_D, evD_guard, evD_cons, evD_zero, evD_nil]
        refine ⟨⟨i, (i + j) / 2, ⟨by omega, by omega, h1, fun k y hk hy => hm.2 hb k y hk hy⟩, rfl⟩, ?_⟩
        rw [Int.toNat_natCast, Int.toNat_natCast, Int.toNat_natCast]
        omega
    · have hij' : i = j := by omega
      subst hij'
      have hlt' : ¬ ((i : Int) < (i : Int)) := by omega
      have hp := posE_uniq (xk, xd, xl) E i hj h1 h2
      rw [hp]
      by_cases hi : i < E.length
      · have hi' : (i : Int) < E.length := by omega
        obtain ⟨⟨c, d, l⟩, hcn⟩ : ∃ p, E[i]? = some p := ⟨_, List.getElem?_eq_getElem hi⟩
        have hg := enW_get hcn
        have hdd := hE _ (List.mem_of_getElem? hcn)
        simp only at hdd
        have hc := cmpF_eq (a := c) (b := xk) (d := d) (e := xd) (l := l) (m := xl) hdd hx
        have hbs : bsB (xk, xd, xl) E = decide (cmpE (c, d, l) (xk, xd, xl) = 0) := by unfold bsB; rw [hp, hcn]
        by_cases h0 : cmpE (c, d, l) (xk, xd, xl) = 0
        · have h0' := decide_eq_true h0
          simp (disch := (first | omega | assumption)) only [hlt', hi', idx_nat, List.length_map, hg, hc, hbs, h0, go_sem, Int.reduceEq, Int.reduceLT, Int.reduceLE, Int.reduceNeg, Nat.reduceAdd, Nat.reduceLT, Nat.reduceEqDiff, Nat.reduceMul, Nat.reduceLeDiff, reduceIte, Nat.reduceBEq, reduceCtorEq, evP_D, evD_guard, evD_cons, evD_zero, evD_nil]
        · have h0' := decide_eq_false h0
          simp (disch := (first | omega | assumption)) only [hlt', hi', idx_nat, List.length_map, hg, hc, hbs, h0, go_sem, Int.reduceEq, Int.reduceLT, Int.reduceLE, Int.reduceNeg, Nat.reduceAdd, Nat.reduceLT, Nat.reduceEqDiff, Nat.reduceMul, Nat.reduceLeDiff, reduceIte, Nat.reduceBEq, reduceCtorEq, evP_D, evD_guard, evD_cons, evD_zero, evD_nil]
      · have hi' : ¬ ((i : Int) < E.length) := by omega
        have hbs : bsB (xk, xd, xl) E = false := by unfold bsB; rw [hp, List.getElem?_eq_none (by omega)]
        simp (disch := (first | omega | assumption)) only [hlt', hi', hbs, go_sem, Int.reduceEq, Int.reduceLT, Int.reduceLE, Int.reduceNeg, Nat.reduceAdd, Nat.reduceLT, Nat.reduceEqDiff, Nat.reduceMul, Nat.reduceLeDiff, reduceIte, Nat.reduceBEq, reduceCtorEq, evP_D, evD_guard, evD_cons, evD_zero, evD_nil]
end Go.Proofs.YtdmkmbaaemhhhaaDoor
namespace Go.Ev
open Go Go.RowKit
set_option linter.unusedVariables false
/-- a function that takes a row, at nil: what it gives back is a row of one's own -/
theorem take_zero {P : Program} {J : World → Prop} {f : FuncId} {T : TypeId} {sz : Nat} {as1 es' : List V} (hJJ : Stable J) (hpos : 0 < sz) (h : TakeAt P J f T sz [] as1 es') (hd : ∀ a ∈ as1, V.data a = true) : SoundAt P J f (.zero :: as1) (.vec 0) [.vec T sz es'] := by
  refine ⟨h.1, fun w ok vals hJ hok hlen hrel => ?_⟩
  match vals, hlen with
  | sv0 :: vals', hlen =>
    have h0 := hrel 0 _ sv0 rfl rfl
    cases h0
    have hI : Inv ok w.heap.size w (fun _ => none) (fun _ => none) := ⟨Nat.le_refl _, (fun b k hk => by cases hk), (fun b sv hr => by cases hr), (fun b b' sv sv' g h1 => by cases h1)⟩
    have hR := RoQ.all hI
    refine (h.2 w w.heap.size (fun g => g < w.heap.size) (okAt ok w.heap.size (fun _ => none) w) (.slice none 0 0) vals' (fun w' hb => hJJ w w' hJ hb) (Nat.le_refl _) (fun g hg => ⟨hg, by simp [own]⟩) (fun g hg => okAt_lt (Nat.le_refl _) hg) rfl hpos ⟨[], rfl, by simp, by simp, by simp, .inl ⟨none, rfl, rfl⟩⟩ (by simpa using hlen) fun j c u hc hu => ?_).mono ?_
    · have hx := hrel (j + 1) c u (by simpa using hc) (by simpa using hu)
      have hc' := hd c (List.mem_of_getElem? hc)
      refine tk_rel hI hR (v := c) (.ro (hx.mono fun g hg => ⟨.inl ⟨hok g hg, hg⟩, rfl⟩)) ?_
      cases c <;> simp_all [tk1, V.data]
    · rintro e w' ⟨sv', rfl, hb, hkeep, hsz, hown', hone, hO⟩
      have key : ∀ b sv, one 0 sv' b = some sv → b = 0 ∧ sv = sv' := by
        intro b sv hs
        unfold Ev.one at hs
        split at hs
        · rename_i e; simp at hs; exact ⟨e, hs.symm⟩
        · cases hs
      refine ⟨sv', one 0 sv', rfl, hb, ⟨hb.size, ?_, ?_, ?_⟩, .vec 0 sv' (by simp [one]) hone⟩
      · intro b k hk
        match b with
        | 0 =>
          simp at hk
          subst hk
          refine ⟨sv', by simp [one], hpos, hO.mono (fun g hg => ⟨?_, rfl⟩) fun _ _ => rfl⟩
          rcases hg with h | ⟨h1, h2, _⟩
          · exact .inl h
          · omega
        | b + 1 => simp at hk
      · intro b sv hs
        obtain ⟨rfl, rfl⟩ := key b sv hs
        exact ⟨_, rfl⟩
      · intro b b' sv s2 g h1 h2 _ _
        rw [(key b sv h1).1, (key b' s2 h2).1]
noncomputable def take1 (T : TypeId) (sz : Nat) (es as1 es' : List V) : TypeId → Nat → List V → List V → Option (List V) := fun T' sz' es0 as0 => open Classical in if T' = T ∧ sz' = sz ∧ es0 = es ∧ as0 = as1 then some es' else none
theorem take1_eq (T : TypeId) (sz : Nat) (es as1 es' : List V) : take1 T sz es as1 es' T sz es as1 = some es' := by unfold take1; rw [if_pos ⟨rfl, rfl, rfl, rfl⟩]
theorem take1_ok {P : Program} {J : World → Prop} {f : FuncId} {T : TypeId} {sz : Nat} {es as1 es' : List V} {l : Lam} (h : TakeAt P J f T sz es as1 es') (hl : LamOk P J l) : LamOk P J ((f, (true, take1 T sz es as1 es')) :: l) := by
  refine ⟨fun T' sz' e0 a0 e1 he => ?_, hl⟩
  unfold take1 at he
  simp only at he
  split at he
  · rename_i hc
    obtain ⟨rfl, rfl, rfl, rfl⟩ := hc
    simp only [Option.some.injEq] at he
    subst he
    exact h
  · cases he
end Go.Ev
namespace Go.Proofs.YtdmkmbaaemhhhaaDoor
open Go Go.Ev Go.RowKit Go.Acc
set_option maxHeartbeats 4000000
set_option linter.unusedSimpArgs false
set_option linter.unusedVariables false
attribute [local go_sem] mutV getB mvB bkB V.mv V.mvL V.bk V.bkL Blk.mv Blk.bk posN nmN backN noDup app_writes setHL_nil setHL_cons postM_ret postM_normal resM hasB_nil hasB_cons St.mut names_nil names_cons sortV cellOf mkX_M mkX_S mkX_ln lnL_at ms0_mt ms0_st V.lone V.loneL List.zip_cons_cons List.zip_nil_left Option.isNone_none bornV subE partR unB bytesW boundsV ownP sliceW copyV clearV lenM takeV tk1 mapsV mkMapV hintOk lookV updV mapKE keyOk V.key app_lend callW_fn lendV postL_ret postL_normal postT_ret postT_normal takeR St.lent mkX_L bin_eql_vz bin_eql_zv bin_eql_rz bin_eql_zr bin_eql_zz bin_neq_vz bin_neq_zv bin_neq_rz bin_neq_zr bin_neq_zz eqH nilEq nonE plainI gOf_bool gOf_skip g_some g_none Int.ofNat_zero Int.cast_ofNat_Int Bool.false_and Bool.and_false sliceV noBox elemsZ V.scrub V.scrubL Blk.scrub appendV isSlice maxLen_eq leT List.contains_nil List.contains_cons nvL_at fzL_at fillV V.plain V.plainL Blk.plain List.size_toArray mapO_nil mapO_cons Option.isNone_some beqT beqF oI_not mkX_e phi_nil phi_cons bin_eql_bool bin_neq_bool bin_eql_agg bin_neq_agg eqV eqFs eqK_int eqK_bool' eqK_str mkX_T mkX_Φ mkX_n mkX_f mkX_d mkX_r nv0_at fz0_at evQ_dr evP_W evW_nil evW_cons evW_guard okW_eq tame_none tame_new tame_write wb_none wb_new wb_write okU_some offW_none offW_some touchOf V.noRef V.noRefL Option.isSome_some Option.isSome_none mild_none mild_new Option.getD_some Option.getD_none evQ_seq evQ_region evQ_block evQ_cond evQ_ret evQ_skip evQ_exit evO_cons evO_nil evO_guard freezeL_nil oS_some oS_none oS_ite oS_ite' oB_bool oI_true oI_false oE_normal oE_exit oE_ret bQ_normal bQ_ret bQ_exit lQ_normal lQ_ret lQ_exit List.zipIdx_cons List.zipIdx_nil List.map_cons List.map_nil evalOp opd_const opd_tmp opd_func ofC_int ofC_bool ofC_str ofC_nil app_none app_new app_write app_change putE_some putE_none setA_cons setA_nil setH_cons setH_nil mapA_cons mapA_nil look_cons look_nil e_mk h_mk drop_nil drop_mk keep_mk dstOk_some dstOk_none guardT_eq true_and and_true Bool.not_false Bool.not_true selB_true selB_false mem_nil mem_cons kpL_nil kpL_cons drL_nil drL_cons closed_mk V.refsIn V.refsInL Blk.refsIn List.all_cons List.all_nil lenV bin_add bin_sub bin_mul bin_quo bin_rem bin_eql bin_neq bin_lss bin_leq bin_gtr bin_geq un_neg un_not post_ret post_normal St.init Bool.false_eq_true List.length_map Bool.or_false Bool.or_true Bool.false_or Bool.true_or beq_self_eq_true Option.map_some Option.map_none Option.bind_some List.getElem?_cons_zero List.getElem?_cons_succ scalar stor isAggV V.cells List.cons_append List.nil_append if_true if_false wrap_of callV V.dataL V.data Bool.and_true Bool.true_and fresh names V.ren V.renL retV resV packL packV packC getBlks wrapR subV putV decide_true decide_false TK.agg List.length_cons List.length_nil List.take_succ_cons List.take_zero List.drop_succ_cons List.drop_zero List.take_nil List.drop_nil Nat.zero_add Nat.add_zero List.append_nil List.getElem?_nil elemsV ro ro0 ro1 roC ty1 ty2 ty3 ty4 ty5 ty6 ty7 ty8 ty9 ty10 ty11 ty12 ty13 ty14 ty15 ty16 ty17 ty18 ty19 ty21 ty22 ty23 ty24 ty26 ty27 ty28 ty29 ty30 ty31 ty32 ty33 ty34 ty35 ty36 ty37 ty38 ty39 ty40 ty41 ty42 ty44 ty45 ty47 ty49 ty51 ty53 ty54 ty55 ty56 ty57 ty58 ty59 ty60 ty61 ty62 ty63 ty64 ty65 ty66 ty67 ty68 ty69 ty70 ty71 ty72 ty73 ty74 ty75 ty76 ty77 ty78 ty79 ty80 ty81 ty82 ty83 ty84 ty85 ty86 ty87 ty88 ty89 ty90 ty92 ty93 ty94 ty95 ty96 ty97 ty98 ty99 ty100 ty101 ty102 ty103 ty104 ty105 ty107 ty108 ty109 ty110 ty111 ty112 ty113 ty114 ty115 ty116 ty117 ty118 ty119 ty123 ty124 ty125 ty126 ty127 ty128 ty129 ty130 ty131 ty132 ty133 ty135 ty136 ty137 ty138 ty139 ty141 ty142 ty143 ty144 ty146 ty147 ty148 ty149 ty153 ty154 ty155 ty156 ty157 ty158 ty159 ty160 ty161 eqs29 eqs61 eqs79 eqs94
set_option maxHeartbeats 4000000 in
theorem copied_own {J : World → Prop} (hJ : Stable J) (A : List (ByteArray × Int)) (x0 : En) (r0 : List En) (s : Int) (hA : A.length ≤ 24) (hE : ∀ x ∈ x0 :: r0, x.2.2.length ≤ 12) (hl : (x0 :: r0).length ≤ 60) :
    SoundAt Tryd.prog J 40 [bkV A (x0 :: r0) s] (.agg [.row 2 (A.map acV), .vec 0, .int .i64 s]) [.vec 34 3 ((x0 :: r0).map enW)] := by
  generalize hEE : x0 :: r0 = E at *
  unfold bkV
  refine evFn (l := [(45, cloneF), (77, cloneF)]) (nv := nv0) (fz := fz0) (dr := dr40) (dd := dd40) (lam := []) (ms := ms0) ⟨cloneL_snd hJ, cloneA_snd hJ, trivial⟩ hJ trivial ms0_ok Tryd.func40 rfl rfl (Nat.le_of_ble_eq_true rfl) (Nat.le_of_ble_eq_true rfl) drOk40 ?_
  dsimp only [Tryd.f40, dr40, dd40, Option.getD_some]
  refine ev_start ?_
  have hcA := cloneF_eq A (by omega)
  simp (disch := omega) only [List.length_map, hcA, freezeL, go_sem, Int.reduceEq, Int.reduceLT, Int.reduceLE, Int.reduceNeg, Nat.reduceAdd, Nat.reduceLT, Nat.reduceEqDiff, Nat.reduceMul, Nat.reduceLeDiff, reduceIte, Nat.reduceBEq, reduceCtorEq, evP_D, evD_guard, evD_cons, evD_zero, evD_nil]
  refine evQ_loop [2, 3, 13, 14, 15] [16, 24, 216] (fun σ => ∃ (k : Nat), k ≤ E.length ∧ σ = cpS A E s k)
    (fun σ => E.length - (match Ev.look 15 σ.env with | some (.int _ n) => n.toNat | _ => 0)) ?_ ?_
  · simp only [go_sem, Int.reduceEq, Int.reduceLT, Int.reduceLE, Int.reduceNeg, Nat.reduceAdd, Nat.reduceLT, Nat.reduceEqDiff, Nat.reduceMul, Nat.reduceLeDiff, reduceIte, Nat.reduceBEq, reduceCtorEq, evP_D, evD_guard, evD_cons, evD_zero, evD_nil]
    exact ⟨0, Nat.zero_le _, rfl⟩
  · rintro σ ⟨k, hkl, rfl⟩
    by_cases hlt : k < E.length
    · have hlt' : (k : Int) < E.length := by omega
      obtain ⟨⟨c, d, l⟩, hcn⟩ : ∃ p, E[k]? = some p := ⟨_, List.getElem?_eq_getElem hlt⟩
      have hcl := cloneF_eq l (by have := hE _ (List.mem_of_getElem? hcn); simp only at this; omega)
      have hg := enW_get hcn
      have ht := take_enW hcn
      have hms : E.length - ((k : Int) + 1).toNat < E.length - (k : Int).toNat := by
        have e3 : ((k : Int) + 1).toNat = k + 1 := by omega
        rw [e3, Int.toNat_natCast]; exact Nat.sub_lt_sub_left hlt (Nat.lt_succ_self k)
      cases k with
      | zero =>
        have z0 : ((0 : Nat) : Int) = 0 := rfl
        have hi0 := idx_nat E.length 0 hlt
        rw [z0] at hlt' hi0 hms
        unfold cpS
        simp (disch := (first | omega | assumption)) only [hlt', hi0, List.length_map, hg, hcl, freezeL, go_sem, Int.reduceEq, Int.reduceLT, Int.reduceLE, Int.reduceNeg, Nat.reduceAdd, Nat.reduceLT, Nat.reduceEqDiff, Nat.reduceMul, Nat.reduceLeDiff, reduceIte, Nat.reduceBEq, reduceCtorEq, evP_D, evD_guard, evD_cons, evD_zero, evD_nil]
        exact ⟨⟨1, hlt, by simp only [cpS, ht]; rfl⟩, hms⟩
      | succ k =>
        have hlk : (E.take (k + 1)).length = k + 1 := by rw [List.length_take]; omega
        unfold cpS
        simp (disch := (first | omega | assumption)) only [hlt', idx_nat, List.length_map, hlk, List.length_append, List.length_cons, List.length_nil, hg, hcl, freezeL, go_sem, Int.reduceEq, Int.reduceLT, Int.reduceLE, Int.reduceNeg, Nat.reduceAdd, Nat.reduceLT, Nat.reduceEqDiff, Nat.reduceMul, Nat.reduceLeDiff, reduceIte, Nat.reduceBEq, reduceCtorEq, evP_D, evD_guard, evD_cons, evD_zero, evD_nil]
        exact ⟨⟨k + 2, hlt, by simp only [cpS, ht]; rfl⟩, hms⟩
    · have hk' : k = E.length := by omega
      subst hk'
      subst hEE
      have hlt'' : ¬ (((r0.length + 1 : Nat) : Int) < ((r0.length + 1 : Nat) : Int)) := by omega
      have htk : (x0 :: r0).take (r0.length + 1) = x0 :: r0 := List.take_length (l := x0 :: r0)
      simp only [List.length_cons, cpS]
      simp (disch := (first | omega | assumption)) only [hlt'', htk, freezeL, go_sem, Int.reduceEq, Int.reduceLT, Int.reduceLE, Int.reduceNeg, Nat.reduceAdd, Nat.reduceLT, Nat.reduceEqDiff, Nat.reduceMul, Nat.reduceLeDiff, reduceIte, Nat.reduceBEq, reduceCtorEq, evP_D, evD_guard, evD_cons, evD_zero, evD_nil]
end Go.Proofs.YtdmkmbaaemhhhaaDoor
namespace Go.Proofs.YtdmkmbaaemhhhaaDoor
open Go Go.Ev Go.RowKit Go.Acc
set_option maxHeartbeats 4000000
set_option linter.unusedSimpArgs false
set_option linter.unusedVariables false
attribute [local go_sem] mutV getB mvB bkB V.mv V.mvL V.bk V.bkL Blk.mv Blk.bk posN nmN backN noDup app_writes setHL_nil setHL_cons postM_ret postM_normal resM hasB_nil hasB_cons St.mut names_nil names_cons sortV cellOf mkX_M mkX_S mkX_ln lnL_at ms0_mt ms0_st V.lone V.loneL List.zip_cons_cons List.zip_nil_left Option.isNone_none bornV subE partR unB bytesW boundsV ownP sliceW copyV clearV lenM takeV tk1 mapsV mkMapV hintOk lookV updV mapKE keyOk V.key app_lend callW_fn lendV postL_ret postL_normal postT_ret postT_normal takeR St.lent mkX_L bin_eql_vz bin_eql_zv bin_eql_rz bin_eql_zr bin_eql_zz bin_neq_vz bin_neq_zv bin_neq_rz bin_neq_zr bin_neq_zz eqH nilEq nonE plainI gOf_bool gOf_skip g_some g_none Int.ofNat_zero Int.cast_ofNat_Int Bool.false_and Bool.and_false sliceV noBox elemsZ V.scrub V.scrubL Blk.scrub appendV isSlice maxLen_eq leT List.contains_nil List.contains_cons nvL_at fzL_at fillV V.plain V.plainL Blk.plain List.size_toArray mapO_nil mapO_cons Option.isNone_some beqT beqF oI_not mkX_e phi_nil phi_cons bin_eql_bool bin_neq_bool bin_eql_agg bin_neq_agg eqV eqFs eqK_int eqK_bool' eqK_str mkX_T mkX_Φ mkX_n mkX_f mkX_d mkX_r nv0_at fz0_at evQ_dr evP_W evW_nil evW_cons evW_guard okW_eq tame_none tame_new tame_write wb_none wb_new wb_write okU_some offW_none offW_some touchOf V.noRef V.noRefL Option.isSome_some Option.isSome_none mild_none mild_new Option.getD_some Option.getD_none evQ_seq evQ_region evQ_block evQ_cond evQ_ret evQ_skip evQ_exit evO_cons evO_nil evO_guard freezeL_nil oS_some oS_none oS_ite oS_ite' oB_bool oI_true oI_false oE_normal oE_exit oE_ret bQ_normal bQ_ret bQ_exit lQ_normal lQ_ret lQ_exit List.zipIdx_cons List.zipIdx_nil List.map_cons List.map_nil evalOp opd_const opd_tmp opd_func ofC_int ofC_bool ofC_str ofC_nil app_none app_new app_write app_change putE_some putE_none setA_cons setA_nil setH_cons setH_nil mapA_cons mapA_nil look_cons look_nil e_mk h_mk drop_nil drop_mk keep_mk dstOk_some dstOk_none guardT_eq true_and and_true Bool.not_false Bool.not_true selB_true selB_false mem_nil mem_cons kpL_nil kpL_cons drL_nil drL_cons closed_mk V.refsIn V.refsInL Blk.refsIn List.all_cons List.all_nil lenV bin_add bin_sub bin_mul bin_quo bin_rem bin_eql bin_neq bin_lss bin_leq bin_gtr bin_geq un_neg un_not post_ret post_normal St.init Bool.false_eq_true List.length_map Bool.or_false Bool.or_true Bool.false_or Bool.true_or beq_self_eq_true Option.map_some Option.map_none Option.bind_some List.getElem?_cons_zero List.getElem?_cons_succ scalar stor isAggV V.cells List.cons_append List.nil_append if_true if_false wrap_of callV V.dataL V.data Bool.and_true Bool.true_and fresh names V.ren V.renL retV resV packL packV packC getBlks wrapR subV putV decide_true decide_false TK.agg List.length_cons List.length_nil List.take_succ_cons List.take_zero List.drop_succ_cons List.drop_zero List.take_nil List.drop_nil Nat.zero_add Nat.add_zero List.append_nil List.getElem?_nil elemsV ro ro0 ro1 roC ty1 ty2 ty3 ty4 ty5 ty6 ty7 ty8 ty9 ty10 ty11 ty12 ty13 ty14 ty15 ty16 ty17 ty18 ty19 ty21 ty22 ty23 ty24 ty26 ty27 ty28 ty29 ty30 ty31 ty32 ty33 ty34 ty35 ty36 ty37 ty38 ty39 ty40 ty41 ty42 ty44 ty45 ty47 ty49 ty51 ty53 ty54 ty55 ty56 ty57 ty58 ty59 ty60 ty61 ty62 ty63 ty64 ty65 ty66 ty67 ty68 ty69 ty70 ty71 ty72 ty73 ty74 ty75 ty76 ty77 ty78 ty79 ty80 ty81 ty82 ty83 ty84 ty85 ty86 ty87 ty88 ty89 ty90 ty92 ty93 ty94 ty95 ty96 ty97 ty98 ty99 ty100 ty101 ty102 ty103 ty104 ty105 ty107 ty108 ty109 ty110 ty111 ty112 ty113 ty114 ty115 ty116 ty117 ty118 ty119 ty123 ty124 ty125 ty126 ty127 ty128 ty129 ty130 ty131 ty132 ty133 ty135 ty136 ty137 ty138 ty139 ty141 ty142 ty143 ty144 ty146 ty147 ty148 ty149 ty153 ty154 ty155 ty156 ty157 ty158 ty159 ty160 ty161 eqs29 eqs61 eqs79 eqs94
theorem enW_mk (k : ByteArray) (d : Int) (l : List (ByteArray × Int)) : enW (k, d, l) = .agg [.str k, .int .i64 d, .row 2 (l.map acV)] := rfl
noncomputable def poPhi (A : List (ByteArray × Int)) (E : List En) (s : Int) (x : En) : Phi :=
  [(20, at1 [.agg [.row 2 (A.map acV), .row 3 (E.map enW), .int .i64 s]] (.int .i64 (bkChk A E s), [])), (49, echeckF), (44, at1 [.agg [.row 2 (A.map acV), .row 3 (E.map enW), .int .i64 s], .str x.1] (.int .i64 (fiE x.1 E), [])), (50, knownF)]
theorem poPhi_ok {J : World → Prop} (hJ : Stable J) (A : List (ByteArray × Int)) (E : List En) (s : Int) (x : En) (hE : E.length ≤ maxLen) : PhiOk Tryd.prog J (poPhi A E s x) :=
  ⟨at1_snd (bcheck_sound hJ A E s hE), echeck_snd hJ, at1_snd (bfind_sound hJ A E s x.1), known_snd hJ, trivial⟩
def posR (A : List (ByteArray × Int)) (E : List En) (s : Int) (x : En) : V := .tup [if postE A E s x = 0 then bkV A (postB E x) s else zbV, .int .i64 (postE A E s x)]
theorem bse_snd {J : World → Prop} (hJ : Stable J) {A : List (ByteArray × Int)} {E : List En} {s : Int} {x : En} (hz : bkChk A E s = 0) (hx : enX x = 0) :
    SoundAt Tryd.prog J 73 [.row 3 (E.map enW), enW x, .fn 51 []] (.tup [.int .i64 (posE x E), .bool (bsB x E)]) [] := by
  obtain ⟨_, _, h3, h4, _, h6⟩ := bkChk_iff.1 hz
  exact bse_sound hJ E x h6 (fun y hy => (enX_ok (h4 y hy).1).1) (enX_ok hx).1 h3
theorem insE_rows (x : En) (E : List En) : (E.map enW).take (posE x E) ++ [enW x] ++ (E.map enW).drop (posE x E) = (insE x E).map enW := by
  unfold insE
  rw [List.map_append, List.map_cons, List.map_take, List.map_drop, List.append_assoc]
  rfl
set_option maxRecDepth 20000 in
set_option maxHeartbeats 8000000 in
theorem post_sound {J : World → Prop} (hJ : Stable J) (A : List (ByteArray × Int)) (E : List En) (s : Int) (x : En) (hE : E.length ≤ maxLen) : SoundAt Tryd.prog J 36 [bkV A E s, enW x] (posR A E s x) [] := by
  have hP := poPhi_ok hJ A E s x hE
  obtain ⟨k, d, l⟩ := x
  unfold bkV
  rw [enW_mk]
  by_cases hz : bkChk A E s = 0
  case neg =>
    have e1 : postE A E s (k, d, l) = bkChk A E s := if_pos hz
    have eR : posR A E s (k, d, l) = .tup [.agg [.zero, .zero, .int .i64 0], .int .i64 (bkChk A E s)] := by unfold posR; rw [e1, if_neg hz]; rfl
    rw [eR]
    refine evFn (l := poPhi A E s (k, d, l)) (nv := nv0) (fz := fz0) (dr := dr36) (dd := dd36) (lam := []) (ms := ms0) hP hJ trivial ms0_ok Tryd.func36 rfl rfl (Nat.le_of_ble_eq_true rfl) (Nat.le_of_ble_eq_true rfl) drOk36 ?_
    dsimp only [Tryd.f36, dr36, dd36, Option.getD_some]
    refine ev_start ?_
    simp (disch := omega) only [poPhi, at1_eq, hz, go_sem, Int.reduceEq, Int.reduceLT, Int.reduceLE, Int.reduceNeg, Nat.reduceAdd, Nat.reduceLT, Nat.reduceEqDiff, Nat.reduceMul, Nat.reduceLeDiff, reduceIte, Nat.reduceBEq, reduceCtorEq, evP_D, evD_guard, evD_cons, evD_zero, evD_nil]
  by_cases hx : enX (k, d, l) = 0
  case neg =>
    have e1 : postE A E s (k, d, l) = enX (k, d, l) := by unfold postE; rw [if_neg (fun h => h hz), if_pos hx]
    have eR : posR A E s (k, d, l) = .tup [.agg [.zero, .zero, .int .i64 0], .int .i64 (enE k d l)] := by unfold posR; rw [e1, if_neg hx]; rfl
    have hx' : ¬ enE k d l = 0 := hx
    rw [eR]
    refine evFn (l := poPhi A E s (k, d, l)) (nv := nv0) (fz := fz0) (dr := dr36) (dd := dd36) (lam := []) (ms := ms0) hP hJ trivial ms0_ok Tryd.func36 rfl rfl (Nat.le_of_ble_eq_true rfl) (Nat.le_of_ble_eq_true rfl) drOk36 ?_
    dsimp only [Tryd.f36, dr36, dd36, Option.getD_some]
    refine ev_start ?_
    simp (disch := omega) only [poPhi, at1_eq, echeckF_eq, hz, hx', go_sem, Int.reduceEq, Int.reduceLT, Int.reduceLE, Int.reduceNeg, Nat.reduceAdd, Nat.reduceLT, Nat.reduceEqDiff, Nat.reduceMul, Nat.reduceLeDiff, reduceIte, Nat.reduceBEq, reduceCtorEq, evP_D, evD_guard, evD_cons, evD_zero, evD_nil]
  have hx' : enE k d l = 0 := hx
  have hk := bkChk_ok hz
  have hA24 := acChk_len hk.1
  have hE12 : ∀ y ∈ E, y.2.2.length ≤ 12 := fun y hy => (enX_ok (hk.2.2.2 y hy).1).2.1
  cases hg : getE k E with
  | some y =>
    obtain ⟨i, hi, hyi⟩ := fiE_some hg
    have hlt : i < E.length := (List.getElem?_eq_some_iff.1 hyi).1
    have hfi : (0 : Int) ≤ i := by omega
    have e1 : postE A E s (k, d, l) = if y = (k, d, l) then 0 else 5 := by unfold postE; rw [if_neg (fun h => h hz), if_neg (fun h => h hx)]; simp only [hg]
    have e2 : postB E (k, d, l) = E := by unfold postB; simp only [hg]
    have hS := esame_sound hJ y (k, d, l)
    obtain ⟨k', d', l'⟩ := y
    have hyg := enW_get hyi
    simp only [enW_mk] at hS
    have hP' : PhiOk Tryd.prog J ((72, at1 _ (.bool (decide ((k', d', l') = (k, d, l))), [])) :: poPhi A E s (k, d, l)) := ⟨at1_snd hS, hP⟩
    by_cases hy : (k', d', l') = (k, d, l)
    · rw [if_pos hy] at e1
      have eR : posR A E s (k, d, l) = .tup [.agg [.row 2 (A.map acV), .row 3 (E.map enW), .int .i64 s], .int .i64 0] := by unfold posR; rw [e1, if_pos rfl, e2]; rfl
      have hC := copied_sound hJ A E s hA24 hE12 hk.2.2.1
      unfold bkV at hC
      rw [eR]
      refine evFn (l := (40, at1 _ (_, [])) :: (72, at1 _ (_, [])) :: poPhi A E s (k, d, l)) (nv := nv0) (fz := fz0) (dr := dr36) (dd := dd36) (lam := []) (ms := ms0) ⟨at1_snd hC, hP'⟩ hJ trivial ms0_ok Tryd.func36 rfl rfl (Nat.le_of_ble_eq_true rfl) (Nat.le_of_ble_eq_true rfl) drOk36 ?_
      dsimp only [Tryd.f36, dr36, dd36, Option.getD_some]
      refine ev_start ?_
      simp (disch := (first | omega | assumption)) only [poPhi, at1_eq, echeckF_eq, hz, hx', hi, hfi, idx_nat, List.length_map, hyg, decide_eq_true hy, go_sem, Int.reduceEq, Int.reduceLT, Int.reduceLE, Int.reduceNeg, Nat.reduceAdd, Nat.reduceLT, Nat.reduceEqDiff, Nat.reduceMul, Nat.reduceLeDiff, reduceIte, Nat.reduceBEq, reduceCtorEq, evP_D, evD_guard, evD_cons, evD_zero, evD_nil]
    · rw [if_neg hy] at e1
      have eR : posR A E s (k, d, l) = .tup [.agg [.zero, .zero, .int .i64 0], .int .i64 5] := by unfold posR; rw [e1, if_neg (by decide)]; rfl
      rw [eR]
      refine evFn (l := (72, at1 _ (_, [])) :: poPhi A E s (k, d, l)) (nv := nv0) (fz := fz0) (dr := dr36) (dd := dd36) (lam := []) (ms := ms0) hP' hJ trivial ms0_ok Tryd.func36 rfl rfl (Nat.le_of_ble_eq_true rfl) (Nat.le_of_ble_eq_true rfl) drOk36 ?_
      dsimp only [Tryd.f36, dr36, dd36, Option.getD_some]
      refine ev_start ?_
      simp (disch := (first | omega | assumption)) only [poPhi, at1_eq, echeckF_eq, hz, hx', hi, hfi, idx_nat, List.length_map, hyg, decide_eq_false hy, go_sem, Int.reduceEq, Int.reduceLT, Int.reduceLE, Int.reduceNeg, Nat.reduceAdd, Nat.reduceLT, Nat.reduceEqDiff, Nat.reduceMul, Nat.reduceLeDiff, reduceIte, Nat.reduceBEq, reduceCtorEq, evP_D, evD_guard, evD_cons, evD_zero, evD_nil]
  | none =>
    have hfn := fiE_none hg
    have e0 : postE A E s (k, d, l) = if knownB A (k, d, l) = false then 4 else if d ≤ s then 9 else if E.length = 60 then 2 else 0 := by unfold postE; rw [if_neg (fun h => h hz), if_neg (fun h => h hx)]; simp only [hg]
    cases hkn : knownB A (k, d, l) with
    | false =>
      have e1 : postE A E s (k, d, l) = 4 := by rw [e0, if_pos hkn]
      have eR : posR A E s (k, d, l) = .tup [.agg [.zero, .zero, .int .i64 0], .int .i64 4] := by unfold posR; rw [e1, if_neg (by decide)]; rfl
      rw [eR]
      refine evFn (l := poPhi A E s (k, d, l)) (nv := nv0) (fz := fz0) (dr := dr36) (dd := dd36) (lam := []) (ms := ms0) hP hJ trivial ms0_ok Tryd.func36 rfl rfl (Nat.le_of_ble_eq_true rfl) (Nat.le_of_ble_eq_true rfl) drOk36 ?_
      dsimp only [Tryd.f36, dr36, dd36, Option.getD_some]
      refine ev_start ?_
      simp (disch := omega) only [poPhi, at1_eq, echeckF_eq, knownF_eq, hkn, hz, hx', hfn, go_sem, Int.reduceEq, Int.reduceLT, Int.reduceLE, Int.reduceNeg, Nat.reduceAdd, Nat.reduceLT, Nat.reduceEqDiff, Nat.reduceMul, Nat.reduceLeDiff, reduceIte, Nat.reduceBEq, reduceCtorEq, evP_D, evD_guard, evD_cons, evD_zero, evD_nil]
    | true =>
      by_cases hds : d ≤ s
      · have e1 : postE A E s (k, d, l) = 9 := by rw [e0, if_neg (by rw [hkn]; simp), if_pos hds]
        have eR : posR A E s (k, d, l) = .tup [.agg [.zero, .zero, .int .i64 0], .int .i64 9] := by unfold posR; rw [e1, if_neg (by decide)]; rfl
        rw [eR]
        refine evFn (l := poPhi A E s (k, d, l)) (nv := nv0) (fz := fz0) (dr := dr36) (dd := dd36) (lam := []) (ms := ms0) hP hJ trivial ms0_ok Tryd.func36 rfl rfl (Nat.le_of_ble_eq_true rfl) (Nat.le_of_ble_eq_true rfl) drOk36 ?_
        dsimp only [Tryd.f36, dr36, dd36, Option.getD_some]
        refine ev_start ?_
        simp (disch := omega) only [poPhi, at1_eq, echeckF_eq, knownF_eq, hkn, hz, hx', hfn, hds, go_sem, Int.reduceEq, Int.reduceLT, Int.reduceLE, Int.reduceNeg, Nat.reduceAdd, Nat.reduceLT, Nat.reduceEqDiff, Nat.reduceMul, Nat.reduceLeDiff, reduceIte, Nat.reduceBEq, reduceCtorEq, evP_D, evD_guard, evD_cons, evD_zero, evD_nil]
      by_cases h60 : E.length = 60
      · have e1 : postE A E s (k, d, l) = 2 := by rw [e0, if_neg (by rw [hkn]; simp), if_neg hds, if_pos h60]
        have eR : posR A E s (k, d, l) = .tup [.agg [.zero, .zero, .int .i64 0], .int .i64 2] := by unfold posR; rw [e1, if_neg (by decide)]; rfl
        have h60' : ((E.length : Nat) : Int) = 60 := by omega
        rw [eR]
        refine evFn (l := poPhi A E s (k, d, l)) (nv := nv0) (fz := fz0) (dr := dr36) (dd := dd36) (lam := []) (ms := ms0) hP hJ trivial ms0_ok Tryd.func36 rfl rfl (Nat.le_of_ble_eq_true rfl) (Nat.le_of_ble_eq_true rfl) drOk36 ?_
        dsimp only [Tryd.f36, dr36, dd36, Option.getD_some]
        refine ev_start ?_
        simp (disch := omega) only [poPhi, at1_eq, echeckF_eq, knownF_eq, hkn, hz, hx', hfn, hds, List.length_map, h60', go_sem, Int.reduceEq, Int.reduceLT, Int.reduceLE, Int.reduceNeg, Nat.reduceAdd, Nat.reduceLT, Nat.reduceEqDiff, Nat.reduceMul, Nat.reduceLeDiff, reduceIte, Nat.reduceBEq, reduceCtorEq, evP_D, evD_guard, evD_cons, evD_zero, evD_nil]
      have h60' : ¬ ((E.length : Nat) : Int) = 60 := by omega
      have e1 : postE A E s (k, d, l) = 0 := by rw [e0, if_neg (by rw [hkn]; simp), if_neg hds, if_neg h60]
      have e2 : postB E (k, d, l) = insE (k, d, l) E := by unfold postB; simp only [hg]
      have eR : posR A E s (k, d, l) = .tup [.agg [.row 2 (A.map acV), .row 3 ((insE (k, d, l) E).map enW), .int .i64 s], .int .i64 0] := by unfold posR; rw [e1, if_pos rfl, e2]; rfl
      have hll : l.length ≤ 12 := (enX_ok hx).2.1
      have hcl := cloneF_eq l (by omega)
      have hbs := bse_snd hJ hz hx
      have hT := insE_take (J := J) (posE (k, d, l) E) (E.map enW) [enW (k, d, l)] (by rw [List.length_map]; exact posE_le _ _) (by simp) (by rw [List.length_map]; simp; have := hk.2.2.1; omega)
      rw [insE_rows] at hT
      rw [eR]
      rw [enW_mk] at hbs hT
      cases E with
      | nil =>
        have hC := copied_raw hJ A [] s hA24 hE12 hk.2.2.1
        rw [if_pos rfl] at hC
        unfold bkV at hC
        have hI := take_zero hJ (by decide) hT (fun a ha => by
          simp only [List.mem_cons, List.not_mem_nil, or_false] at ha
          rcases ha with rfl | rfl <;> rfl)
        have hb0 : SoundAt Tryd.prog J 73 [.zero, .agg [.str k, .int .i64 d, .row 2 (l.map acV)], .fn 51 []] (.tup [.int .i64 (posE (k, d, l) []), .bool (bsB (k, d, l) [])]) [] :=
          sound_by hbs rfl fun w ok j c v hc hv => by
            match j with
            | 0 => simp at hc; subst hc; exact ⟨_, rfl, zero_row 3 _ _ _ hv⟩
            | 1 => simp at hc; subst hc; exact ⟨_, rfl, hv⟩
            | 2 => simp at hc; subst hc; exact ⟨_, rfl, hv⟩
            | j + 3 => simp at hc
        refine evFn (l := (40, at1 _ (_, [])) :: (45, cloneF) :: (73, at1 _ (_, [])) :: (74, at1 _ (_, _)) :: poPhi A [] s (k, d, l)) (nv := nv0) (fz := fzL [(77, [608]), (79, [616])]) (dr := dr36) (dd := dd36) (lam := []) (ms := ms0) ⟨at1_snd hC, cloneL_snd hJ, at1_snd hb0, at1_snd hI, hP⟩ hJ trivial ms0_ok Tryd.func36 rfl rfl (Nat.le_of_ble_eq_true rfl) (Nat.le_of_ble_eq_true rfl) drOk36 ?_
        dsimp only [Tryd.f36, dr36, dd36, Option.getD_some]
        refine ev_start ?_
        simp (disch := (first | omega | assumption)) only [poPhi, at1_eq, echeckF_eq, knownF_eq, hkn, hz, hx', hfn, hds, List.length_map, h60', hcl, freezeL, St.freeze, List.filter_cons, List.filter_nil, bne, go_sem, Int.reduceEq, Int.reduceLT, Int.reduceLE, Int.reduceNeg, Nat.reduceAdd, Nat.reduceLT, Nat.reduceEqDiff, Nat.reduceMul, Nat.reduceLeDiff, reduceIte, Nat.reduceBEq, reduceCtorEq, evP_D, evD_guard, evD_cons, evD_zero, evD_nil]
      | cons x0 r0 =>
        have hC := copied_own hJ A x0 r0 s hA24 hE12 hk.2.2.1
        unfold bkV at hC
        refine evFn (l := (40, at1 _ (_, _)) :: (45, cloneF) :: (73, at1 _ (_, [])) :: poPhi A (x0 :: r0) s (k, d, l)) (nv := nv0) (fz := fzL [(79, [480])]) (dr := dr36) (dd := dd36) (lam := [(74, (true, take1 34 3 ((x0 :: r0).map enW) [.int .i64 (posE (k, d, l) (x0 :: r0)), .row 3 [.agg [.str k, .int .i64 d, .row 2 (l.map acV)]]] ((insE (k, d, l) (x0 :: r0)).map enW)))]) (ms := ms0) ⟨at1_snd hC, cloneL_snd hJ, at1_snd hbs, hP⟩ hJ (take1_ok hT trivial) ms0_ok Tryd.func36 rfl rfl (Nat.le_of_ble_eq_true rfl) (Nat.le_of_ble_eq_true rfl) drOk36 ?_
        dsimp only [Tryd.f36, dr36, dd36, Option.getD_some]
        refine ev_start ?_
        generalize hEE : x0 :: r0 = E at *
        simp (disch := (first | omega | assumption)) only [poPhi, at1_eq, take1_eq, echeckF_eq, knownF_eq, hkn, hz, hx', hfn, hds, List.length_map, h60', hcl, List.mapM_cons, List.mapM_nil, Option.bind_eq_bind, Option.pure_def, freezeL, St.freeze, List.filter_cons, List.filter_nil, bne, go_sem, Int.reduceEq, Int.reduceLT, Int.reduceLE, Int.reduceNeg, Nat.reduceAdd, Nat.reduceLT, Nat.reduceEqDiff, Nat.reduceMul, Nat.reduceLeDiff, reduceIte, Nat.reduceBEq, reduceCtorEq, evP_D, evD_guard, evD_cons, evD_zero, evD_nil]
end Go.Proofs.YtdmkmbaaemhhhaaDoor
