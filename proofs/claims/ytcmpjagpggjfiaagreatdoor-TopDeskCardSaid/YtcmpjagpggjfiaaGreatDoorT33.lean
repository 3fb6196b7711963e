/-
  desk.Run: a script's lines, one by one.
-/
import Derived.Test.YtcmpjagpggjfiaaGreatDoorT32
import Derived.Test.YtcmpjagpggjfiaaGreatDoorT28
set_option linter.unusedVariables false
set_option linter.unusedSimpArgs false
namespace Go.Ev
open Go
def blkI : Code → Code | .block _ c => c | _ => .skip
def lpI : Code → Code | .loop c => c | _ => .skip
end Go.Ev
namespace Go.Proofs.YtcmpjagpggjfiaaGreatDoor
open Go Go.Ev Go.RowKit Go.Acc Go.Dk Go.Lg Go.Shelf
set_option maxHeartbeats 4000000
noncomputable def rn0 : Code := Tryz.f6.body.getD .skip
noncomputable def rn1 : Code := seqB rn0
noncomputable def rn2 : Code := seqB rn1
noncomputable def rn3 : Code := seqB rn2
noncomputable def rn4 : Code := seqB rn3
noncomputable def rn5 : Code := seqB rn4
noncomputable def rn6 : Code := seqB rn5
noncomputable def rnL : Code := lpI (blkI (seqB (seqA rn6)))
noncomputable def rnT : Code := seqB (seqB rnL)
noncomputable def rnK : Code := blkI (seqA rnT)
noncomputable def rnW : Code := seqB (seqB (seqB (seqB rnK)))
noncomputable def opsW : List Oper := match seqA rnW with
 | .region _ ops _ => ops.toList
 | _ => []
def runSt (lines : List ByteArray) (g k : Nat) (D : V) : St := ⟨[(5, .ptr 288 0), (6, .raw (.pointer (some ⟨g, 0, none⟩))), (37, .row 1 (lines.map V.str)), (38, .int .i64 lines.length), (39, .int .i64 k)], [(288, .box D)]⟩
def keptAs (ts bs : List Nat) (τ : St) (σ : St) : Prop := (σ.keep ts bs).closed bs = true ∧ σ.keep ts bs = τ
def runSt1 (lines ws : List ByteArray) (g k : Nat) (D : V) : St := ⟨[(5, .ptr 288 0), (6, .raw (.pointer (some ⟨g, 0, none⟩))), (9, .vec 72), (37, .row 1 (lines.map V.str)), (38, .int .i64 lines.length), (39, .int .i64 k)], [(288, .box D), (72, .vec 9 1 (ws.map V.str))]⟩
def runSt2 (lines : List ByteArray) (o : ByteArray) (g k : Nat) (D : V) : St := ⟨[(5, .ptr 288 0), (6, .raw (.pointer (some ⟨g, 0, none⟩))), (37, .row 1 (lines.map V.str)), (38, .int .i64 lines.length), (39, .int .i64 k), (68, .str o)], [(288, .box D)]⟩
structure DatV (D : V) : Prop where
 o : opq D
 rf : ∀ bs, V.refsIn bs D = true
 sc : ∀ b r, V.scrub b r D = D
 ag : ∃ cs, D = .agg cs ∧ (∀ bs, V.refsInL bs cs = true) ∧ ∀ b r, V.scrubL b r cs = cs
structure LnOk (s : ByteArray) (ws : List ByteArray) : Prop where
 cut : cutsB 32 s = ws
 ne : 0 < ws.length
 word : ∀ (i : Nat) (x : ByteArray), ws[i]? = some x → decide (x = ⟨#[]⟩) = false
 hash : ∀ x, ws[0]? = some x → decide (x = ⟨#[35]⟩) = false
 len : ws.length ≤ 100000
 size : s.size ≤ 65536
set_option maxRecDepth 100000 in
theorem round_words {lines ws : List ByteArray} {s : ByteArray} {g k : Nat} {D : V} (hD : DatV D) (hk : lines[k]? = some s) (hl : lines.length ≤ 200) (h : LnOk s ws) :
  ∃ X, TOkX Tryz.prog X ∧ LamAll Tryz.prog DkJ X ∧ (∀ g args r bs, X.Φ g args = some (r, bs) → SoundAt Tryz.prog DkJ g args r bs) ∧ ([seqA rnL, seqA (seqB rnL)] : List Code).all (drAll X.dr) = true ∧ ([seqA rnK, seqA (seqB rnK), seqA (seqB (seqB rnK)), seqA (seqB (seqB (seqB rnK)))] : List Code).all (drAll X.dr) = true ∧
   ev X 73 ([seqA rnL, seqA (seqB rnL)].foldr Code.seq .skip) (runSt lines g k D) (postN (keptAs [5, 6, 37, 38, 39] [288] (runSt lines g k D))) ∧
   ev X 73 ([seqA rnK, seqA (seqB rnK), seqA (seqB (seqB rnK)), seqA (seqB (seqB (seqB rnK)))].foldr Code.seq .skip) (runSt lines g k D) (postN (keptAs [5, 6, 9, 37, 38, 39] [72, 288] (runSt1 lines ws g k D))) := by
 have hS := sp_sound 32 s (by have := h.size; omega)
 rw [h.cut] at hS
 obtain ⟨X, hX⟩ : ∃ X, X = mkX (phi [(8, at1 [.str s, .str ⟨#[32]⟩] (.row 1 (ws.map V.str), []))]) (nvL [(9, (9, 1))]) fz0 dr6 dd6 [] ⟨[], lnL [], []⟩ := ⟨_, rfl⟩
 have hm : MtsOk Tryz.prog DkJ ⟨[], lnL [], []⟩ := ⟨trivial, trivial⟩
 have hlt : k < lines.length := (List.getElem?_eq_some_iff.1 hk).1
 have hi : idx lines.length (k : Int) = some k := by unfold idx; rw [if_pos (by omega)]; simp
 have hg : (lines.map V.str)[k]? = some (.str s) := by rw [List.getElem?_map, hk]; rfl
 have hlt' : (k : Int) < lines.length := by omega
 refine ⟨X, by rw [hX]; exact tyOk _ _ _ _ _ _ _, by rw [hX]; exact lamAll_of (lam := []) trivial hm rfl rfl rfl, by rw [hX]; exact phi_sound (P := Tryz.prog) (J := DkJ) ⟨at1_snd hS, trivial⟩, by rw [hX]; kernel_rfl, by rw [hX]; kernel_rfl, ?_, ?_⟩
 ·rw [hX]
  dsimp only [rnL, rn6, rn5, rn4, rn3, rn2, rn1, rn0, seqA, seqB, blkI, lpI, runSt, Tryz.f6, dr6, dd6, Option.getD_some, List.foldr_cons, List.foldr_nil]
  refine ev_start ?_
  simp (disch := omega) only [hlt', keptAs, hD.rf, postN_normal, evO_of, evD_of, go_sem, evP_D, evD_guard, evD_cons, evD_zero, evD_nil]
 ·rw [hX]
  obtain ⟨cs, rfl, hrf, hsc⟩ := hD.ag
  dsimp only [rnK, rnT, rnL, rn6, rn5, rn4, rn3, rn2, rn1, rn0, seqA, seqB, blkI, lpI, runSt, Tryz.f6, dr6, dd6, Option.getD_some, List.foldr_cons, List.foldr_nil]
  refine ev_start ?_
  simp (disch := omega) only [at1_eq, hi, hg, List.length_map, postN_normal, evO_of, evD_of, go_sem, evP_D, evD_guard, evD_cons, evD_zero, evD_nil]
  refine evQ_loop [5, 6, 9, 37, 38, 39, 44, 45, 46] [288, 72] (fun σ => ∃ i : Nat, i ≤ ws.length ∧ σ = ⟨[(5, .ptr 288 0), (6, .raw (.pointer (some ⟨g, 0, none⟩))), (9, .vec 72), (37, .row 1 (lines.map V.str)), (38, .int .i64 lines.length), (39, .int .i64 k), (44, .row 1 (ws.map V.str)), (45, .int .i64 ws.length), (46, .int .i64 i)], [(288, .box (.agg cs)), (72, .vec 9 1 ((ws.take i).map V.str))]⟩)
   (fun σ => ws.length - (match Ev.look 46 σ.env with | some (.int _ n) => n.toNat | _ => 0)) ?_ ?_
  ·simp only [hrf, hsc, go_sem, evP_D, evD_guard, evD_cons, evD_zero, evD_nil]
   exact ⟨0, Nat.zero_le _, rfl⟩
  ·rintro σ ⟨i, hi1, rfl⟩
   have hlen := h.len
   by_cases hlt : i < ws.length
   ·have hlt' : (i : Int) < ws.length := by omega
    have hi : idx ws.length (i : Int) = some i := by unfold idx; rw [if_pos (by omega)]; simp
    have hg : (ws.map V.str)[i]? = some (.str ws[i]) := by rw [List.getElem?_map, List.getElem?_eq_getElem hlt]; rfl
    have hne := h.word i _ (List.getElem?_eq_getElem hlt)
    have ht : (ws.take i).length ≤ 100000 := by rw [List.length_take]; omega
    simp (disch := (first | omega | assumption)) only [hlt', hi, hg, hne, hrf, hsc, List.length_map, bin_neq_str, go_sem, evP_D, evD_guard, evD_cons, evD_zero, evD_nil]
    refine ⟨⟨i + 1, hlt, ?_⟩, by show ws.length - ((i : Int) + 1).toNat < ws.length - (i : Int).toNat; omega⟩
    rw [List.take_succ_eq_append_getElem hlt, List.map_append]
    rfl
   ·have he : i = ws.length := by omega
    subst he
    have hlt' : ¬ (ws.length : Int) < ws.length := by omega
    have h0 : ¬ (ws.length : Int) = 0 := by have := h.ne; omega
    have hi : idx ws.length (0 : Int) = some 0 := by unfold idx; rw [if_pos (by have := h.ne; omega)]; simp
    have hg : (ws.map V.str)[0]? = some (.str (ws[0]'h.ne)) := by rw [List.getElem?_map, List.getElem?_eq_getElem h.ne]; rfl
    have hha := h.hash _ (List.getElem?_eq_getElem h.ne)
    simp (disch := (first | omega | assumption)) only [hlt', h0, hi, hg, hha, keptAs, hrf, hsc, List.take_length, List.length_map, bin_eql_str, postN_normal, evO_of, evD_of, go_sem, evP_D, evD_guard, evD_cons, evD_zero, evD_nil]
    rfl
theorem fam1 {f : FuncId} {ks ks' : List Ev.Blk} {args : List V} {r : V} (h : MutAt Tryz.prog DkJ f ks args r ks') : ∃ F : List Ev.Blk → List V → Option (V × List Ev.Blk), F ks args = some (r, ks') ∧ Mu Tryz.prog DkJ f F := one_mu h
set_option maxRecDepth 100000 in
theorem round_ans {lines ws : List ByteArray} {o : ByteArray} {g k : Nat} {D D' : V} (hD : DatV D) (hD' : DatV D') (hl : lines.length ≤ 200) (hk : k < lines.length)
  (hans : MutAt Tryz.prog DkJ 10 [.box D] [.ptr 1000000 0, .row 1 (ws.map V.str)] (.str o) [.box D']) :
  ∃ X, TOkX Tryz.prog X ∧ LamAll Tryz.prog DkJ X ∧ (∀ g args r bs, X.Φ g args = some (r, bs) → SoundAt Tryz.prog DkJ g args r bs) ∧ drAll X.dr (seqB rnT) = true ∧
   evOps X 73 opsW (opsW.take 3) (runSt1 lines ws g k D) (keptAs [5, 6, 37, 38, 39, 68] [288] (runSt2 lines o g k D')) ∧
   ev X 73 (seqB rnT) (runSt lines g k D') (postN (keptAs [5, 6, 37, 38, 39] [288] (runSt lines g (k + 1) D'))) := by
 obtain ⟨F, e1, sF⟩ := fam1 hans
 obtain ⟨X, hX⟩ : ∃ X, X = mkX (phi []) nv0 (fzL [(68, [72])]) dr6 dd6 [] ⟨[(10, F)], lnL [(68, [288])], []⟩ := ⟨_, rfl⟩
 have hm : MtsOk Tryz.prog DkJ ⟨[(10, F)], lnL [(68, [288])], []⟩ := ⟨⟨sF, trivial⟩, trivial⟩
 refine ⟨X, by rw [hX]; exact tyOk _ _ _ _ _ _ _, by rw [hX]; exact lamAll_of (lam := []) trivial hm rfl rfl rfl, by rw [hX]; exact phi_sound (P := Tryz.prog) (J := DkJ) (l := []) trivial, by rw [hX]; kernel_rfl, ?_, ?_⟩
 ·rw [hX]
  dsimp only [opsW, rnW, rnK, rnT, rnL, rn6, rn5, rn4, rn3, rn2, rn1, rn0, seqA, seqB, blkI, lpI, runSt1, Tryz.f6, dr6, dd6, Option.getD_some, List.foldr_cons, List.foldr_nil]
  simp only [List.take_succ_cons, List.take_zero]
  rw [evO_of]
  simp (disch := omega) only [hD.o.mv, hD.o.bk, hD'.o.mv, hD'.o.bk, hD.rf, hD'.rf, hD.sc, keptAs, e1, freezeL, St.freeze, List.filter_cons, List.filter_nil, bne, postN_normal, evO_of, evD_of, go_sem, evP_D, evD_guard, evD_cons, evD_zero, evD_nil]
  rfl
 ·rw [hX]
  dsimp only [rnT, rnL, rn6, rn5, rn4, rn3, rn2, rn1, rn0, seqA, seqB, blkI, lpI, runSt, Tryz.f6, dr6, dd6, Option.getD_some, List.foldr_cons, List.foldr_nil]
  refine ev_start ?_
  simp (disch := omega) only [keptAs, hD'.rf, postN_normal, evO_of, evD_of, go_sem, evP_D, evD_guard, evD_cons, evD_zero, evD_nil]
  rfl
theorem after_put {lines : List ByteArray} {o : ByteArray} {g k : Nat} {D : V} (hD : DatV D) : keptAs [5, 6, 37, 38, 39] [288] (runSt lines g k D) (((runSt2 lines o g k D).app .none (some 69) .undef).app .none (some 70) .undef) := by
 unfold keptAs runSt2 runSt
 simp (disch := omega) only [St.app, hD.rf, go_sem, evP_D, evD_guard, evD_cons, evD_zero, evD_nil]
set_option maxRecDepth 100000 in
theorem run_round {lines ws : List ByteArray} {s o : ByteArray} {g k : Nat} {D D' : V} {w0 w : World} {bs : List Value} {a : Act} {Q : Exit → Act → World → Prop} (hD : DatV D) (hD' : DatV D') (hk : lines[k]? = some s) (hl : lines.length ≤ 200) (h : LnOk s ws)
  (hans : MutAt Tryz.prog DkJ 10 [.box D] [.ptr 1000000 0, .row 1 (ws.map V.str)] (.str o) [.box D']) (hr : RunI DkJ w0 73 g bs (runSt lines g k D) a w) (hbs : bs.length + o.size + 1 ≤ 140737488355328)
  (hQ : ∀ a' w', RunI DkJ w0 73 g (bs ++ Lib.strCells o ++ [.int .u8 10]) (runSt lines g (k + 1) D') a' w' → Q .normal a' w') : rnL.wp Tryz.prog Q a w := by
 have hlt : k < lines.length := (List.getElem?_eq_some_iff.1 hk).1
 obtain ⟨X, hT, hΛ, hΦ, d1, d2, e1, e2⟩ := round_words (g := g) hD hk hl h
 obtain ⟨X2, hT2, hΛ2, hΦ2, d3, e3, e4⟩ := round_ans (g := g) hD hD' hl hlt hans
 show ([seqA rnL, seqA (seqB rnL)].foldr Code.seq rnT).wp _ _ _ _
 refine hr.chain hT hΛ hΦ stableDk d1 e1 fun σ1 a1 w1 hk1 hr1 => ?_
 have hr1 := hr1.keep hk1.1
 rw [hk1.2] at hr1
 show (Code.seq (.block 1 rnK) (seqB rnT)).wp _ _ _ _
 refine wp_seq (wp_block ?_)
 show ([seqA rnK, seqA (seqB rnK), seqA (seqB (seqB rnK)), seqA (seqB (seqB (seqB rnK)))].foldr Code.seq rnW).wp _ _ _ _
 refine hr1.chain hT hΛ hΦ stableDk d2 e2 fun σ2 a2 w2 hk2 hr2 => ?_
 have hr2 := hr2.keep hk2.1
 rw [hk2.2] at hr2
 show (Code.seq (seqA rnW) (seqB rnW)).wp _ _ _ _
 refine wp_seq ?_
 refine hr2.upto (m := 3) hT2 hΛ2 hΦ2 stableDk (Nat.le_of_ble_eq_true rfl) e3 fun σ3 a3 w3 hk3 hr3 => ?_
 have hr3 := hr3.keep hk3.1
 rw [hk3.2] at hr3
 show wpOps _ _ _ [3] _ _
 rw [wpOps_cons]
 refine wpOp_call rfl rfl (hr3.write (s := o) rfl (by show (69 : Nat) < 73; omega) rfl rfl (by omega) fun a4 w4 hr4 => ?_)
 show Code.wp _ (seqB rnW) _ _ _
 refine wp_region ?_
 show wpOps _ _ _ [0] _ _
 rw [wpOps_cons]
 refine wpOp_call rfl rfl (hr4.byte rfl (by show (70 : Nat) < 73; omega) rfl (by simp [Lib.strCells_length]; omega) fun a5 w5 hr5 => ?_)
 have hr5 : RunI DkJ w0 73 g (bs ++ Lib.strCells o ++ [.int .u8 10]) (((runSt2 lines o g k D').app .none (some 69) .undef).app .none (some 70) .undef) a5 w5 := hr5
 have hap := after_put (lines := lines) (o := o) (g := g) (k := k) hD'
 have hr5 := hr5.keep hap.1
 rw [hap.2] at hr5
 show Code.wp _ (seqB rnT) _ _ _
 refine hr5.code hT2 hΛ2 hΦ2 stableDk d3 (QE := postN (keptAs [5, 6, 37, 38, 39] [288] (runSt lines g (k + 1) D'))) e4 fun e σ6 a6 w6 hq hr6 => ?_
 cases e with
 | normal =>
  have hr6 := hr6.keep hq.1
  rw [hq.2] at hr6
  exact hQ _ _ hr6
 | exit id => exact hq.elim
 | ret => exact hq.elim
/-! ### all of it -/
def outC (l : List ByteArray) : List Value := l.flatMap fun o => Lib.strCells o ++ [.int .u8 10]
def outLs (l : List ByteArray) : List UInt8 := l.flatMap fun o => o.data.toList ++ [10]
theorem outC_eq (l : List ByteArray) : outC l = Lib.byteCells (outLs l) := by
 unfold outC outLs Lib.byteCells
 rw [List.map_flatMap]
 congr 1
 funext o
 rw [List.map_append]
 rfl
theorem outC_snoc (l : List ByteArray) (o : ByteArray) : outC (l ++ [o]) = outC l ++ Lib.strCells o ++ [.int .u8 10] := by
 unfold outC
 rw [List.flatMap_append]
 simp
theorem outC_len (l : List ByteArray) : (outC l).length = (outLs l).length := by rw [outC_eq, Lib.byteCells_length]
def runSt0 (lines : List ByteArray) (D : V) : St := ⟨[(3, .row 1 (lines.map V.str)), (5, .ptr 288 0)], [(288, .box D)]⟩
def runStE (lines : List ByteArray) (g k : Nat) (D : V) : St := ⟨[(5, .ptr 288 0), (6, .raw (.pointer (some ⟨g, 0, none⟩))), (37, .row 1 (lines.map V.str)), (38, .int .i64 lines.length), (39, .int .i64 k), (40, .bool false)], [(288, .box D)]⟩
set_option maxRecDepth 100000 in
theorem run_first {lines : List ByteArray} {script : ByteArray} (hcut : cutsB 10 script = lines ++ [(⟨#[]⟩ : ByteArray)]) (hs : script.size ≤ 65536) (hl : lines.length ≤ 200) :
  ∃ X, TOkX Tryz.prog X ∧ LamAll Tryz.prog DkJ X ∧ (∀ g args r bs, X.Φ g args = some (r, bs) → SoundAt Tryz.prog DkJ g args r bs) ∧ ([seqA rn0, seqA rn1, seqA rn2, seqA rn3, seqA rn4] : List Code).all (drAll X.dr) = true ∧
   ev X 73 ([seqA rn0, seqA rn1, seqA rn2, seqA rn3, seqA rn4].foldr Code.seq .skip) ⟨[(0, .str script)], []⟩ (postN (keptAs [3, 5] [288] (runSt0 lines (.agg [.zero, .zero, .int .i64 (-1), .zero])))) := by
 have hS := sp_sound 10 script (by omega)
 rw [hcut] at hS
 have hm : MtsOk Tryz.prog DkJ ⟨[], lnL [], []⟩ := ⟨trivial, trivial⟩
 obtain ⟨X, hX⟩ : ∃ X, X = mkX (phi [(8, at1 [.str script, .str ⟨#[10]⟩] (.row 1 ((lines ++ [(⟨#[]⟩ : ByteArray)]).map V.str), []))]) nv0 fz0 dr6 dd6 [] ⟨[], lnL [], []⟩ := ⟨_, rfl⟩
 have hi : idx (lines.length + 1) (lines.length : Int) = some lines.length := by unfold idx; rw [if_pos (by omega)]; simp
 have hg : ((lines ++ [(⟨#[]⟩ : ByteArray)]).map V.str)[lines.length]? = some (.str ⟨#[]⟩) := by rw [List.getElem?_map, List.getElem?_append_right (Nat.le_refl _), Nat.sub_self]; rfl
 have ht : ((lines ++ [(⟨#[]⟩ : ByteArray)]).map V.str).take lines.length = lines.map V.str := by rw [List.map_append]; exact List.take_left' (by simp)
 have hn : ((lines ++ [(⟨#[]⟩ : ByteArray)]).map V.str).length = lines.length + 1 := by rw [List.length_map, List.length_append]; rfl
 have hn2 : ((lines.length + 1 : Nat) : Int) = lines.length + 1 := rfl
 have hn3 : ((lines.length : Int) + 1 - 1) = lines.length := by omega
 have hn5 : ¬ (65536 : Int) < (script.size : Int) := by omega
 have hn6 : ¬ (200 : Int) < (lines.length : Int) := by omega
 have hn4 : (0 ≤ (lines.length : Int) ∧ (lines.length : Int) ≤ lines.length + 1) = True := eq_true ⟨by omega, by omega⟩
 refine ⟨X, by rw [hX]; exact tyOk _ _ _ _ _ _ _, by rw [hX]; exact lamAll_of (lam := []) trivial hm rfl rfl rfl, by rw [hX]; exact phi_sound (P := Tryz.prog) (J := DkJ) ⟨at1_snd hS, trivial⟩, by rw [hX]; kernel_rfl, ?_⟩
 rw [hX]
 generalize (lines ++ [(⟨#[]⟩ : ByteArray)]).map V.str = es at *
 dsimp only [rn4, rn3, rn2, rn1, rn0, seqA, seqB, Tryz.f6, dr6, dd6, Option.getD_some, List.foldr_cons, List.foldr_nil]
 refine ev_start ?_
 simp (disch := omega) only [at1_eq, hi, hg, ht, hn, hn2, hn3, hn4, hn5, hn6, if_true, Int.toNat_natCast, bin_eql_str, eq_self, decide_true, List.length_map, keptAs, postN_normal, evO_of, evD_of, go_sem, evP_D, evD_guard, evD_cons, evD_zero, evD_nil]
 rfl
set_option maxRecDepth 100000 in
theorem run_loop {lines : List ByteArray} {g : Nat} {D : V} (hD : DatV D) (hl : lines.length ≤ 200) :
  ∃ X, TOkX Tryz.prog X ∧ LamAll Tryz.prog DkJ X ∧ (∀ g args r bs, X.Φ g args = some (r, bs) → SoundAt Tryz.prog DkJ g args r bs) ∧ drAll X.dr (seqA (seqA rn6)) = true ∧ drAll X.dr (seqA rnL) = true ∧ drAll X.dr (seqA (seqB rnL)) = true ∧
   ev X 73 (seqA (seqA rn6)) ((runSt0 lines D).app .none (some 6) (.raw (.pointer (some ⟨g, 0, none⟩)))) (postN (keptAs [5, 6, 37, 38, 39] [288] (runSt lines g 0 D))) ∧
   ev X 73 (seqA rnL) (runSt lines g lines.length D) (postN (keptAs [5, 6, 37, 38, 39, 40] [288] (runStE lines g lines.length D))) ∧
   ev X 73 (seqA (seqB rnL)) (runStE lines g lines.length D) (fun e σ => e = .exit 0 ∧ σ = runStE lines g lines.length D) := by
 have hm : MtsOk Tryz.prog DkJ ⟨[], lnL [], []⟩ := ⟨trivial, trivial⟩
 obtain ⟨X, hX⟩ : ∃ X, X = mkX (phi []) nv0 fz0 dr6 dd6 [] ⟨[], lnL [], []⟩ := ⟨_, rfl⟩
 refine ⟨X, by rw [hX]; exact tyOk _ _ _ _ _ _ _, by rw [hX]; exact lamAll_of (lam := []) trivial hm rfl rfl rfl, by rw [hX]; exact phi_sound (P := Tryz.prog) (J := DkJ) (l := []) trivial, by rw [hX]; kernel_rfl, by rw [hX]; kernel_rfl, by rw [hX]; kernel_rfl, ?_, ?_, ?_⟩
 ·rw [hX]
  dsimp only [rn6, rn5, rn4, rn3, rn2, rn1, rn0, seqA, seqB, runSt0, Tryz.f6, dr6, dd6, Option.getD_some, List.foldr_cons, List.foldr_nil]
  refine ev_start ?_
  simp (disch := omega) only [keptAs, St.app, hD.rf, postN_normal, evO_of, evD_of, List.length_map, go_sem, evP_D, evD_guard, evD_cons, evD_zero, evD_nil]
  rfl
 ·rw [hX]
  have hlt : ¬ (lines.length : Int) < lines.length := by omega
  dsimp only [rnL, rn6, rn5, rn4, rn3, rn2, rn1, rn0, seqA, seqB, blkI, lpI, runSt, Tryz.f6, dr6, dd6, Option.getD_some, List.foldr_cons, List.foldr_nil]
  refine ev_start ?_
  simp (disch := omega) only [hlt, keptAs, hD.rf, postN_normal, evO_of, evD_of, go_sem, evP_D, evD_guard, evD_cons, evD_zero, evD_nil]
  rfl
 ·rw [hX]
  dsimp only [rnL, rn6, rn5, rn4, rn3, rn2, rn1, rn0, seqA, seqB, blkI, lpI, runStE, Tryz.f6, dr6, dd6, Option.getD_some, List.foldr_cons, List.foldr_nil]
  refine ev_start ?_
  simp (disch := omega) only [evO_of, evD_of, go_sem, evP_D, evD_guard, evD_cons, evD_zero, evD_nil]
set_option maxRecDepth 100000 in
theorem run_end {w0 w : World} {g : Nat} {l : List UInt8} {σ : St} {a : Act} (hr : RunI DkJ w0 73 g (Lib.byteCells l) σ a w) (h6 : σ.e 6 = .raw (.pointer (some ⟨g, 0, none⟩))) :
  (seqB rn6).wp Tryz.prog (bodyPost Tryz.prog Tryz.f6 fun e w' => e = .returned (.string ⟨l.toArray⟩) ∧ Below w0.heap.size w0 w') a w := by
 obtain ⟨ok, ρ, v, hs, hb, hno, hw⟩ := hr
 have e1 : a.tmps.getD 6 Go.undef = .pointer (some ⟨g, 0, none⟩) := by
  have := hs.rel 6
  rw [h6] at this
  exact this.raw_inv
 have hsz := hs.size
 refine wp_seq (wp_region ?_)
 show wpOps _ _ _ [0, 1] _ _
 rw [wpOps_cons]
 refine wpOp_call rfl rfl ?_
 obtain ⟨fn, h1, h2, h3⟩ := callOk Tryz.func12 rfl rfl
 have h2' := h2
 simp only [beq_eq_false_iff_ne, ne_eq] at h2'
 have h3' : fn.body ≠ none := by intro e; simp [e] at h3
 unfold Oper.wp
 have run : ∀ (o : Oper) (tys : Array TypeId), o.op = .call ⟨.value (.func 12), #[.tmp 6], tys⟩ → (execOp a.eval o).run Tryz.prog w = .ok (.enter 12 #[.pointer (some ⟨g, 0, none⟩)]) w := fun o tys ho => by
  have e0 : a.eval (.func 12) = .func (.func 12) #[] #[] := rfl
  have e4 : a.eval (.tmp 6) = .pointer (some ⟨g, 0, none⟩) := e1
  simp [execOp, ho, resolve, e0, e4, Deferred.ofValue, invoke, callFunc, h1, h2', h3']
 rw [run _ _ rfl]
 refine (bstring2 hb).mono ?_
 rintro e w' ⟨rfl, hbel⟩
 show wpOps _ _ _ [1] (a.put (some 72) (.string ⟨l.toArray⟩)) w'
 rw [wpOps_cons]
 refine wpOp_call rfl rfl ?_
 have e2 : (a.put (some 72) (.string ⟨l.toArray⟩)).tmps.getD 72 Go.undef = .string ⟨l.toArray⟩ := by rw [put_getD _ _ _ _ (by rw [hsz]; show (72 : Nat) < 73; omega), if_pos rfl]
 unfold Oper.wp
 have run2 : ∀ (o : Oper), o.op = .assign (.tmp 72) → (execOp (a.put (some 72) (.string ⟨l.toArray⟩)).eval o).run Tryz.prog w' = .ok (.value (.string ⟨l.toArray⟩)) w' := fun o ho => by
  have e5 : (a.put (some 72) (.string ⟨l.toArray⟩)).eval (.tmp 72) = .string ⟨l.toArray⟩ := e2
  simp [execOp, ho, e5]
 rw [run2 _ rfl]
 show Code.ret.wp _ _ ((a.put (some 72) (.string ⟨l.toArray⟩)).put (some 2) (.string ⟨l.toArray⟩)) w'
 refine wp_ret ⟨by rw [put_defers, put_defers]; exact hs.defers, .string ⟨l.toArray⟩, ?_, rfl, hw.trans hbel⟩
 have e3 : ((a.put (some 72) (.string ⟨l.toArray⟩)).put (some 2) (.string ⟨l.toArray⟩)).tmps.getD 2 Go.undef = .string ⟨l.toArray⟩ := by rw [put_getD _ _ _ _ (by rw [put_size, hsz]; show (2 : Nat) < 73; omega), if_pos rfl]
 rw [Array.getD_eq_getD_getElem?] at e3
 simp [results, Tryz.f6, e3]
theorem agg_weak {w : World} {ok : Nat → Prop} {ρ : Nat → Option Value} {val : Value} (h : Rel w ok ρ (.agg [.zero, .zero, .int .i64 (-1), .zero]) val) : Rel w ok ρ (.agg [.zero, .row 3 [], .int .i64 (-1), .zero]) val := by
 cases h with
 | ro h =>
  cases h with
  | agg _ vs hl h1 h =>
   refine .ro (.agg _ vs hl h1 fun j c v hc hv => ?_)
   match j, hc with
   | 0, hc => exact h 0 c v hc hv
   | 1, hc =>
    cases hc
    have := h 1 _ v rfl hv
    cases this
    exact .nil _ _
   | 2, hc => exact h 2 c v hc hv
   | 3, hc => exact h 3 c v hc hv
   | j + 4, hc => simp at hc
 | agg _ vs hl h1 h =>
  refine .agg _ vs hl h1 fun j c v hc hv => ?_
  match j, hc with
  | 0, hc => exact h 0 c v hc hv
  | 1, hc =>
   cases hc
   have := h 1 _ v rfl hv
   cases this with
   | ro this =>
    cases this
    exact .ro (.nil _ _)
  | 2, hc => exact h 2 c v hc hv
  | 3, hc => exact h 3 c v hc hv
  | j + 4, hc => simp at hc
set_option maxRecDepth 100000 in
theorem run_sound (items : List (ByteArray × List ByteArray × ByteArray)) (D : Nat → V) (script : ByteArray) (hcut : cutsB 10 script = items.map (·.1) ++ [(⟨#[]⟩ : ByteArray)]) (hs : script.size ≤ 65536) (hN : items.length ≤ 200) (hD : ∀ k, DatV (D k)) (h0 : D 0 = .agg [.zero, .row 3 [], .int .i64 (-1), .zero])
  (hl : ∀ (k : Nat) x, items[k]? = some x → LnOk x.1 x.2.1 ∧ MutAt Tryz.prog DkJ 10 [.box (D k)] [.ptr 1000000 0, .row 1 (x.2.1.map V.str)] (.str x.2.2) [.box (D (k + 1))]) (hos : (outLs (items.map (·.2.2))).length ≤ 100000000) :
  SoundAt Tryz.prog DkJ 6 [.str script] (.str ⟨(outLs (items.map (·.2.2))).toArray⟩) [] := by
 refine sound_plain (callOk Tryz.func6 rfl rfl) rfl rfl fun w hJ => ?_
 have hlen : (items.map (·.1)).length ≤ 200 := by simpa using hN
 obtain ⟨X, hT, hΛ, hΦ, d1, e1⟩ := run_first hcut hs hlen
 refine calls_of_wp (c := [seqA rn0, seqA rn1, seqA rn2, seqA rn3, seqA rn4].foldr Code.seq rn5) Tryz.func6 rfl ?_
 have hs0 := str_start (w := w) (n := 73) stableDk hJ script ⟨by omega, by omega⟩
 refine chain_wp (w0 := w) mixOk hT hΛ hΦ stableDk (fun σ a w1 hk hs1 => ?_) _ _ _ _ d1 e1 ⟨_, hs0⟩
 obtain ⟨ρ, hs1⟩ := hs1
 have hs1 := hs1.keep hk.1
 rw [hk.2] at hs1
 have hs1 := hs1.weak (b := 288) (v' := D 0) rfl fun val hv => by rw [h0]; exact agg_weak hv
 show (Code.seq (seqA rn5) rn6).wp _ _ _ _
 refine wp_seq (wp_region ?_)
 show wpOps _ _ _ [0] _ _
 rw [wpOps_cons]
 refine wpOp_call rfl rfl (RunI.alloc (w0 := w) ⟨_, hs1⟩ rfl rfl hs1.below rfl (by show (6 : Nat) < 73; omega) fun a2 w2 hr2 => ?_)
 obtain ⟨X2, hT2, hΛ2, hΦ2, d2, d3, d4, e2, _, _⟩ := run_loop (lines := items.map (·.1)) (g := w1.heap.size) (hD 0) hlen
 generalize w1.heap.size = g at *
 have hr2 : RunI DkJ w 73 g [] ((runSt0 (items.map (·.1)) (D 0)).app .none (some 6) (.raw (.pointer (some ⟨g, 0, none⟩)))) a2 w2 := hr2
 show (Code.seq (Code.seq (seqA (seqA rn6)) (.block 0 (.loop rnL))) (seqB rn6)).wp _ _ _ _
 refine wp_seq (wp_seq ?_)
 refine hr2.code hT2 hΛ2 hΦ2 stableDk d2 (QE := postN (keptAs [5, 6, 37, 38, 39] [288] (runSt (items.map (·.1)) g 0 (D 0)))) e2 fun e σ3 a3 w3 hq hr3 => ?_
 cases e with
 | exit id => exact hq.elim
 | ret => exact hq.elim
 | normal =>
 have hr3 := hr3.keep hq.1
 rw [hq.2] at hr3
 let p : Act → World → Nat → Prop := fun a' w' m => ∃ k, k ≤ items.length ∧ items.length - k = m ∧ RunI DkJ w 73 g (outC ((items.take k).map (·.2.2))) (runSt (items.map (·.1)) g k (D k)) a' w'
 show Code.wp _ (.block 0 (.loop rnL)) _ _ _
 refine wp_block (wp_loop (fun a' w' => ∃ m, p a' w' m) (fun a' w' => least (p a' w')) ⟨_, 0, Nat.zero_le _, rfl, hr3⟩ fun a4 w4 hex => ?_)
 obtain ⟨k, hk4, hm4, hr4⟩ := least_spec hex
 by_cases hlt : k < items.length
 ·obtain ⟨q1, q2⟩ := hl k items[k] (List.getElem?_eq_getElem hlt)
  have hbnd : (outC ((items.take k).map (·.2.2))).length + items[k].2.2.size + 1 ≤ (outLs (items.map (·.2.2))).length := by
   have e5 : items.map (·.2.2) = (items.take k).map (·.2.2) ++ items[k].2.2 :: (items.drop (k + 1)).map (·.2.2) := by
    rw [← List.map_cons (f := fun x : ByteArray × List ByteArray × ByteArray => x.2.2), ← List.map_append, ← List.drop_eq_getElem_cons hlt, List.take_append_drop]
   rw [outC_len, e5]
   unfold outLs
   rw [List.flatMap_append, List.flatMap_cons]
   simp only [List.length_append, List.length_cons, List.length_nil, Array.length_toList]
   have : items[k].2.2.data.size = items[k].2.2.size := rfl
   omega
  refine run_round (hD k) (hD (k + 1)) (s := items[k].1) (by rw [List.getElem?_map, List.getElem?_eq_getElem hlt]; rfl) hlen q1 q2 hr4 (by omega) fun a5 w5 hr5 => ?_
  have hp : p a5 w5 (items.length - (k + 1)) := ⟨k + 1, hlt, rfl, by
   rw [List.take_succ_eq_append_getElem hlt, List.map_append]
   show RunI DkJ w 73 g (outC ((items.take k).map (·.2.2) ++ [items[k].2.2])) _ a5 w5
   rw [outC_snoc]
   exact hr5⟩
  refine ⟨⟨_, hp⟩, ?_⟩
  have h1 := least_le hp
  show least (p a5 w5) < least (p a4 w4)
  omega
 ·have hk5 : k = (items.map (·.1)).length := by rw [List.length_map]; omega
  have hk6 : k = items.length := by omega
  obtain ⟨X3, hT3, hΛ3, hΦ3, _, d5, d6, _, e5, e6⟩ := run_loop (lines := items.map (·.1)) (g := g) (hD k) hlen
  rw [← hk5] at e5 e6
  refine wp_seq ?_
  refine hr4.code hT3 hΛ3 hΦ3 stableDk d5 e5 fun e σ5 a5 w5 hq5 hr5 => ?_
  cases e with
  | exit id => exact hq5.elim
  | ret => exact hq5.elim
  | normal =>
  have hr5 := hr5.keep hq5.1
  rw [hq5.2] at hr5
  show Code.wp _ (.seq (seqA (seqB rnL)) rnT) _ _ _
  refine wp_seq ?_
  refine hr5.code hT3 hΛ3 hΦ3 stableDk d6 e6 fun e σ6 a6 w6 hq6 hr6 => ?_
  obtain ⟨rfl, rfl⟩ := hq6
  show Code.wp _ (seqB rn6) _ _ _
  rw [hk6, List.take_length, outC_eq] at hr6
  exact run_end hr6 rfl
end Go.Proofs.YtcmpjagpggjfiaaGreatDoor
