/-
  Steps of the proof of TopDesk: DkB DkN.
-/
import Derived.Test.YtcmpjagpggjfiaaGreatDoorT31
import Derived.Test.YtcmpjagpggjfiaaGreatDoorT39
import Derived.Test.YtcmpjagpggjfiaaGreatDoorT41
set_option linter.unusedVariables false
set_option linter.unusedSimpArgs false
section
namespace Go.Proofs.YtcmpjagpggjfiaaGreatDoor
open Go Go.Ev Go.RowKit Go.Acc Go.Lg Go.Dk
set_option maxHeartbeats 4000000
theorem answer_1 {D D' X1 : V} (hD : opq D) (hD' : opq D') (h1 : opq X1) {ws : List ByteArray} {cmd : ByteArray} {f : FuncId} {out : ByteArray} (hc : ws[0]? = some cmd) (hnt : findK .str (.str cmd) tabKV = some none) (hl : ws.length ≤ 100000) (hf1 : (f == 25) = false) (hf2 : (f == 24) = false) (hf3 : (21 == f) = false)
  (hread : MutAt Tryz.prog DkJ 25 [.box D, wdB ws 1] [.ptr 1000000 0, .str cmd, .ptr 1000001 0] (.fn f [.ptr 1000002 0, .ptr 1000003 0]) [.box D, wdB ws ws.length, .box (.ptr 1000000 0), .box X1])
  (hdo : MutAt Tryz.prog DkJ f [.box D, dvB, .box X1] [.ptr 1000001 0, .ptr 1000002 0] (.str out) [.box D', dvB, .box X1]) :
  MutAt Tryz.prog DkJ 10 [.box D] [.ptr 1000000 0, .row 1 (ws.map V.str)] (.str out) [.box D'] := by
 obtain ⟨F, e1', sF⟩ := one_mu hread
 obtain ⟨G, e2, sG⟩ := one_mu hdo
 obtain ⟨H, e3, sH⟩ := one_mu (end_mut stableDk ws hl)
 have hg := wd_get hc
 have h0 : 0 < ws.length := (List.getElem?_eq_some_iff.1 hc).1
 have hi : idx ws.length 0 = some 0 := by unfold idx; rw [if_pos (by omega)]; rfl
 unfold wdB dvB at *
 have e1 : F [.box D, .box (.agg [.row 1 (ws.map V.str), .int .i64 1])] [.ptr 1000000 0, .str cmd, .ptr 1000001 0] = some (_, _) := e1'
 have hp : PhiOk Tryz.prog DkJ [(21, at1 [] (V.vec 0, [Ev.Blk.map tabKV]))] := ⟨at1_snd table_sound, trivial⟩
 have hm : MtsOk Tryz.prog DkJ ⟨[(25, F), (24, H), (f, G)], lnL [(44, [1000000, 112]), (46, [112]), (48, [1000000, 352, 353])], []⟩ := ⟨⟨sF, sH, sG, trivial⟩, trivial⟩
 refine answer_of (X := mkX (phi [(21, at1 [] (V.vec 0, [Ev.Blk.map tabKV]))]) nv0 fz0 dr10 dd10 [] ⟨[(25, F), (24, H), (f, G)], lnL [(44, [1000000, 112]), (46, [112]), (48, [1000000, 352, 353])], []⟩) (tyOk _ _ _ _ _ _ _) (lamAll_of (lam := []) trivial hm rfl rfl rfl) (phi_sound hp) (by kernel_rfl) ?_
 dsimp only [ansRest, ansSt, Tryz.f10, dr10, dd10, Option.getD_some]
 refine ev_start ?_
 simp (disch := omega) only [at1_eq, hD.mv, hD.bk, hD'.mv, hD'.bk, h1.mv, h1.bk, e1, e2, e3, hg, hi, hnt, hf1, hf2, hf3, List.length_map, go_sem, evP_D, evD_guard, evD_cons, evD_zero, evD_nil]
theorem answer_2 {D D' X1 X2 : V} (hD : opq D) (hD' : opq D') (h1 : opq X1) (h2 : opq X2) {ws : List ByteArray} {cmd : ByteArray} {f : FuncId} {out : ByteArray} (hc : ws[0]? = some cmd) (hnt : findK .str (.str cmd) tabKV = some none) (hl : ws.length ≤ 100000) (hf1 : (f == 25) = false) (hf2 : (f == 24) = false) (hf3 : (21 == f) = false)
  (hread : MutAt Tryz.prog DkJ 25 [.box D, wdB ws 1] [.ptr 1000000 0, .str cmd, .ptr 1000001 0] (.fn f [.ptr 1000002 0, .ptr 1000003 0, .ptr 1000004 0]) [.box D, wdB ws ws.length, .box (.ptr 1000000 0), .box X1, .box X2])
  (hdo : MutAt Tryz.prog DkJ f [.box D, dvB, .box X1, .box X2] [.ptr 1000001 0, .ptr 1000002 0, .ptr 1000003 0] (.str out) [.box D', dvB, .box X1, .box X2]) :
  MutAt Tryz.prog DkJ 10 [.box D] [.ptr 1000000 0, .row 1 (ws.map V.str)] (.str out) [.box D'] := by
 obtain ⟨F, e1', sF⟩ := one_mu hread
 obtain ⟨G, e2, sG⟩ := one_mu hdo
 obtain ⟨H, e3, sH⟩ := one_mu (end_mut stableDk ws hl)
 have hg := wd_get hc
 have h0 : 0 < ws.length := (List.getElem?_eq_some_iff.1 hc).1
 have hi : idx ws.length 0 = some 0 := by unfold idx; rw [if_pos (by omega)]; rfl
 unfold wdB dvB at *
 have e1 : F [.box D, .box (.agg [.row 1 (ws.map V.str), .int .i64 1])] [.ptr 1000000 0, .str cmd, .ptr 1000001 0] = some (_, _) := e1'
 have hp : PhiOk Tryz.prog DkJ [(21, at1 [] (V.vec 0, [Ev.Blk.map tabKV]))] := ⟨at1_snd table_sound, trivial⟩
 have hm : MtsOk Tryz.prog DkJ ⟨[(25, F), (24, H), (f, G)], lnL [(44, [1000000, 112]), (46, [112]), (48, [1000000, 352, 353, 354])], []⟩ := ⟨⟨sF, sH, sG, trivial⟩, trivial⟩
 refine answer_of (X := mkX (phi [(21, at1 [] (V.vec 0, [Ev.Blk.map tabKV]))]) nv0 fz0 dr10 dd10 [] ⟨[(25, F), (24, H), (f, G)], lnL [(44, [1000000, 112]), (46, [112]), (48, [1000000, 352, 353, 354])], []⟩) (tyOk _ _ _ _ _ _ _) (lamAll_of (lam := []) trivial hm rfl rfl rfl) (phi_sound hp) (by kernel_rfl) ?_
 dsimp only [ansRest, ansSt, Tryz.f10, dr10, dd10, Option.getD_some]
 refine ev_start ?_
 simp (disch := omega) only [at1_eq, hD.mv, hD.bk, hD'.mv, hD'.bk, h1.mv, h1.bk, h2.mv, h2.bk, e1, e2, e3, hg, hi, hnt, hf1, hf2, hf3, List.length_map, go_sem, evP_D, evD_guard, evD_cons, evD_zero, evD_nil]
theorem answer_3 {D D' X1 X2 X3 : V} (hD : opq D) (hD' : opq D') (h1 : opq X1) (h2 : opq X2) (h3 : opq X3) {ws : List ByteArray} {cmd : ByteArray} {f : FuncId} {out : ByteArray} (hc : ws[0]? = some cmd) (hnt : findK .str (.str cmd) tabKV = some none) (hl : ws.length ≤ 100000) (hf1 : (f == 25) = false) (hf2 : (f == 24) = false) (hf3 : (21 == f) = false)
  (hread : MutAt Tryz.prog DkJ 25 [.box D, wdB ws 1] [.ptr 1000000 0, .str cmd, .ptr 1000001 0] (.fn f [.ptr 1000002 0, .ptr 1000003 0, .ptr 1000004 0, .ptr 1000005 0]) [.box D, wdB ws ws.length, .box (.ptr 1000000 0), .box X1, .box X2, .box X3])
  (hdo : MutAt Tryz.prog DkJ f [.box D, dvB, .box X1, .box X2, .box X3] [.ptr 1000001 0, .ptr 1000002 0, .ptr 1000003 0, .ptr 1000004 0] (.str out) [.box D', dvB, .box X1, .box X2, .box X3]) :
  MutAt Tryz.prog DkJ 10 [.box D] [.ptr 1000000 0, .row 1 (ws.map V.str)] (.str out) [.box D'] := by
 obtain ⟨F, e1', sF⟩ := one_mu hread
 obtain ⟨G, e2, sG⟩ := one_mu hdo
 obtain ⟨H, e3, sH⟩ := one_mu (end_mut stableDk ws hl)
 have hg := wd_get hc
 have h0 : 0 < ws.length := (List.getElem?_eq_some_iff.1 hc).1
 have hi : idx ws.length 0 = some 0 := by unfold idx; rw [if_pos (by omega)]; rfl
 unfold wdB dvB at *
 have e1 : F [.box D, .box (.agg [.row 1 (ws.map V.str), .int .i64 1])] [.ptr 1000000 0, .str cmd, .ptr 1000001 0] = some (_, _) := e1'
 have hp : PhiOk Tryz.prog DkJ [(21, at1 [] (V.vec 0, [Ev.Blk.map tabKV]))] := ⟨at1_snd table_sound, trivial⟩
 have hm : MtsOk Tryz.prog DkJ ⟨[(25, F), (24, H), (f, G)], lnL [(44, [1000000, 112]), (46, [112]), (48, [1000000, 352, 353, 354, 355])], []⟩ := ⟨⟨sF, sH, sG, trivial⟩, trivial⟩
 refine answer_of (X := mkX (phi [(21, at1 [] (V.vec 0, [Ev.Blk.map tabKV]))]) nv0 fz0 dr10 dd10 [] ⟨[(25, F), (24, H), (f, G)], lnL [(44, [1000000, 112]), (46, [112]), (48, [1000000, 352, 353, 354, 355])], []⟩) (tyOk _ _ _ _ _ _ _) (lamAll_of (lam := []) trivial hm rfl rfl rfl) (phi_sound hp) (by kernel_rfl) ?_
 dsimp only [ansRest, ansSt, Tryz.f10, dr10, dd10, Option.getD_some]
 refine ev_start ?_
 simp (disch := omega) only [at1_eq, hD.mv, hD.bk, hD'.mv, hD'.bk, h1.mv, h1.bk, h2.mv, h2.bk, h3.mv, h3.bk, e1, e2, e3, hg, hi, hnt, hf1, hf2, hf3, List.length_map, go_sem, evP_D, evD_guard, evD_cons, evD_zero, evD_nil]
end Go.Proofs.YtcmpjagpggjfiaaGreatDoor
end
section
namespace Go.Ev
open Go Go.RowKit
section
variable {P : Program} {J : World → Prop} {ok : Nat → Prop} {w w' w0 w1 : World} {B n : Nat} {ρ ρ1 ρ2 : Nat → Option Value} {ds : List Deferred} {σ : St} {a : Act} {ks ks' : List Ev.Blk}
theorem mut_end2 {hp1 : Hp} {tr : V → V} {tc : Nat → Bool} (hI : Inv (upto w ok) B w (shift 1000000 ρ) (shift 1000000 fun j => ks[j]?)) (hst : Step (upto w ok) B w (shift 1000000 ρ) w1 ρ1 hp1 tr tc) (hnew : ∀ b, b < 1000000 + ks.length → ρ1 b = shift 1000000 ρ b)
  (hnn : noDup (lentN ks.length []) = true) (hs : Sim J (upto w ok) w0 ⟨w1, ρ1, B, ds⟩ n σ a w' ρ2) (hks2 : hasN (lentN ks.length []) σ (lentN ks.length []) ks') :
  ∃ ρ', Below B w w' ∧ Kp (shift 1000000 ρ) w w' ∧ (∀ j, j < ks.length → ρ' j = ρ j) ∧ (∀ j sv g, ks.length ≤ j → ρ' j = some sv → own sv = some g → w.heap.size ≤ g) ∧ Inv (upto w ok) B w' (shift 1000000 ρ') (shift 1000000 fun j => ks'[j]?) ∧
   ∀ v val r, Rel w' (okAt (upto w ok) B ρ2 w') ρ2 v val → V.mv (lentN ks.length []) v = some r → Rel w' (okAt (upto w ok) B (shift 1000000 ρ') w') (shift 1000000 ρ') r val := by
 generalize hms : lentN ks.length [] = ms at hnn hks2
 have hnd := noDup_spec hnn
 have hfst : ∀ j, j < ks.length → ms[j]? = some (1000000 + j) := fun j hj => by
  rw [← hms, lentN, List.getElem?_append_left (by rw [newN1_len]; exact hj)]
  exact newN1_get _ _ _ hj
 have hlen : ms.length = ks.length := by rw [← hms, lentN, List.append_nil, newN1_len]
 obtain ⟨ks2, hg2, hm2⟩ := hasN_get hks2
 obtain ⟨lg, gg⟩ := getB_get hg2
 have hgr := hs.fr.grow
 simp only at hgr
 have hgr1 := hst.grow
 have hInv := lent_inv (ok' := upto w ok) hs.inv (fun g hg => hg.1) (fun g h1 h2 => by omega) hnd hg2 hm2
 have hold : ∀ j, j < ks.length → ∃ sv, ρ2 (1000000 + j) = some sv ∧ ρ j = some sv := fun j hj => by
  have h1 := hfst j hj
  obtain ⟨b, h2, h3⟩ := gg j (ks2[j]'(by omega)) (List.getElem?_eq_getElem (by omega))
  rw [h1] at h2
  cases h2
  obtain ⟨sv, h4, _⟩ := hs.inv.blk _ _ h3
  have h5 : ρ1 (1000000 + j) = some sv := hs.fr.hdr _ (by omega) sv h4
  rw [hnew _ (by omega)] at h5
  exact ⟨sv, h4, by obtain ⟨_, h6⟩ := shift_some h5; rwa [Nat.add_sub_cancel_left] at h6⟩
 have hun : ∀ g, g < w.heap.size → (∀ b sv, shift 1000000 ρ b = some sv → own sv ≠ some g) → ∀ b sv, ρ1 b = some sv → own sv ≠ some g := fun g hg hno b sv hb ho => by
  rcases hst.fresh b sv g hb ho with h1 | ⟨b0, sv0, h1, h2⟩
  ·omega
  ·exact hno b0 sv0 h1 h2
 refine ⟨lentρ ms ρ2, hst.below.trans hs.below, ⟨fun g hg hno => ?_, Nat.le_trans hgr1 hgr⟩, fun j hj => ?_, fun j sv g hj hr ho => ?_, hInv, fun v val r hv hr => hv.mv (fun g hg => ⟨⟨hg.1, hg.2.1, fun b1 s1 h1 => by obtain ⟨b2, _, h2⟩ := lent_sub h1; exact hg.2.2 b2 s1 h2⟩, rfl⟩) hr⟩
 ·rw [hs.fr.keep g (by show g < w1.heap.size; omega) (hun g hg hno)]
  exact hst.keep g hg hno
 ·obtain ⟨sv, h1, h2⟩ := hold j hj
  unfold lentρ
  rw [hfst j hj, h2]
  exact h1
 ·unfold lentρ at hr
  rw [List.getElem?_eq_none (by omega)] at hr
  cases hr
end
end Go.Ev
namespace Go.Proofs.YtcmpjagpggjfiaaGreatDoor
open Go Go.Ev Go.RowKit Go.Acc Go.Dk Go.Lg
set_option maxHeartbeats 4000000
noncomputable def ans4 : List Code := [seqA ansRest, seqA (seqB ansRest), seqA (seqB (seqB ansRest)), seqA (seqB (seqB (seqB ansRest)))]
noncomputable def ansT : Code := seqB (seqB (seqB (seqB ansRest)))
noncomputable def opsT : List Oper := match seqA ansT with
 | .region _ ops _ => ops.toList
 | _ => []
def ansSt2 (D : V) (ws : List ByteArray) : St := ⟨[(0, .ptr 1000000 0), (1, .row 1 (ws.map V.str)), (4, .ptr 1000001 0)], [(1000000, .box D), (1000001, .box (.str ⟨#[]⟩))]⟩
def ansK (f : FuncId) (D X1 : V) (σ : St) : Prop := ((σ.e 47 = .fn f [.ptr 352 0, .ptr 353 0] ∧ σ.e 4 = .ptr 1000001 0) ∧ (Ev.look 1000000 σ.hp = some (.box D) ∧ Ev.look 352 σ.hp = some (.box (.ptr 1000000 0)) ∧ Ev.look 353 σ.hp = some (.box X1)) ∧ Ev.look 1000001 σ.hp = some (.box (.str ⟨#[]⟩)))
set_option maxHeartbeats 4000000 in
set_option maxRecDepth 100000 in
theorem answer_pan {D X1 : V} (hD : opq D) (h1 : opq X1) {ws : List ByteArray} {cmd : ByteArray} {f : FuncId} {e : Int} (he : 0 ≤ e ∧ e ≤ 100) (hc : ws[0]? = some cmd) (hnt : findK .str (.str cmd) tabKV = some none) (hl : ws.length ≤ 100000) (hf1 : (f == 25) = false) (hf2 : (f == 24) = false) (hf3 : (21 == f) = false)
  (hread : MutAt Tryz.prog DkJ 25 [.box D, wdB ws 1] [.ptr 1000000 0, .str cmd, .ptr 1000001 0] (.fn f [.ptr 1000002 0, .ptr 1000003 0]) [.box D, wdB ws ws.length, .box (.ptr 1000000 0), .box X1])
  (hdo : PanAt Tryz.prog DkJ f [.box D, dvB, .box X1] [.ptr 1000001 0, .ptr 1000002 0] (faultE e)) :
  MutAt Tryz.prog DkJ 10 [.box D] [.ptr 1000000 0, .row 1 (ws.map V.str)] (.str (⟨#[101, 114, 114, 111, 114, 32]⟩ ++ itoaB e)) [.box D] := by
 obtain ⟨F, e1', sF⟩ := one_mu hread
 obtain ⟨H, e3, sH⟩ := one_mu (end_mut stableDk ws hl)
 have hg := wd_get hc
 have h0 : 0 < ws.length := (List.getElem?_eq_some_iff.1 hc).1
 have hi : idx ws.length 0 = some 0 := by unfold idx; rw [if_pos (by omega)]; rfl
 unfold wdB dvB at *
 have e1 : F [.box D, .box (.agg [.row 1 (ws.map V.str), .int .i64 1])] [.ptr 1000000 0, .str cmd, .ptr 1000001 0] = some (_, _) := e1'
 have hp : PhiOk Tryz.prog DkJ [(21, at1 [] (V.vec 0, [Ev.Blk.map tabKV]))] := ⟨at1_snd table_sound, trivial⟩
 have hm : MtsOk Tryz.prog DkJ ⟨[(25, F), (24, H)], lnL [(44, [1000000, 112]), (46, [112])], []⟩ := ⟨⟨sF, sH, trivial⟩, trivial⟩
 obtain ⟨X, hX⟩ : ∃ X, X = mkX (phi [(21, at1 [] (V.vec 0, [Ev.Blk.map tabKV]))]) nv0 fz0 dr10 dd10 [] ⟨[(25, F), (24, H)], lnL [(44, [1000000, 112]), (46, [112])], []⟩ := ⟨_, rfl⟩
 have hT : TOkX Tryz.prog X := by rw [hX]; exact tyOk _ _ _ _ _ _ _
 have hΛ : LamAll Tryz.prog DkJ X := by rw [hX]; exact lamAll_of (lam := []) trivial hm rfl rfl rfl
 have hΦ : ∀ g args r bs, X.Φ g args = some (r, bs) → SoundAt Tryz.prog DkJ g args r bs := by rw [hX]; exact phi_sound hp
 have hev : ev X Tryz.f10.ntmps (ans4.foldr Code.seq .skip) (ansSt2 D ws) (postN fun σ => evOps X Tryz.f10.ntmps opsT (opsT.take 1) σ (ansK f D X1)) := by
  rw [hX]
  dsimp only [ans4, opsT, ansT, seqA, seqB, ansRest, ansSt2, ansK, Tryz.f10, dr10, dd10, Option.getD_some, List.foldr_cons, List.foldr_nil]
  refine ev_start ?_
  simp (disch := omega) only [postN_normal, evO_of, at1_eq, hD.mv, hD.bk, h1.mv, h1.bk, e1, e3, hg, hi, hnt, List.length_map, go_sem, evP_D, evD_guard, evD_cons, evD_zero, evD_nil]
  exact ⟨⟨rfl, rfl⟩, ⟨rfl, rfl, rfl⟩, rfl⟩
 intro ok w B ρ vals hJ hok hI hlen hrel
 refine .inl ⟨callOk Tryz.func10 rfl rfl, ?_⟩
 match vals, hlen with
 | [vd, vr], _ =>
 have r0 := hrel 0 _ vd rfl rfl
 have r1 := hrel 1 _ vr rfl rfl
 have hmf : ∀ (fn : Fn) (first cap : Array Value) (w : World), (Instr.makeFunc fn first cap).run Tryz.prog w = .ok (.func fn first cap) w := fun _ _ _ _ => rfl
 obtain ⟨c, hcc, hcr⟩ : ∃ c, c = ansRest ∧ True := ⟨_, rfl, trivial⟩
 have hbody : Tryz.f10.body = some (.seq (match Tryz.f10.body with | some (.seq a _) => a | _ => .skip) (.seq (match Tryz.f10.body with | some (.seq _ (.seq a _)) => a | _ => .skip) c)) := by rw [hcc]; rfl
 refine calls_of_wp_defers Tryz.func10 hbody ?_
 dsimp only [Tryz.f10]
 go_wp2
 have hf0 : (shift 1000000 fun j => ([.box D] : List Ev.Blk)[j]?) 1000001 = none := rfl
 obtain ⟨ρ1, hst, hrel1⟩ := new_box hI 1000001 9 (.str ⟨#[]⟩) (.string ⟨#[]⟩) hf0 rfl (.ro (.str _))
 have hh : (ansSt2 D ws).h = (Eff.new [(1000001, .box (.str ⟨#[]⟩))]).hp (shift 1000000 fun j => ([.box D] : List Ev.Blk)[j]?) := by
  funext b
  simp only [St.h, ansSt2, Ev.look, Eff.hp, either, List.lookup_cons, List.lookup_nil]
  by_cases h1 : b = 1000000
  ·subst h1; rfl
  ·rw [if_neg h1]
   have e0 : (shift 1000000 fun j => ([.box D] : List Ev.Blk)[j]?) b = none := by
    unfold shift
    split
    ·show ([.box D] : List Ev.Blk)[b - 1000000]? = none
     exact List.getElem?_eq_none (by simp; omega)
    ·rfl
   rw [e0]
   by_cases h2 : b = 1000001
   ·subst h2; rfl
   ·rw [if_neg h2]
    have : (b == 1000001) = false := by simpa using h2
    rw [this]
 have hbel := hst.below
 show Code.wp Tryz.prog (ans4.foldr Code.seq ansT) _ _ _
 refine chain_wp (J := DkJ) (ok := upto w ok) (w0 := w) (F := ⟨_, ρ1, B, [{ target := .fn (.func 19) #[.pointer (some ⟨w.heap.size, 0, none⟩)], args := #[] }]⟩) (n := Tryz.f10.ntmps) mixOk hT hΛ hΦ stableDk (fun σ a w1 hk hs => ?_) _ _ _ _ (by rw [hX]; kernel_rfl) hev ⟨ρ1, ⟨fun w' hb => hJ w' (hbel.trans hb), .refl _ _, by rw [hh]; exact hst.inv, fun t => ?_, by simp, rfl, ⟨fun _ _ _ => rfl, fun b sv g h1 h2 => .inr ⟨b, sv, h1, h2⟩, fun b _ s h => h, Nat.le_refl _⟩, by show 49 ≤ 100000; omega⟩⟩
 ·refine wp_seq ?_
  refine reg_pan (m := 1) (K := ansK f D X1) hT hΛ hΦ stableDk hk hs rfl rfl ?_
  rintro σ a w1 ⟨⟨h47, h4⟩, ⟨b0, b1, b2⟩, b3⟩ ⟨ρ2, hs⟩ KW
  refine pan_op (f := .tmp 47) (args := []) hs rfl (show opd σ.e (.tmp 47) = _ from h47) hdo (ns := [1000000, 352, 353]) (ks := [.box D, .box (.ptr 1000000 0), .box X1]) (noDup_spec rfl) ?_ ?_ ?_ rfl fun w2 hs2 => ?_
  ·have a0 : σ.h 1000000 = some (.box D) := b0
   have a1 : σ.h 352 = some (.box (.ptr 1000000 0)) := b1
   have a2 : σ.h 353 = some (.box X1) := b2
   simp only [getB, a0, a1, a2]
  ·simp only [mvB, Blk.mv, hD.mv, h1.mv]
   rfl
  ·simp only [bkB, Blk.bk, hD.bk, h1.bk]
   rfl
  ·show Leaves _ _ _ _ _ _ _
   have h2 : ρ2 1000001 = some (.pointer (some ⟨w.heap.size, 0, none⟩)) := by
    obtain ⟨sv, hr, _⟩ := hs2.inv.blk 1000001 _ b3
    have h3 : ρ1 1000001 = some sv := hs2.fr.hdr _ (by omega) sv hr
    obtain ⟨g, h4, h5⟩ := hrel1.ptr_inv
    rw [hr, ← h3, h4]
    simpa [eq_comm] using h5
   have hp4 : a.tmps.getD 4 Go.undef = .pointer (some ⟨w.heap.size, 0, none⟩) := by
    have h6 := hs2.rel 4
    rw [h4] at h6
    obtain ⟨g, h7, h8⟩ := h6.ptr_inv
    rw [h2] at h7
    rw [h8]
    simpa [eq_comm] using h7
   rw [show a.defers = _ from hs2.defers]
   refine leaves_cons (f := 19) (args := #[.pointer (some ⟨w.heap.size, 0, none⟩)]) (by simp [faultE]) (by simp [go_sem]) ?_
   refine (catch_fault hs2 _ _ h4 hp4 b3 e he).mono ?_
   rintro e1 u1 w3 ⟨rfl, ⟨⟨xv, xr, xg⟩, rfl, hx⟩, ρ3, hs3⟩
   simp only at hx
   subst hx
   generalize hout : (⟨#[101, 114, 114, 111, 114, 32]⟩ ++ itoaB e : ByteArray) = out at *
   have l1 : Ev.look 1000001 (setH 1000001 (.box (.str out)) σ.hp) = some (.box (.str out)) := by rw [look_setH, if_pos rfl]
   have l0 : Ev.look 1000000 (setH 1000001 (.box (.str out)) σ.hp) = some (.box D) := by rw [look_setH, if_neg (by omega)]; exact b0
   obtain ⟨ρ', m1, m2, m3, m4, m5, m6⟩ := mut_end2 (ks := [.box D]) (ks' := [.box D]) hI hst (fun b hb => hst.hdr b (by simp [Eff.tc]; simp at hb; omega)) rfl hs3 ⟨by show (match Ev.look 1000000 (setH 1000001 (.box (.str out)) σ.hp) with | some x => Blk.mv _ x = some _ | none => False); rw [l0]; simp only [Blk.mv, hD.mv], trivial⟩
   have hres : resV X ⟨σ.env, setH 1000001 (.box (.str out)) σ.hp⟩ Tryz.f10.results.toList = some [.str out] := by
    have q4 : (⟨σ.env, setH 1000001 (.box (.str out)) σ.hp⟩ : St).e 4 = .ptr 1000001 0 := h4
    have q1 : (⟨σ.env, setH 1000001 (.box (.str out)) σ.hp⟩ : St).h 1000001 = some (.box (.str out)) := l1
    generalize (⟨σ.env, setH 1000001 (.box (.str out)) σ.hp⟩ : St) = τ at *
    rw [hX]
    dsimp only [Tryz.f10]
    simp only [q4, q1, go_sem, evP_D, evD_guard, evD_cons, evD_zero, evD_nil]
   obtain ⟨us, hrun, hl, hrr⟩ := res_run hT hs3 _ _ hres
   match us, hl, hrun, hrr with
   | [u], _, hrun, hrr =>
   show ∃ v, (results _ a.tmps).run Tryz.prog w3 = .ok v w3 ∧ _
   refine ⟨u, ?_, u, ρ', rfl, m1, m2, m3, m4, m5, m6 _ _ _ (hrr 0 _ u rfl rfl) rfl⟩
   have hm : (Tryz.f10.results.mapM fun (r : ResultVar) => match r with | .tmp t => (pure (a.tmps.getD t Go.undef) : Sem Value) | .cell b t => do loadVar t (← asAddr (a.tmps.getD b Go.undef))).run Tryz.prog w3 = .ok #[u] w3 := by
    rw [Array.mapM_eq_mapM_toList]
    simp only [Sem.run_map]
    exact congrArg (fun x => x.andThen fun (a : List Value) w' => Result.ok a.toArray w') hrun
   unfold results
   rw [Sem.run_bind]
   refine (congrArg (fun x => Result.andThen x _) hm).trans ?_
   simp
 ·have e0 : (ansSt2 D ws).e 0 = .ptr 1000000 0 := rfl
  have e1 : (ansSt2 D ws).e 1 = .row 1 (ws.map V.str) := rfl
  have e4 : (ansSt2 D ws).e 4 = .ptr 1000001 0 := rfl
  obtain ⟨f0, f1, f4⟩ := ans_tmps vd vr (.pointer (some ⟨w.heap.size, 0, none⟩)) (.func (.func 19) #[] #[.pointer (some ⟨w.heap.size, 0, none⟩)])
  have s0 := hst.rel _ _ r0
  have s1 := hst.rel _ _ r1
  simp only [Eff.tr, id] at s0 s1
  by_cases t0 : t = 0
  ·rw [t0, e0, f0]
   exact s0
  by_cases t1 : t = 1
  ·rw [t1, e1, f1]
   exact s1
  by_cases t4 : t = 4
  ·rw [t4, e4, f4]
   exact hrel1
  have : (ansSt2 D ws).e t = .undef := by
   simp only [St.e, ansSt2, Ev.look]
   rw [if_neg t0, if_neg t1, if_neg t4]
   rfl
  rw [this]
  exact .ro (.undef _)
end Go.Proofs.YtcmpjagpggjfiaaGreatDoor
end
