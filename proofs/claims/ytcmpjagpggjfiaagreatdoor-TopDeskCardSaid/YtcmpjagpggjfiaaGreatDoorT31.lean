/-
  Steps of the proof of TopDesk: DkA DkX.
-/
import Derived.Test.YtcmpjagpggjfiaaGreatDoorT28
import Derived.Test.YtcmpjagpggjfiaaGreatDoorT30
import Derived.Defers
import Derived.Recover
set_option linter.unusedVariables false
section
namespace Go.Ev
open Go Go.RowKit
section
variable {P : Program} {J : World → Prop} {ok : Nat → Prop} {w w' : World} {B n : Nat} {ρ ρ2 : Nat → Option Value} {ds : List Deferred} {σ : St} {a : Act} {ks ks' : List Ev.Blk}
theorem mut_end (hI : Inv (upto w ok) B w (shift 1000000 ρ) (shift 1000000 fun j => ks[j]?)) {nn : List Nat} (hnn : noDup (lentN ks.length nn) = true) (hs : Sim J (upto w ok) w ⟨w, shift 1000000 ρ, B, ds⟩ n σ a w' ρ2) (hks2 : hasN (lentN ks.length nn) σ (lentN ks.length nn) ks') :
  ∃ ρ', Below B w w' ∧ Kp (shift 1000000 ρ) w w' ∧ (∀ j, j < ks.length → ρ' j = ρ j) ∧ (∀ j sv g, ks.length ≤ j → ρ' j = some sv → own sv = some g → w.heap.size ≤ g) ∧ Inv (upto w ok) B w' (shift 1000000 ρ') (shift 1000000 fun j => ks'[j]?) ∧
   ∀ v val r, Rel w' (okAt (upto w ok) B ρ2 w') ρ2 v val → V.mv (lentN ks.length nn) v = some r → Rel w' (okAt (upto w ok) B (shift 1000000 ρ') w') (shift 1000000 ρ') r val := by
 generalize hms : lentN ks.length nn = ms at hnn hks2
 have hnd := noDup_spec hnn
 have hfst : ∀ j, j < ks.length → ms[j]? = some (1000000 + j) := fun j hj => by
  rw [← hms, lentN, List.getElem?_append_left (by rw [newN1_len]; exact hj)]
  exact newN1_get _ _ _ hj
 obtain ⟨ks2, hg2, hm2⟩ := hasN_get hks2
 obtain ⟨lg, gg⟩ := getB_get hg2
 have hInv := lent_inv (ok' := upto w ok) hs.inv (fun g hg => hg.1) (fun g h1 h2 => by have := hs.fr.grow; simp only at this; omega) hnd hg2 hm2
 have hold : ∀ j, j < ks.length → ∃ sv, ρ2 (1000000 + j) = some sv ∧ ρ j = some sv := fun j hj => by
  have h1 := hfst j hj
  have hlt := (List.getElem?_eq_some_iff.1 h1).1
  obtain ⟨b, h2, h3⟩ := gg j (ks2[j]'(by omega)) (List.getElem?_eq_getElem (by omega))
  rw [h1] at h2
  cases h2
  obtain ⟨sv, h4, _⟩ := hs.inv.blk _ _ h3
  have h5 : shift 1000000 ρ (1000000 + j) = some sv := hs.fr.hdr _ (by omega) sv h4
  exact ⟨sv, h4, by obtain ⟨_, h6⟩ := shift_some h5; rwa [Nat.add_sub_cancel_left] at h6⟩
 refine ⟨lentρ ms ρ2, hs.below, ⟨fun g hg hno => hs.fr.keep g hg hno, hs.fr.grow⟩, fun j hj => ?_, fun j sv g hj hr ho => ?_, hInv, fun v val r hv hr => hv.mv (fun g hg => ⟨⟨hg.1, hg.2.1, fun b1 s1 h1 => by obtain ⟨b2, _, h2⟩ := lent_sub h1; exact hg.2.2 b2 s1 h2⟩, rfl⟩) hr⟩
 ·obtain ⟨sv, h1, h2⟩ := hold j hj
  unfold lentρ
  rw [hfst j hj, h2]
  exact h1
 ·unfold lentρ at hr
  cases hx : ms[j]? with
  | none => rw [hx] at hr; cases hr
  | some b =>
   rw [hx] at hr
   have hr : ρ2 b = some sv := hr
   rcases hs.fr.fresh b sv g hr ho with h1 | ⟨b0, sv0, h1, h2⟩
   ·exact h1
   ·exfalso
    obtain ⟨hb0, h3⟩ := shift_some h1
    obtain ⟨k, hk⟩ := hI.dom b0 sv0 h1
    obtain ⟨_, hk⟩ := shift_some hk
    have hlt := (List.getElem?_eq_some_iff.1 hk).1
    obtain ⟨s1, h4, h5⟩ := hold (b0 - 1000000) hlt
    rw [h3] at h5
    cases h5
    rw [show 1000000 + (b0 - 1000000) = b0 by omega] at h4
    have := hs.inv.inj b b0 sv sv0 g hr h4 ho h2
    subst this
    have h6 := hfst (b - 1000000) hlt
    rw [show 1000000 + (b - 1000000) = b by omega] at h6
    obtain ⟨p1, e1⟩ := List.getElem?_eq_some_iff.1 h6
    obtain ⟨p2, e2⟩ := List.getElem?_eq_some_iff.1 hx
    exact (List.pairwise_iff_getElem.1 hnd) _ _ p1 p2 (by omega) (e1.trans e2.symm)
end
end Go.Ev
namespace Go.Proofs.YtcmpjagpggjfiaaGreatDoor
open Go Go.Ev Go.RowKit Go.Acc Go.Lg Go.Dk
theorem catch_idle (p : Addr) (w : World) :
  CallsD Tryz.prog 19 #[.pointer (some p)] .returning w fun e u' w' => e = .returned (.tuple #[]) ∧ u' = .returning ∧ w' = w := by
 refine callsD_of_wpS Tryz.func19 rfl fun c₀ cs hu => ?_
 apply wpS_seq
 apply wpS_region
 simp [wpOpsS, go_sem, recoverD, hu, Tryz.ntmps19, Exit.thenS]
 apply wpS_seq
 apply wpS_region
 simp [wpOpsS, go_sem, Exit.thenS]
 refine wpS_cond (t := false) (by simp [Act.eval, Array.replicate]) ?_
 simp only [Bool.false_eq_true, if_false]
 refine wpS_of_wp (wp_skip ?_)
 cases c₀
 simp_all [bodyPostS, results, Tryz.results19]
noncomputable def ansRest : Code := match Tryz.f10.body with
 | some (.seq _ (.seq _ c)) => c
 | _ => .skip
def ansSt (D : V) (ws : List ByteArray) : St := ⟨[(0, .ptr 1000000 0), (1, .row 1 (ws.map V.str)), (4, .ptr 32 0)], [(1000000, .box D), (32, .box (.str ⟨#[]⟩))]⟩
theorem ans_tmps (v u p f : Value) : (#[v, u] ++ ((Array.replicate 47 Go.undef).setIfInBounds 2 p).setIfInBounds 9 f).getD 0 Go.undef = v ∧ (#[v, u] ++ ((Array.replicate 47 Go.undef).setIfInBounds 2 p).setIfInBounds 9 f).getD 1 Go.undef = u ∧
  (#[v, u] ++ ((Array.replicate 47 Go.undef).setIfInBounds 2 p).setIfInBounds 9 f).getD 4 Go.undef = p := by
 refine ⟨by simp [Array.getD_eq_getD_getElem?], by simp [Array.getD_eq_getD_getElem?], ?_⟩
 simp [Array.getD_eq_getD_getElem?]
set_option maxHeartbeats 4000000 in
theorem answer_of {D D' : V} {ws : List ByteArray} {out : ByteArray} {X : Ctx} (hT : TOkX Tryz.prog X) (hΛ : LamAll Tryz.prog DkJ X) (hΦ : ∀ g args r bs, X.Φ g args = some (r, bs) → SoundAt Tryz.prog DkJ g args r bs) (hdr : drAll X.dr ansRest = true)
  (h : ev X Tryz.f10.ntmps ansRest (ansSt D ws) (postM X (lentN 1 []) Tryz.f10.results.toList (.str out) [.box D'])) :
  MutAt Tryz.prog DkJ 10 [.box D] [.ptr 1000000 0, .row 1 (ws.map V.str)] (.str out) [.box D'] := by
 intro ok w B ρ vals hJ hok hI hlen hrel
 refine .inl ⟨callOk Tryz.func10 rfl rfl, ?_⟩
 match vals, hlen with
 | [vd, vr], _ =>
 have r0 := hrel 0 _ vd rfl rfl
 have r1 := hrel 1 _ vr rfl rfl
 have hmf : ∀ (fn : Fn) (first cap : Array Value) (w : World), (Instr.makeFunc fn first cap).run Tryz.prog w = .ok (.func fn first cap) w := fun _ _ _ _ => rfl
 obtain ⟨c, hc, hcr⟩ : ∃ c, c = ansRest ∧ True := ⟨_, rfl, trivial⟩
 have hbody : Tryz.f10.body = some (.seq (match Tryz.f10.body with | some (.seq a _) => a | _ => .skip) (.seq (match Tryz.f10.body with | some (.seq _ (.seq a _)) => a | _ => .skip) c)) := by rw [hc]; rfl
 refine calls_of_wp_defers Tryz.func10 hbody ?_
 dsimp only [Tryz.f10]
 go_wp2
 have hf0 : (shift 1000000 fun j => ([.box D] : List Ev.Blk)[j]?) 32 = none := rfl
 obtain ⟨ρ1, hst, hrel1⟩ := new_box hI 32 9 (.str ⟨#[]⟩) (.string ⟨#[]⟩) hf0 rfl (.ro (.str _))
 have hh : (ansSt D ws).h = (Eff.new [(32, .box (.str ⟨#[]⟩))]).hp (shift 1000000 fun j => ([.box D] : List Ev.Blk)[j]?) := by
  funext b
  simp only [St.h, ansSt, Ev.look, Eff.hp, either, List.lookup_cons, List.lookup_nil]
  by_cases h1 : b = 1000000
  ·subst h1; rfl
  ·rw [if_neg h1]
   have e0 : (shift 1000000 fun j => ([.box D] : List Ev.Blk)[j]?) b = none := by
    unfold shift
    split
    ·show ([.box D] : List Ev.Blk)[b - 1000000]? = none
     exact List.getElem?_eq_none (by simp; omega)
    ·rfl
   rw [e0]
   by_cases h2 : b = 32
   ·subst h2; rfl
   ·rw [if_neg h2]
    have : (b == 32) = false := by simpa using h2
    rw [this]
 have hbel := hst.below
 have hs0 : FrOk ⟨w, shift 1000000 ρ, B, [{ target := .fn (.func 19) #[.pointer (some ⟨w.heap.size, 0, none⟩)], args := #[] }]⟩ w (shift 1000000 ρ) := ⟨fun _ _ _ => rfl, fun b sv g h1 h2 => .inr ⟨b, sv, h1, h2⟩, fun b _ s h => h, Nat.le_refl _⟩
 have hs1 := hs0.step hst fun b hb => tc1 (by omega) hb
 refine ev_sound (J := DkJ) (ok := upto w ok) (w0 := w) (F := ⟨w, shift 1000000 ρ, B, [{ target := .fn (.func 19) #[.pointer (some ⟨w.heap.size, 0, none⟩)], args := #[] }]⟩) (n := Tryz.f10.ntmps) mixOk hT hΛ hΦ stableDk _ _ _ _ _ _ hdr h ⟨ρ1, ⟨hJ, hbel, by rw [hh]; exact hst.inv, fun t => ?_, by simp, rfl, hs1, by show 49 ≤ 100000; omega⟩⟩ fun e σ a w' hq hs => ?_
 ·have e0 : (ansSt D ws).e 0 = .ptr 1000000 0 := rfl
  have e1 : (ansSt D ws).e 1 = .row 1 (ws.map V.str) := rfl
  have e4 : (ansSt D ws).e 4 = .ptr 32 0 := rfl
  obtain ⟨f0, f1, f4⟩ := ans_tmps vd vr (.pointer (some ⟨w.heap.size, 0, none⟩)) (.func (.func 19) #[] #[.pointer (some ⟨w.heap.size, 0, none⟩)])
  have s0 := hst.rel _ _ r0
  have s1 := hst.rel _ _ r1
  simp only [Eff.tr, id] at s0 s1
  by_cases t0 : t = 0
  ·rw [t0, e0, f0]
   exact s0
  by_cases t1 : t = 1
  ·rw [t1, e1, f1]
   exact s1
  by_cases t4 : t = 4
  ·rw [t4, e4, f4]
   exact hrel1
  have : (ansSt D ws).e t = .undef := by
   simp only [St.e, ansSt, Ev.look]
   rw [if_neg t0, if_neg t1, if_neg t4]
   rfl
  rw [this]
  exact .ro (.undef _)
 ·cases e
  case exit id => exact hq.elim
  all_goals
   show Leaves _ _ _ _ _ _ _
   obtain ⟨hret, hks2⟩ := hq
   obtain ⟨ρ2, hs⟩ := hs
   obtain ⟨ρ', m1, m2, m3, m4, m5, m6⟩ := mut_end (ks := [.box D]) hI (nn := []) rfl hs hks2
   rw [show a.defers = _ from hs.defers]
   refine leaves_cons (f := 19) (args := #[.pointer (some ⟨w.heap.size, 0, none⟩)]) (by simp) (by simp [go_sem]) ?_
   refine (catch_idle _ _).mono ?_
   rintro e1 u1 w1 ⟨rfl, rfl, rfl⟩
   unfold resM at hret
   split at hret
   ·rename_i vs hvs
    obtain ⟨us, hrun, hl, hrr⟩ := res_run hT hs _ vs hvs
    refine ⟨if h : us.toArray.size = 1 then us.toArray[0] else .tuple us.toArray, ?_, _, ρ', rfl, m1, m2, m3, m4, m5, m6 _ _ _ ?_ hret⟩
    ·have hm : (Tryz.f10.results.mapM fun (r : ResultVar) => match r with | .tmp t => (pure (a.tmps.getD t Go.undef) : Sem Value) | .cell b t => do loadVar t (← asAddr (a.tmps.getD b Go.undef))).run Tryz.prog w1 = .ok us.toArray w1 := by
      rw [Array.mapM_eq_mapM_toList]
      simp only [Sem.run_map]
      exact congrArg (fun x => x.andThen fun (a : List Value) w' => Result.ok a.toArray w') hrun
     unfold results
     rw [Sem.run_bind]
     refine (congrArg (fun x => Result.andThen x _) hm).trans ?_
     simp
    ·split
     ·rename_i h1
      match us, h1, hl, hrr with
      | [u], _, hl, hrr =>
       match vs, hl, hrr with
       | [v], _, hrr => exact hrr 0 v u rfl rfl
     ·rename_i h1
      have : wrapR vs = .tup vs := by
       match vs, hl with
       | [], _ => rfl
       | [v], hl => simp at h1; simp at hl; omega
       | _ :: _ :: _, _ => rfl
      rw [this]
      exact .tup _ _ hl hrr
   ·exact hret.elim
end Go.Proofs.YtcmpjagpggjfiaaGreatDoor
end
section
namespace Go.Ev
open Go Go.RowKit
section
variable {P : Program} {X : Ctx} {J : World → Prop} {ok : Nat → Prop} {w0 : World} {F : Fr} {n : Nat}
theorem evOps_upto (hT : TOkX P X) (hΛ : LamAll P J X) (hΦ : ∀ g args r bs, X.Φ g args = some (r, bs) → SoundAt P J g args r bs) (hJJ : Stable J) {ops : Array Oper} {Q : Exit → Act → World → Prop} {K : St → Prop} {rest : List Nat}
  (hK : ∀ σ a w, K σ → Sims J ok w0 F n σ a w → wpOps P ops Q rest a w) : ∀ (os : List Oper) (k : Nat) (σ : St) (a : Act) (w : World), (∀ (j : Nat) o, os[j]? = some o → ops[k + j]? = some o) → evOps X n ops.toList os σ K → Sims J ok w0 F n σ a w →
   wpOps P ops Q (List.range' k os.length ++ rest) a w
 | [], k, σ, a, w, _, h, hs => hK σ a w h hs
 | o :: os, k, σ, a, w, hop, h, hs => by
  have hk : ops[k]? = some o := hop 0 o rfl
  show wpOps P ops Q (k :: (List.range' (k + 1) os.length ++ rest)) a w
  have := evOps_step (Q := Q) hT hΛ hΦ hJJ hk h hs fun σ' a' w' h' hs' => evOps_upto hT hΛ hΦ hJJ hK os (k + 1) σ' a' w' (fun j o' hj => by have := hop (j + 1) o' hj; rwa [show k + (j + 1) = k + 1 + j by omega] at this) h' hs'
  exact this
theorem evO_of (X : Ctx) (n : Nat) (ops os : List Oper) (σ : St) (K : St → Prop) : evOps X n ops os σ K = @evO X n ⟨ops, os⟩ σ ⟨K⟩ := rfl
theorem evD_of (X : Ctx) (n : Nat) (ops os : List Oper) (σ : St) (K : St → Prop) : evHead X n ops os σ K = @evD X n os.length ⟨ops, os⟩ σ ⟨K⟩ := by
 unfold evD
 simp only [List.take_length, List.drop_length]
 rfl
def postN (K : St → Prop) : Ex → St → Prop
 | .normal, σ => K σ
 | _, _ => False
theorem postN_normal (K : St → Prop) (σ : St) : postN K .normal σ = K σ := rfl
theorem chain_wp (hmix : P.follows .mixedOrders = true) (hT : TOkX P X) (hΛ : LamAll P J X) (hΦ : ∀ g args r bs, X.Φ g args = some (r, bs) → SoundAt P J g args r bs) (hJJ : Stable J) {T : Code} {Q : Exit → Act → World → Prop} {K : St → Prop}
  (hK : ∀ σ a w, K σ → Sims J ok w0 F n σ a w → T.wp P Q a w) : ∀ (cs : List Code) (σ : St) (a : Act) (w : World), cs.all (drAll X.dr) = true → ev X n (cs.foldr Code.seq .skip) σ (postN K) → Sims J ok w0 F n σ a w → (cs.foldr Code.seq T).wp P Q a w
 | [], σ, a, w, _, h, hs => hK σ a w h hs
 | c :: cs, σ, a, w, hdr, h, hs => by
  rw [List.all_cons, Bool.and_eq_true] at hdr
  rw [List.foldr_cons] at h
  simp only [ev] at h
  refine wp_seq (ev_sound hmix hT hΛ hΦ hJJ c _ σ a w _ hdr.1 h hs fun e σ' a' w' hq hs' => ?_)
  cases e with
  | normal => exact chain_wp hmix hT hΛ hΦ hJJ hK cs σ' a' w' hdr.2 hq hs'
  | exit id => exact hq.elim
  | ret => exact hq.elim
theorem dr_last (hmix : P.follows .mixedOrders = true) (hT : TOkX P X) (hΛ : LamAll P J X) (hΦ : ∀ g args r bs, X.Φ g args = some (r, bs) → SoundAt P J g args r bs) (hJJ : Stable J) {ops : Array Oper} {m : Nat} (hB : drB ops m = true) (hlt : m < ops.size) {id : Nat} {σ : St} {a : Act} {w : World} {Q : Exit → Act → World → Prop} {K : St → Prop}
  (h : evHead X n ops.toList (ops.toList.take m) σ K) (hs : Sims J ok w0 F n σ a w) (hQ : ∀ KW σ a w, K σ → Sims J ok w0 F n σ a w → wpOp P ops Q m KW a w) : (Code.region id ops true).wp P Q a w := by
 have hm : m ≤ ops.size := by omega
 obtain ⟨σ1, hK, hr⟩ := evHead_run (ops.toList.take m) 0 σ (fun j hj => by
  rw [List.length_take] at hj
  rw [List.getElem?_take_of_lt (by omega), Nat.zero_add]; simp) h
 obtain ⟨ρ, hs⟩ := hs
 refine wp_region_any hmix ?_
 have hdr : SimF J ok w0 F n σ.fs a { w with drawn := w.drawn + 1 } ρ := by
  have hb : Below w.heap.size w { w with drawn := w.drawn + 1 } := ⟨rfl, rfl, rfl, Nat.le_refl _, fun _ _ => rfl⟩
  have hmono : ∀ g, okAt ok F.B ρ w g → okAt ok F.B ρ { w with drawn := w.drawn + 1 } g ∧ (World.heap { w with drawn := w.drawn + 1 })[g]? = w.heap[g]? := fun g hg => ⟨hg, rfl⟩
  refine ⟨hs.j, hs.below.trans (hb.mono hs.inv.size), ⟨hs.inv.size, fun b k hk => ?_, hs.inv.dom, hs.inv.inj, hs.inv.new, hs.inv.fr⟩, fun t => (hs.rel t).mono hmono fun _ _ h => h, hs.size, hs.defers, ⟨hs.fr.keep, hs.fr.fresh, hs.fr.hdr, hs.fr.grow⟩, hs.small⟩
  obtain ⟨sv, hr, hb⟩ := hs.inv.blk b k hk
  exact ⟨sv, hr, hb.mono' hmono (Nat.le_refl _) (fun _ _ => rfl) fun _ _ h => h⟩
 have hlen : (List.range' 0 (ops.toList.take m).length).length = m := by simp; omega
 have := head_sound (Q := Q) hT hΛ hΦ hJJ hB hm (ops.size - m) (s' := σ1.fs) (fun listed a w ρ hs1 inv hall => by
  obtain ⟨g, hg⟩ : ∃ g, ops.size - m = g + 1 := ⟨ops.size - m - 1, by omega⟩
  rw [hg]
  have hrk : m ∈ Region.ready .any ops listed := by
   refine mem_ready.2 ⟨inv.tail m (Nat.le_refl _) hlt, ops[m], Array.getElem?_eq_getElem hlt, fun e he hb => ?_⟩
   have h1 := drB_edges hB (Array.getElem?_eq_getElem hlt) e he hb
   have h2 := hall e.on h1
   rw [Array.getD_eq_getD_getElem?] at h2 ⊢
   rw [Array.getElem?_eq_getElem (by rw [inv.size]; omega)] at h2 ⊢
   exact h2
  refine ⟨fun h0 => (by rw [h0] at hrk; cases hrk), fun j hj => ?_⟩
  have hjm : j = m := by
   obtain ⟨hun, oj, hoj, _⟩ := mem_ready.1 hj
   have hjlt := (Array.getElem?_eq_some_iff.1 hoj).1
   rcases Nat.lt_trichotomy j m with h1 | h1 | h1
   ·rw [hall j h1] at hun; cases hun
   ·exact h1
   ·exfalso
    rcases drB_tail hB with rfl | ⟨_, _, hc⟩
    ·omega
    ·have h2 := List.all_eq_true.1 hc j (List.mem_range.2 hjlt)
     simp only [Bool.or_eq_true, decide_eq_true_eq] at h2
     rcases h2 with h2 | h2
     ·omega
     ·have h3 := ready_not_waits hj (inv.tail (j - 1) (by omega) (by omega))
      rw [h2] at h3
      cases h3
  subst hjm
  exact hQ _ σ1 a w hK ⟨ρ, hs1.to rfl⟩) m _ hlen (Array.replicate ops.size false) σ.fs a _ ρ hdr hr (by
   exact List.pairwise_lt_range') (fun i => by
   simp only [List.mem_range'_1, Nat.zero_le, Nat.zero_add, true_and, List.length_take, Array.length_toList]
   constructor
   ·intro hi; refine ⟨by omega, ?_⟩; rw [Array.getD_eq_getD_getElem?, Array.getElem?_replicate, if_pos (by omega)]; rfl
   ·intro hi; omega) ⟨by simp, (fun j oj hj hl => by rw [getD_replicate_false] at hl; exact absurd hl (by simp)), fun t ht ht' => by rw [Array.getD_eq_getD_getElem?, Array.getElem?_replicate, if_pos ht']; rfl⟩
 rwa [show m + (ops.size - m) = ops.size by omega] at this
end
section
variable {P : Program} {J : World → Prop} {ok : Nat → Prop} {w0 w w' : World} {F : Fr} {B n : Nat} {ρ ρ2 : Nat → Option Value} {ds : List Deferred} {σ : St} {a : Act} {ks ks' : List Ev.Blk} {hp : Hp}
def PanAt (P : Program) (J : World → Prop) (f : FuncId) (ks : List Ev.Blk) (xs : List V) (ch : List PanicEntry) : Prop :=
 ∀ (ok : Nat → Prop) (w : World) (B : Nat) (ρ : Nat → Option Value) (vals : List Value), (∀ w', Below B w w' → J w') → (∀ g, ok g → g < w.heap.size) → Inv (upto w ok) B w (shift 1000000 ρ) (shift 1000000 fun j => ks[j]?) →
 xs.length = vals.length → (∀ (j : Nat) c u, xs[j]? = some c → vals[j]? = some u → Rel w (okAt (upto w ok) B (shift 1000000 ρ) w) (shift 1000000 ρ) c u) →
 Callable P f ∧ Calls P f vals.toArray w fun e w' => e = .panicked ch ∧ Below B w w' ∧ Kp (shift 1000000 ρ) w w' ∧ Inv (upto w ok) B w' (shift 1000000 ρ) (shift 1000000 fun j => ks[j]?)
theorem pan_step (hI : Inv ok B w ρ hp) {ns : List Nat} (hn : ns.Nodup) (hks : getB hp ns = some ks) (hks' : mvB ns ks = some ks') (hbk : bkB ns ks' = some ks) {w1 : World} (hbel : Below B w w1) (hkp : Kp (shift 1000000 (lentρ ns ρ)) w w1)
  (hI1 : Inv (upto w (okAt ok B ρ w)) B w1 (shift 1000000 (lentρ ns ρ)) (shift 1000000 fun j => ks'[j]?)) : Step ok B w ρ w1 ρ hp id (fun _ => false) := by
 obtain ⟨lk, gk⟩ := getB_get hks
 obtain ⟨l3, g3⟩ := bkB_get hbk
 have hown : ∀ g, (∀ b sv, ρ b = some sv → own sv ≠ some g) → ∀ b sv, shift 1000000 (lentρ ns ρ) b = some sv → own sv ≠ some g := fun g hno b sv hb => by
  obtain ⟨b0, _, h⟩ := lent_sub hb
  exact hno b0 sv h
 have hkeep : ∀ g, g < w.heap.size → (∀ b sv, ρ b = some sv → own sv ≠ some g) → w1.heap[g]? = w.heap[g]? := fun g hg hno => hkp.1 g hg (hown g hno)
 have hokk : ∀ g, okAt ok B ρ w g → okAt ok B ρ w1 g ∧ w1.heap[g]? = w.heap[g]? := fun g hg => ⟨⟨hg.1, by have := hg.2.1; have := hkp.2; omega, hg.2.2⟩, hkeep g hg.2.1 hg.2.2⟩
 have hok1 : ∀ g, okAt (upto w (okAt ok B ρ w)) B (shift 1000000 (lentρ ns ρ)) w1 g → okAt ok B ρ w1 g := fun g hg => by
  by_cases hlt : g < w.heap.size
  ·exact (hokk g (hg.1 hlt)).1
  ·exact ⟨hI.new g (by omega), hg.2.1, fun b s hr ho => by have := (hI.own_ge hr ho).2; omega⟩
 refine ⟨hbel, ⟨Nat.le_trans hI.size hkp.2, fun b k hk => ?_, hI.dom, hI.inj, fun g hg => hI.new g (by have := hkp.2; omega), hI.fr⟩, fun v val hv => hv.mono hokk fun _ _ h => h, hkeep, fun b sv g h1 h2 => .inr ⟨b, sv, h1, h2⟩, fun _ _ => rfl, hkp.2⟩
 by_cases hb : b ∈ ns
 ·obtain ⟨j, hj, rfl⟩ := List.mem_iff_getElem.1 hb
  obtain ⟨b', h1, h2⟩ := gk j (ks[j]'(by omega)) (List.getElem?_eq_getElem (by omega))
  rw [List.getElem?_eq_getElem hj] at h1
  cases h1
  rw [hk] at h2
  cases h2
  obtain ⟨k2, h3, h4⟩ := g3 j (ks[j]'(by omega)) (List.getElem?_eq_getElem (by omega))
  obtain ⟨sv, hsv, hblk⟩ := hI1.blk (1000000 + j) k2 (by simp [shift, h3])
  obtain ⟨b0, hb0, hb1⟩ := lent_sub hsv
  rw [Nat.add_sub_cancel_left, List.getElem?_eq_getElem hj] at hb0
  cases hb0
  exact ⟨sv, hb1, hblk.bk hok1 h4⟩
 ·obtain ⟨sv, hr, hblk⟩ := hI.blk b k hk
  refine ⟨sv, hr, hblk.mono' hokk hkp.2 (fun g hg => hkp.1 g (hI.own_ge hr hg).2 fun b1 sv1 hb1 ho1 => ?_) fun _ _ h => h⟩
  obtain ⟨b0, hj, h0⟩ := lent_sub hb1
  have := hI.inj b b0 sv sv1 g hr h0 hg ho1
  subst this
  exact hb (List.mem_of_getElem? hj)
theorem Sim.keepW (hs : Sim J ok w0 F n σ a w ρ) {w1 : World} (hst : Step ok F.B w ρ w1 ρ σ.h id (fun _ => false)) : Sim J ok w0 F n σ a w1 ρ :=
 ⟨hs.j, hs.below.trans hst.below, hst.inv, fun t => hst.rel _ _ (hs.rel t), hs.size, hs.defers, hs.fr.step hst fun _ _ => rfl, hs.small⟩
theorem pan_op (hs : Sim J ok w0 F n σ a w ρ) {o : Oper} {f : Operand} {args : List Operand} {tys : Array TypeId} {g : FuncId} {cs as' : List V} {ch : List PanicEntry} {ns : List Nat} (ho : o.op = .call ⟨.value f, args.toArray, tys⟩) (hq : opd σ.e f = .fn g cs) (hP : PanAt P J g ks' as' ch)
  (hn : ns.Nodup) (hks : getB σ.h ns = some ks) (hks' : mvB ns ks = some ks') (hbk : bkB ns ks' = some ks) (has : V.mvL ns (args.map (opd σ.e) ++ cs) = some as') {KW : Act → World → Prop} {Q : Exit → Act → World → Prop} (hK : ∀ w1, Sim J ok w0 F n σ a w1 ρ → Q (.panic ch) a w1) : o.wp P a w KW Q := by
 have hf := hs.opd f
 rw [hq] at hf
 obtain ⟨vs, hfe, hlv, hrv⟩ := hf.fn_inv
 have hI0 := lent_inv (ok' := upto w (okAt ok F.B ρ w)) hs.inv (fun g hg _ => hg) (fun g h1 h2 => by omega) hn hks hks'
 obtain ⟨l0, g0⟩ := mvL_get has
 have hall : ∀ (j : Nat) c u, (args.map (opd σ.e) ++ cs)[j]? = some c → (args.map a.eval ++ vs)[j]? = some u → Rel w (okAt ok F.B ρ w) ρ c u := by
  intro j c u hc hu
  by_cases hj : j < args.length
  ·rw [List.getElem?_append_left (by simpa using hj), List.getElem?_map] at hc hu
   rw [List.getElem?_eq_getElem hj] at hc hu
   simp at hc hu
   subst hc; subst hu
   exact hs.opd _
  ·rw [List.getElem?_append_right (by simpa using hj)] at hc hu
   simp at hc hu
   exact hrv _ c u hc hu
 have hlen : (args.map (opd σ.e) ++ cs).length = (args.map a.eval ++ vs).length := by simp [hlv]
 obtain ⟨hcal, hc⟩ := hP (okAt ok F.B ρ w) w F.B (lentρ ns ρ) (args.map a.eval ++ vs) (fun w' hb => hs.j w' (hs.below.trans hb)) (fun g hg => hg.2.1) hI0 (by omega) (fun j c u hc hu => by
  obtain ⟨c0, h1, h2⟩ := g0 j c hc
  exact (hall j c0 u h1 hu).mv (fun g hg => ⟨⟨fun _ => hg, hg.2.1, fun b sv hb => by obtain ⟨b0, _, h⟩ := lent_sub hb; exact hg.2.2 b0 sv h⟩, rfl⟩) h2)
 obtain ⟨fn, h1, h2, h3⟩ := hcal
 have h2' := h2
 simp only [beq_eq_false_iff_ne, ne_eq] at h2'
 have h3' : fn.body ≠ none := by intro e; simp [e] at h3
 have run : (execOp a.eval o).run P w = .ok (.enter g (args.map a.eval ++ vs).toArray) w := by
  simp [execOp, ho, resolve, hfe, Deferred.ofValue, invoke, callFunc, h1, h2', h3']
 unfold Oper.wp
 rw [run]
 refine hc.mono ?_
 rintro e w1 ⟨rfl, hbel, hkp, hI1⟩
 exact hK w1 (hs.keepW (pan_step hs.inv hn hks hks' hbk hbel hkp hI1))
theorem pan_end (hI : Inv (upto w ok) B w (shift 1000000 ρ) (shift 1000000 fun j => ks[j]?)) (hs : Sim J (upto w ok) w ⟨w, shift 1000000 ρ, B, ds⟩ n σ a w' ρ2) (hnn : noDup (lentN ks.length []) = true) (hks2 : hasN (lentN ks.length []) σ (lentN ks.length []) ks) :
  Below B w w' ∧ Kp (shift 1000000 ρ) w w' ∧ Inv (upto w ok) B w' (shift 1000000 ρ) (shift 1000000 fun j => ks[j]?) := by
 obtain ⟨ρ', m1, m2, m3, m4, m5, m6⟩ := mut_end (ks := ks) hI (nn := []) hnn hs hks2
 have : shift 1000000 ρ' = shift 1000000 ρ := by
  funext b
  unfold shift
  split
  ·rename_i hb
   by_cases hj : b - 1000000 < ks.length
   ·exact m3 _ hj
   ·have n1 : ρ' (b - 1000000) = none := by
     cases hr : ρ' (b - 1000000) with
     | none => rfl
     | some s => obtain ⟨k, hk⟩ := m5.dom b s (by simp [shift, hb, hr]); obtain ⟨_, hk⟩ := shift_some hk; exact absurd (List.getElem?_eq_some_iff.1 hk).1 hj
    have n2 : ρ (b - 1000000) = none := by
     cases hr : ρ (b - 1000000) with
     | none => rfl
     | some s => obtain ⟨k, hk⟩ := hI.dom b s (by simp [shift, hb, hr]); obtain ⟨_, hk⟩ := shift_some hk; exact absurd (List.getElem?_eq_some_iff.1 hk).1 hj
    rw [n1, n2]
  ·rfl
 rw [this] at m5
 exact ⟨m1, m2, m5⟩
end
end Go.Ev
namespace Go.Ev
open Go Go.RowKit
def seqA : Code → Code | .seq a _ => a | _ => .skip
def seqB : Code → Code | .seq _ b => b | _ => .skip
section
variable {P : Program} {X : Ctx} {J : World → Prop} {ok : Nat → Prop} {w0 : World} {F : Fr} {n : Nat} {ops : Array Oper} {m : Nat} {o : Oper} {a : Act} {w : World} {Q : Exit → Act → World → Prop} {K : St → Prop} {σ : St}
theorem wpOp_call (hop : ops[m]? = some o) (hg : o.guard = none) {KW : Act → World → Prop} (h : o.wp P a w KW Q) : wpOp P ops Q m KW a w := by
 unfold wpOp
 simp only [hop]
 have hw : Region.wanted o (yielded ops a.tmps) = true := by unfold Region.wanted; rw [hg]
 rw [if_pos hw]
 exact .inl h
theorem reg_upto (hT : TOkX P X) (hΛ : LamAll P J X) (hΦ : ∀ g args r bs, X.Φ g args = some (r, bs) → SoundAt P J g args r bs) (hJJ : Stable J) {id : Nat} (hm : m ≤ ops.size) (h : evOps X n ops.toList (ops.toList.take m) σ K) (hs : Sims J ok w0 F n σ a w)
  (hK : ∀ σ a w, K σ → Sims J ok w0 F n σ a w → wpOps P ops Q (List.range' m (ops.size - m)) a w) : (Code.region id ops false).wp P Q a w := by
 refine wp_region ?_
 have hl : (ops.toList.take m).length = m := by rw [List.length_take, Array.length_toList]; omega
 have := evOps_upto (Q := Q) hT hΛ hΦ hJJ hK (ops.toList.take m) 0 σ a w (fun j o hj => by
  rw [List.getElem?_take] at hj
  split at hj
  ·simpa using hj
  ·cases hj) h hs
 rw [hl] at this
 rw [List.range_eq_range', show ops.size = m + (ops.size - m) by omega, ← List.range'_append_1, Nat.zero_add]
 exact this
theorem reg_pan (hT : TOkX P X) (hΛ : LamAll P J X) (hΦ : ∀ g args r bs, X.Φ g args = some (r, bs) → SoundAt P J g args r bs) (hJJ : Stable J) {id : Nat} (h : evOps X n ops.toList (ops.toList.take m) σ K) (hs : Sims J ok w0 F n σ a w) (hop : ops[m]? = some o) (hg : o.guard = none)
  (hK : ∀ σ a w, K σ → Sims J ok w0 F n σ a w → ∀ KW, o.wp P a w KW Q) : (Code.region id ops false).wp P Q a w := by
 have hlt := (Array.getElem?_eq_some_iff.1 hop).1
 refine reg_upto hT hΛ hΦ hJJ (by omega) h hs fun σ a w hk hs => ?_
 rw [show ops.size - m = (ops.size - m - 1) + 1 by omega, List.range'_succ]
 exact wpOp_call hop hg (hK σ a w hk hs _)
end
end Go.Ev
end
