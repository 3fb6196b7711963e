/-
  The line that fails: what ends in a panic on its way.
-/
import Derived.Test.YtcmpjagpggjfiaaGreatDoorT31
import Derived.Test.YtcmpjagpggjfiaaGreatDoorT39
set_option linter.unusedVariables false
set_option linter.unusedSimpArgs false
namespace Go.Proofs.YtcmpjagpggjfiaaGreatDoor
open Go Go.Ev Go.RowKit Go.Acc Go.Dk Go.Lg
set_option maxHeartbeats 4000000
def faultE (e : Int) : List PanicEntry := [{ v := .iface 61 (.agg #[.int .i64 e]), recovered := false }]
theorem bad_calls (e : Int) (w : World) : Calls Tryz.prog 76 #[.int .i64 e] w fun en w' => en = .panicked (faultE e) ∧ w' = w := by
 go_enter Tryz.func76, Tryz.ntmps76
 go_wp2
 exact ⟨rfl, rfl, rfl⟩
theorem must_calls (e : Int) (he : e ≠ 0) (w : World) : Calls Tryz.prog 67 #[.int .i64 e] w fun en w' => en = .panicked (faultE e) ∧ w' = w := by
 go_enter Tryz.func67, Tryz.ntmps67
 go_wp2_with (go_at_call 76; refine (bad_calls e _).mono ?_)
 rintro en w' ⟨rfl, rfl⟩
 exact ⟨rfl, rfl, rfl⟩
set_option maxRecDepth 100000 in
theorem must_pan {J : World → Prop} (e : Int) (he : e ≠ 0) : PanAt Tryz.prog J 67 [] [.int .i64 e] (faultE e) := by
 intro ok w B ρ vals hJ hok hI hlen hrel
 refine ⟨callOk Tryz.func67 rfl rfl, ?_⟩
 match vals, hlen with
 | [u], _ =>
  have := hrel 0 _ u rfl rfl
  have : u = .int .i64 e := this.int_inv
  subst this
  refine (must_calls e he w).mono ?_
  rintro en w' ⟨rfl, rfl⟩
  exact ⟨rfl, .refl _ _, ⟨fun _ _ _ => rfl, Nat.le_refl _⟩, hI⟩
noncomputable def opsB : List Oper := match seqA (seqB (Tryz.f81.body.getD .skip)) with
 | .region _ ops _ => ops.toList
 | _ => []
set_option maxRecDepth 100000 in
theorem become_pan {D : V} {Bs : List V} (hD : opq D) {e : Int} (he : e ≠ 0) : PanAt Tryz.prog DkJ 81 [.box D] [.ptr 1000000 0, .agg Bs, .int .i64 e] (faultE e) := by
 intro ok w B ρ vals hJ hok hI hlen hrel
 refine ⟨callOk Tryz.func81 rfl rfl, ?_⟩
 obtain ⟨X, hX⟩ : ∃ X, X = mkX (phi []) nv0 fz0 dr81 dd81 [] ⟨[], lnL [], []⟩ := ⟨_, rfl⟩
 have hm : MtsOk Tryz.prog DkJ ⟨[], lnL [], []⟩ := ⟨trivial, trivial⟩
 have hT : TOkX Tryz.prog X := by rw [hX]; exact tyOk _ _ _ _ _ _ _
 have hΛ : LamAll Tryz.prog DkJ X := by rw [hX]; exact lamAll_of (lam := []) trivial hm rfl rfl rfl
 have hΦ : ∀ g args r bs, X.Φ g args = some (r, bs) → SoundAt Tryz.prog DkJ g args r bs := by rw [hX]; exact phi_sound (P := Tryz.prog) (J := DkJ) (l := []) trivial
 refine calls_of_wp (c := [seqA (Tryz.f81.body.getD .skip)].foldr Code.seq (.seq (seqA (seqB (Tryz.f81.body.getD .skip))) (seqB (seqB (Tryz.f81.body.getD .skip))))) Tryz.func81 rfl ?_
 have hs := mut_sim (J := DkJ) (n := Tryz.f81.ntmps) (Nat.le_of_ble_eq_true rfl) (Nat.le_of_ble_eq_true rfl) hJ hI hlen hrel
 refine chain_wp mixOk hT hΛ hΦ stableDk (K := fun σ => evOps X Tryz.f81.ntmps opsB (opsB.take 1) σ fun σ => σ.e 7 = .int .i64 e ∧ hasN (lentN 1 []) σ (lentN 1 []) [.box D]) (fun σ a w hk hs => ?_) _ _ _ _ (by rw [hX]; kernel_rfl) ?_ ⟨_, hs⟩
 ·refine wp_seq ?_
  refine reg_pan (m := 1) (K := fun σ => σ.e 7 = .int .i64 e ∧ hasN (lentN 1 []) σ (lentN 1 []) [.box D]) hT hΛ hΦ stableDk hk hs rfl rfl ?_
  rintro σ a w ⟨h7, hb⟩ ⟨ρ2, hs⟩ KW
  refine pan_op hs rfl rfl (must_pan e he) (ns := []) List.nodup_nil rfl rfl rfl (as' := [.int .i64 e]) ?_ fun w1 hs1 => ?_
  ·show V.mvL [] [σ.e 7] = _
   rw [h7]
   rfl
  ·refine ⟨hs1.defers, rfl, ?_⟩
   exact pan_end (ks := [.box D]) hI hs1 rfl hb
 ·rw [hX]
  dsimp only [opsB, seqA, seqB, Tryz.f81, dr81, dd81, Option.getD_some, List.foldr_cons, List.foldr_nil]
  refine ev_start ?_
  simp (disch := omega) only [postN_normal, evO_of, evD_of, hD.mv, hD.bk, go_sem, evP_D, evD_guard, evD_cons, evD_zero, evD_nil]
noncomputable def opsR : List Oper := match seqA (seqB (Tryz.f80.body.getD .skip)) with
 | .region _ ops _ => ops.toList
 | _ => []
set_option maxRecDepth 100000 in
theorem post_pan (A : List Ac) (E : List En) (s : Int) (L : List Job.Pl) (x : En) (hE : E.length ≤ maxLen) (h0 : postE A E s x ≠ 0) :
  PanAt Tryz.prog DkJ 80 [dkB A E s (.row 7 (L.map Job.plV)), dvB, .box (enW x)] [.ptr 1000001 0, .ptr 1000002 0] (faultE (postE A E s x)) := by
 have hP := post_sound stableDk A E s x hE
 unfold posR at hP
 rw [if_neg h0] at hP
 generalize postE A E s x = m at *
 obtain ⟨k, d, l⟩ := x
 unfold bkV zbV at hP
 unfold dkB dvB at *
 rw [enW_mk] at *
 intro ok w B ρ vals hJ hok hI hlen hrel
 refine ⟨callOk Tryz.func80 rfl rfl, ?_⟩
 obtain ⟨X, hX⟩ : ∃ X, X = mkX (phi [(13, at1 [.agg [.row 2 (A.map acV), .row 3 (E.map enW), .int .i64 s], .agg [.str k, .int .i64 d, .row 2 (l.map acV)]] (.tup [.agg [.zero, .zero, .int .i64 0], .int .i64 m], []))]) nv0 fz0 dr80 dd80 [] ⟨[], lnL [], []⟩ := ⟨_, rfl⟩
 have hm : MtsOk Tryz.prog DkJ ⟨[], lnL [], []⟩ := ⟨trivial, trivial⟩
 have hT : TOkX Tryz.prog X := by rw [hX]; exact tyOk _ _ _ _ _ _ _
 have hΛ : LamAll Tryz.prog DkJ X := by rw [hX]; exact lamAll_of (lam := []) trivial hm rfl rfl rfl
 have hΦ : ∀ g args r bs, X.Φ g args = some (r, bs) → SoundAt Tryz.prog DkJ g args r bs := by rw [hX]; exact phi_sound (P := Tryz.prog) (J := DkJ) ⟨at1_snd hP, trivial⟩
 refine calls_of_wp (c := [seqA (Tryz.f80.body.getD .skip)].foldr Code.seq (.seq (seqA (seqB (Tryz.f80.body.getD .skip))) (seqB (seqB (Tryz.f80.body.getD .skip))))) Tryz.func80 rfl ?_
 have hs := mut_sim (J := DkJ) (n := Tryz.f80.ntmps) (Nat.le_of_ble_eq_true rfl) (Nat.le_of_ble_eq_true rfl) hJ hI hlen hrel
 generalize hD : V.agg [.row 2 (A.map acV), .row 3 (E.map enW), .int .i64 s, .row 7 (L.map Job.plV)] = D at *
 refine chain_wp mixOk hT hΛ hΦ stableDk (K := fun σ => evHead X Tryz.f80.ntmps opsR (opsR.take 9) σ fun σ => (σ.e 3 = .ptr 1000000 0 ∧ σ.e 10 = .agg [.zero, .zero, .int .i64 0] ∧ σ.e 11 = .int .i64 m) ∧ Ev.look 1000000 σ.hp = some (.box D) ∧ hasN (lentN 3 []) σ (lentN 3 []) [.box D, .box (.ptr 1000000 0), .box (.agg [.str k, .int .i64 d, .row 2 (l.map acV)])]) (fun σ a w hk hs => ?_) _ _ _ _ (by rw [hX]; kernel_rfl) ?_ ⟨_, hs⟩
 ·refine wp_seq ?_
  refine dr_last (m := 9) (K := fun σ => (σ.e 3 = .ptr 1000000 0 ∧ σ.e 10 = .agg [.zero, .zero, .int .i64 0] ∧ σ.e 11 = .int .i64 m) ∧ Ev.look 1000000 σ.hp = some (.box D) ∧ hasN (lentN 3 []) σ (lentN 3 []) [.box D, .box (.ptr 1000000 0), .box (.agg [.str k, .int .i64 d, .row 2 (l.map acV)])]) mixOk hT hΛ hΦ stableDk (by kernel_rfl) (Nat.le_of_ble_eq_true (by kernel_rfl)) hk hs ?_
  rintro KW σ a w ⟨⟨h3, h10, h11⟩, hl, hb⟩ ⟨ρ2, hs⟩
  have oD : opq D := by rw [← hD]; exact ⟨fun ms => by simp only [V.mv, V.mvL], fun ms => by simp only [V.bk, V.bkL]⟩
  refine wpOp_call rfl rfl (pan_op hs rfl rfl (become_pan oD h0) (ns := [1000000]) (ks := [.box D]) (noDup_spec rfl) ?_ ?_ ?_ (as' := [.ptr 1000000 0, .agg [.zero, .zero, .int .i64 0], .int .i64 m]) ?_ fun w1 hs1 => ?_)
  ·have h : σ.h 1000000 = some (.box D) := hl
   simp only [getB, h]
  ·simp only [mvB, Blk.mv, oD.mv]
  ·simp only [bkB, Blk.bk, oD.bk]
  ·show V.mvL [1000000] [σ.e 3, σ.e 10, σ.e 11] = _
   rw [h3, h10, h11]
   rfl
  ·refine ⟨hs1.defers, rfl, ?_⟩
   exact pan_end hI hs1 rfl hb
 ·rw [hX, ← hD]
  dsimp only [opsR, seqA, seqB, Tryz.f80, dr80, dd80, Option.getD_some, List.foldr_cons, List.foldr_nil]
  refine ev_start ?_
  simp (disch := omega) only [at1_eq, postN_normal, evO_of, evD_of, go_sem, evP_D, evD_guard, evD_cons, evD_zero, evD_nil]
end Go.Proofs.YtcmpjagpggjfiaaGreatDoor
