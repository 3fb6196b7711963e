/-
  Sorting by a function that is handed in, run by the machine: the whole of it (written by gen_soh.py).
-/
import Derived.Test.YtdmkmbaaemhhhaaGreatDoorP40
import Derived.Test.YtdmkmbaaemhhhaaGreatDoorP41
import Derived.Test.YtdmkmbaaemhhhaaGreatDoorP42
set_option linter.unusedVariables false
set_option linter.unusedSimpArgs false
namespace Go.Proofs.YtdmkmbaaemhhhaaGreatDoor
open Go Go.Ev Go.RowKit Go.Sort Go.So
set_option maxHeartbeats 4000000
section
variable {J : World → Prop} (hJ : Stable J) {α : Type} [Inhabited α] (S : So Tryz.prog J famF α)
include hJ in
theorem pq_ex (N : Nat) (ih : ∀ (a b limit : Nat) (D : Array α), b - a < N → a ≤ b → b ≤ D.size → D.size < 1152921504606846976 → limit < 1000 → Sort.Below S.lt a b D →
  MutAt Tryz.prog J 92 (S.ks D) [S.dV, .int .i64 a, .int .i64 b, .int .i64 limit] (.tup []) (S.ks (pdq S.lt D a b limit true true))) :
  ∃ K : Pq S N, Mu Tryz.prog J 132 K.I1 ∧ Mu Tryz.prog J 133 K.H1 ∧ Mu Tryz.prog J 134 K.B1 ∧ Mu Tryz.prog J 135 K.C1 ∧ Mu Tryz.prog J 136 K.R1 ∧ Mu Tryz.prog J 137 K.P1 ∧ Mu Tryz.prog J 138 K.E1 ∧ Mu Tryz.prog J 139 K.T1 ∧ Mu Tryz.prog J 92 K.Q1 := by
 obtain ⟨I1, hI1, sI1⟩ := fam2 S (f := 132) (fun D a b => a ≤ b ∧ b ≤ D.size ∧ D.size < 4611686018427387904) (fun D a b => (.tup [], insertionSort S.lt D a b)) fun D a b h => ins_mut hJ S D a b h.1 h.2.1 h.2.2
 obtain ⟨H1, hH1, sH1⟩ := fam2 S (f := 133) (fun D a b => a < b ∧ b ≤ D.size ∧ D.size < 2305843009213693950) (fun D a b => (.tup [], heapSort S.lt D a b)) fun D a b h => heap_mut hJ S D a b h.1 h.2.1 h.2.2
 obtain ⟨B1, hB1, sB1⟩ := fam2 S (f := 134) (fun D a b => a + 12 < b ∧ b ≤ D.size ∧ D.size < 1152921504606846976) (fun D a b => (.tup [], breakPatterns D a b)) fun D a b h => break_mut hJ S D a b h.1 h.2.1 h.2.2
 obtain ⟨C1, hC1, sC1⟩ := fam2 S (f := 135) (fun D a b => a + 12 < b ∧ b ≤ D.size ∧ D.size < 1152921504606846976) (fun D a b => (.tup [.int .i64 (choosePivot S.lt D a b).1, .int .i64 (hintI (choosePivot S.lt D a b).2)], D)) fun D a b h => pivot_mut hJ S D a b h.1 h.2.1 h.2.2
 obtain ⟨R1, hR1, sR1⟩ := fam2 S (f := 136) (fun D a b => a ≤ b ∧ 0 < b ∧ b ≤ D.size ∧ D.size < 4611686018427387904) (fun D a b => (.tup [], reverseRange D a b)) fun D a b h => rev_mut hJ S D a b h.1 h.2.1 h.2.2.1 h.2.2.2
 obtain ⟨P1, hP1, sP1⟩ := fam2 S (f := 137) (fun D a b => a < b ∧ b ≤ D.size ∧ D.size < 2305843009213693950) (fun D a b => (.bool (partialInsertionSort S.lt D a b).2, (partialInsertionSort S.lt D a b).1)) fun D a b h => pins_mut hJ S D a b h.1 h.2.1 h.2.2
 obtain ⟨E1, hE1, sE1⟩ := fam3 S (f := 138) (fun D a b c => a + 1 < b ∧ b ≤ D.size ∧ c < b ∧ D.size < 2305843009213693950) (fun D a b c => (.int .i64 (partitionEqual S.lt D a b c).1, (partitionEqual S.lt D a b c).2)) fun D a b c h => parteq_mut hJ S D a b c h.1 h.2.1 h.2.2.1 h.2.2.2
 obtain ⟨T1, hT1, sT1⟩ := fam3 S (f := 139) (fun D a b c => a + 1 < b ∧ b ≤ D.size ∧ c < b ∧ D.size < 2305843009213693950) (fun D a b c => (.tup [.int .i64 (partition S.lt D a b c).1, .bool (partition S.lt D a b c).2.1], (partition S.lt D a b c).2.2)) fun D a b c h => part_mut hJ S D a b c h.1 h.2.1 h.2.2.1 h.2.2.2
 obtain ⟨Q1, hQ1, sQ1⟩ := fam3 S (f := 92) (fun D a b c => b - a < N ∧ a ≤ b ∧ b ≤ D.size ∧ D.size < 1152921504606846976 ∧ c < 1000 ∧ Sort.Below S.lt a b D) (fun D a b c => (.tup [], pdq S.lt D a b c true true)) fun D a b c h => ih a b c D h.1 h.2.1 h.2.2.1 h.2.2.2.1 h.2.2.2.2.1 h.2.2.2.2.2
 exact ⟨⟨I1, H1, B1, C1, R1, P1, E1, T1, Q1, hI1, hH1, hB1, hC1, hR1, hP1, hE1, hT1, hQ1⟩, sI1, sH1, sB1, sC1, sR1, sP1, sE1, sT1, sQ1⟩
include hJ in
set_option maxRecDepth 100000 in
set_option maxHeartbeats 40000000 in
theorem pdq_mut (hO : SWO S.lt) : ∀ (N a b limit : Nat) (D : Array α), b - a < N → a ≤ b → b ≤ D.size → D.size < 1152921504606846976 → limit < 1000 → Sort.Below S.lt a b D →
  MutAt Tryz.prog J 92 (S.ks D) [S.dV, .int .i64 a, .int .i64 b, .int .i64 limit] (.tup []) (S.ks (pdq S.lt D a b limit true true)) := by
 intro N
 induction N with
 | zero => intro a b limit D h; exact absurd h (Nat.not_lt_zero _)
 | succ N ih =>
 intro a b limit D hN hab hb hsz hlimit hBel0
 obtain ⟨K, sI1, sH1, sB1, sC1, sR1, sP1, sE1, sT1, sQ1⟩ := pq_ex hJ S N ih
 clear ih
 have hend := S.ksLone (pdq S.lt D a b limit true true)
 have m1 := S.farL 132 (by simp [famF])
 have m2 := S.farL 133 (by simp [famF])
 unfold So.dV
 unfold So.ks at hend ⊢
 obtain ⟨RES, hRES⟩ : ∃ R, R = pdq S.lt D a b limit true true := ⟨_, rfl⟩
 rw [← hRES] at hend ⊢
 refine evMut (l := []) (nv := nv0) (fz := fz0) (dr := dr92) (dd := dd92) (lam := []) (ms := ⟨[(S.lf, S.LF), (132, K.I1), (133, K.H1), (134, K.B1), (135, K.C1), (136, K.R1), (137, K.P1), (138, K.E1), (139, K.T1), (92, K.Q1)], fun _ => [1000000, 1000001], []⟩) trivial hJ trivial ⟨⟨S.hLF, sI1, sH1, sB1, sC1, sR1, sP1, sE1, sT1, sQ1, trivial⟩, trivial⟩ Tryz.func92 rfl rfl (Nat.le_of_ble_eq_true rfl) (Nat.le_of_ble_eq_true rfl) drOk92 rfl rfl ?_ ?_
 rotate_left
 dsimp only [Tryz.f92, dr92, dd92, Option.getD_some]
 refine ev_start ?_
 ·simp (disch := omega) only [go_sem, evP_D, evD_guard, evD_cons, evD_zero, evD_nil]
  refine evQ_loop [1, 2, 3, 4, 8, 9] [1000000, 1000001, 32] (fun σ => ∃ (a' b' lim : Nat) (wb wp : Bool) (E : Array α), (a' ≤ b' ∧ b' ≤ D.size ∧ b' - a' ≤ b - a ∧ lim < 1000 ∧ E.size = D.size ∧ Sort.Below S.lt a' b' E ∧ pdq S.lt E a' b' lim wb wp = RES) ∧ σ = ⟨[(1, .int .i64 a'), (2, .int .i64 b'), (3, .int .i64 lim), (4, .ptr 32 0), (8, .bool wb), (9, .bool wp)], [(1000000, .vec S.T S.sz (E.toList.map S.enc)), (1000001, .box S.bv), (32, .box (.agg [.fn S.lf [.ptr 1000001 0], .fn S.sf [.vec 1000000, .raw S.hd]]))]⟩)
   (fun σ => (match Ev.look 2 σ.env with | some (.int _ n) => n.toNat | _ => 0) - (match Ev.look 1 σ.env with | some (.int _ n) => n.toNat | _ => 0)) ?_ ?_
  ·simp only [S.br, go_sem, evP_D, evD_guard, evD_cons, evD_zero, evD_nil]
   exact ⟨a, b, limit, true, true, D, ⟨hab, hb, Nat.le_refl _, hlimit, rfl, hBel0, hRES.symm⟩, rfl⟩
  ·rintro σ ⟨a', b', lim, wb, wp, dk, ⟨hab', hb', hkN, hlim, hds, hBel, heq⟩, rfl⟩
   by_cases h12 : b' - a' ≤ 12
   ·have h12' : (b' : Int) - a' ≤ 12 := by omega
    have c1 := K.hI dk a' b' ⟨hab', by omega, by omega⟩
    rw [pdq_small h12] at heq
    subst heq
    simp (disch := omega) only [h12', c1, m1, S.all, S.bmv, S.bbk, S.br, go_sem, evP_D, evD_guard, evD_cons, evD_zero, evD_nil]
   by_cases hl0 : lim = 0
   ·have h12' : ¬ (b' : Int) - a' ≤ 12 := by omega
    have c1 := K.hH dk a' b' ⟨by omega, by omega, by omega⟩
    rw [pdq_heap h12 hl0] at heq
    subst heq
    subst hl0
    simp (disch := omega) only [h12', c1, m2, S.all, S.bmv, S.bbk, S.br, go_sem, evP_D, evD_guard, evD_cons, evD_zero, evD_nil]
   cases wb with
   | false =>
    cases hc : (rd S.lt dk a' b' lim false wp).c.2 with
    | unknown =>
     refine pw_f_u S hO K a' b' lim wp dk D.size hds hsz hab' hb' (by omega) hlim hBel h12 hl0 hc RES heq _ ?_ ?_
     ·intro env
      simp only [go_sem, evP_D, evD_guard, evD_cons, evD_zero, evD_nil]
     ·intro τ a2 b2 l2 wb2 wp2 E2 hk hh
      change lQ _ _ _ _ _ _ Ex.normal τ
      rw [lQ_normal, hk]
      have tn : ∀ n : Nat, ((n : Int)).toNat = n := fun _ => rfl
      simp only [S.br, go_sem, evP_D, evD_guard, evD_cons, evD_zero, evD_nil]
      exact ⟨⟨a2, b2, l2, wb2, wp2, E2, ⟨hh.1, hh.2.1, by omega, hh.2.2.2.2.1, hh.2.2.2.2.2.1, hh.2.2.2.2.2.2.1, hh.2.2.2.2.2.2.2⟩, rfl⟩, by simp only [tn]; omega⟩
    | increasing =>
     refine pw_f_i S hO K a' b' lim wp dk D.size hds hsz hab' hb' (by omega) hlim hBel h12 hl0 hc RES heq _ ?_ ?_
     ·intro env
      simp only [go_sem, evP_D, evD_guard, evD_cons, evD_zero, evD_nil]
     ·intro τ a2 b2 l2 wb2 wp2 E2 hk hh
      change lQ _ _ _ _ _ _ Ex.normal τ
      rw [lQ_normal, hk]
      have tn : ∀ n : Nat, ((n : Int)).toNat = n := fun _ => rfl
      simp only [S.br, go_sem, evP_D, evD_guard, evD_cons, evD_zero, evD_nil]
      exact ⟨⟨a2, b2, l2, wb2, wp2, E2, ⟨hh.1, hh.2.1, by omega, hh.2.2.2.2.1, hh.2.2.2.2.2.1, hh.2.2.2.2.2.2.1, hh.2.2.2.2.2.2.2⟩, rfl⟩, by simp only [tn]; omega⟩
    | decreasing =>
     refine pw_f_d S hO K a' b' lim wp dk D.size hds hsz hab' hb' (by omega) hlim hBel h12 hl0 hc RES heq _ ?_ ?_
     ·intro env
      simp only [go_sem, evP_D, evD_guard, evD_cons, evD_zero, evD_nil]
     ·intro τ a2 b2 l2 wb2 wp2 E2 hk hh
      change lQ _ _ _ _ _ _ Ex.normal τ
      rw [lQ_normal, hk]
      have tn : ∀ n : Nat, ((n : Int)).toNat = n := fun _ => rfl
      simp only [S.br, go_sem, evP_D, evD_guard, evD_cons, evD_zero, evD_nil]
      exact ⟨⟨a2, b2, l2, wb2, wp2, E2, ⟨hh.1, hh.2.1, by omega, hh.2.2.2.2.1, hh.2.2.2.2.2.1, hh.2.2.2.2.2.2.1, hh.2.2.2.2.2.2.2⟩, rfl⟩, by simp only [tn]; omega⟩
   | true =>
    cases wp with
    | false =>
     cases hc : (rd S.lt dk a' b' lim true false).c.2 with
     | unknown =>
      refine pw_tf_u S hO K a' b' lim dk D.size hds hsz hab' hb' (by omega) hlim hBel h12 hl0 hc RES heq _ ?_ ?_
      ·intro env
       simp only [go_sem, evP_D, evD_guard, evD_cons, evD_zero, evD_nil]
      ·intro τ a2 b2 l2 wb2 wp2 E2 hk hh
       change lQ _ _ _ _ _ _ Ex.normal τ
       rw [lQ_normal, hk]
       have tn : ∀ n : Nat, ((n : Int)).toNat = n := fun _ => rfl
       simp only [S.br, go_sem, evP_D, evD_guard, evD_cons, evD_zero, evD_nil]
       exact ⟨⟨a2, b2, l2, wb2, wp2, E2, ⟨hh.1, hh.2.1, by omega, hh.2.2.2.2.1, hh.2.2.2.2.2.1, hh.2.2.2.2.2.2.1, hh.2.2.2.2.2.2.2⟩, rfl⟩, by simp only [tn]; omega⟩
     | increasing =>
      refine pw_tf_i S hO K a' b' lim dk D.size hds hsz hab' hb' (by omega) hlim hBel h12 hl0 hc RES heq _ ?_ ?_
      ·intro env
       simp only [go_sem, evP_D, evD_guard, evD_cons, evD_zero, evD_nil]
      ·intro τ a2 b2 l2 wb2 wp2 E2 hk hh
       change lQ _ _ _ _ _ _ Ex.normal τ
       rw [lQ_normal, hk]
       have tn : ∀ n : Nat, ((n : Int)).toNat = n := fun _ => rfl
       simp only [S.br, go_sem, evP_D, evD_guard, evD_cons, evD_zero, evD_nil]
       exact ⟨⟨a2, b2, l2, wb2, wp2, E2, ⟨hh.1, hh.2.1, by omega, hh.2.2.2.2.1, hh.2.2.2.2.2.1, hh.2.2.2.2.2.2.1, hh.2.2.2.2.2.2.2⟩, rfl⟩, by simp only [tn]; omega⟩
     | decreasing =>
      refine pw_tf_d S hO K a' b' lim dk D.size hds hsz hab' hb' (by omega) hlim hBel h12 hl0 hc RES heq _ ?_ ?_
      ·intro env
       simp only [go_sem, evP_D, evD_guard, evD_cons, evD_zero, evD_nil]
      ·intro τ a2 b2 l2 wb2 wp2 E2 hk hh
       change lQ _ _ _ _ _ _ Ex.normal τ
       rw [lQ_normal, hk]
       have tn : ∀ n : Nat, ((n : Int)).toNat = n := fun _ => rfl
       simp only [S.br, go_sem, evP_D, evD_guard, evD_cons, evD_zero, evD_nil]
       exact ⟨⟨a2, b2, l2, wb2, wp2, E2, ⟨hh.1, hh.2.1, by omega, hh.2.2.2.2.1, hh.2.2.2.2.2.1, hh.2.2.2.2.2.2.1, hh.2.2.2.2.2.2.2⟩, rfl⟩, by simp only [tn]; omega⟩
    | true =>
     cases hc : (rd S.lt dk a' b' lim true true).c.2 with
     | unknown =>
      refine pw_tt_u S hO K a' b' lim dk D.size hds hsz hab' hb' (by omega) hlim hBel h12 hl0 hc RES heq _ ?_ ?_
      ·intro env
       simp only [go_sem, evP_D, evD_guard, evD_cons, evD_zero, evD_nil]
      ·intro τ a2 b2 l2 wb2 wp2 E2 hk hh
       change lQ _ _ _ _ _ _ Ex.normal τ
       rw [lQ_normal, hk]
       have tn : ∀ n : Nat, ((n : Int)).toNat = n := fun _ => rfl
       simp only [S.br, go_sem, evP_D, evD_guard, evD_cons, evD_zero, evD_nil]
       exact ⟨⟨a2, b2, l2, wb2, wp2, E2, ⟨hh.1, hh.2.1, by omega, hh.2.2.2.2.1, hh.2.2.2.2.2.1, hh.2.2.2.2.2.2.1, hh.2.2.2.2.2.2.2⟩, rfl⟩, by simp only [tn]; omega⟩
     | increasing =>
      refine pw_tt_i S hO K a' b' lim dk D.size hds hsz hab' hb' (by omega) hlim hBel h12 hl0 hc RES heq _ ?_ ?_
      ·intro env
       simp only [go_sem, evP_D, evD_guard, evD_cons, evD_zero, evD_nil]
      ·intro τ a2 b2 l2 wb2 wp2 E2 hk hh
       change lQ _ _ _ _ _ _ Ex.normal τ
       rw [lQ_normal, hk]
       have tn : ∀ n : Nat, ((n : Int)).toNat = n := fun _ => rfl
       simp only [S.br, go_sem, evP_D, evD_guard, evD_cons, evD_zero, evD_nil]
       exact ⟨⟨a2, b2, l2, wb2, wp2, E2, ⟨hh.1, hh.2.1, by omega, hh.2.2.2.2.1, hh.2.2.2.2.2.1, hh.2.2.2.2.2.2.1, hh.2.2.2.2.2.2.2⟩, rfl⟩, by simp only [tn]; omega⟩
     | decreasing =>
      refine pw_tt_d S hO K a' b' lim dk D.size hds hsz hab' hb' (by omega) hlim hBel h12 hl0 hc RES heq _ ?_ ?_
      ·intro env
       simp only [go_sem, evP_D, evD_guard, evD_cons, evD_zero, evD_nil]
      ·intro τ a2 b2 l2 wb2 wp2 E2 hk hh
       change lQ _ _ _ _ _ _ Ex.normal τ
       rw [lQ_normal, hk]
       have tn : ∀ n : Nat, ((n : Int)).toNat = n := fun _ => rfl
       simp only [S.br, go_sem, evP_D, evD_guard, evD_cons, evD_zero, evD_nil]
       exact ⟨⟨a2, b2, l2, wb2, wp2, E2, ⟨hh.1, hh.2.1, by omega, hh.2.2.2.2.1, hh.2.2.2.2.2.1, hh.2.2.2.2.2.2.1, hh.2.2.2.2.2.2.2⟩, rfl⟩, by simp only [tn]; omega⟩
 ·exact hend
end
end Go.Proofs.YtdmkmbaaemhhhaaGreatDoor
