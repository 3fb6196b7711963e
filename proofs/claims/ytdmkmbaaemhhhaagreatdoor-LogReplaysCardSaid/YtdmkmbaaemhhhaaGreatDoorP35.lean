/-
  Sorting by a function that is handed in, run by the machine: which element parts the row.
-/
import Derived.Test.YtdmkmbaaemhhhaaGreatDoorP34
set_option linter.unusedVariables false
set_option linter.unusedSimpArgs false
namespace Go.So
open Go Go.Ev Go.Sort
theorem onSome_mono {α : Type} {x : Option α} {K K' : α → Prop} (h : ∀ a, K a → K' a) (hx : onSome x K) : onSome x K' := by
 cases x with
 | none => exact hx
 | some a => exact h a hx
theorem onIf_mono {b : Bool} {x y x' y' : Prop} (h1 : x → x') (h2 : y → y') (h : onIf b x y) : onIf b x' y' := by
 unfold onIf at h ⊢
 split
 ·rename_i hb; rw [if_pos hb] at h; exact h1 h
 ·rename_i hb; rw [if_neg hb] at h; exact h2 h
theorem onBool_mono {x : V} {K K' : Bool → Prop} (h : ∀ b, K b → K' b) (hx : onBool x K) : onBool x K' := by
 unfold onBool at hx ⊢
 split
 ·exact h _ hx
 ·rename_i hn
  split at hx
  ·exact absurd rfl (hn _)
  ·exact hx
theorem evOps_mono {X : Ctx} {n : Nat} {ops : List Oper} : ∀ (os : List Oper) {σ : St} {K K' : St → Prop}, (∀ σ, K σ → K' σ) → evOps X n ops os σ K → evOps X n ops os σ K'
 | [], σ, K, K', hk, h => hk σ h
 | ⟨dst, op, _, _, _, none⟩ :: os, σ, K, K', hk, h => by
  unfold evOps at h ⊢
  exact onSome_mono (fun σ1 h1 => onSome_mono (fun p h2 => ⟨h2.1, evOps_mono os hk h2.2⟩) h1) h
 | ⟨dst, op, _, _, _, some (j, want)⟩ :: os, σ, K, K', hk, h => by
  unfold evOps at h ⊢
  exact onSome_mono (fun t h1 => onSome_mono (fun b h2 => onIf_mono (fun h3 => onSome_mono (fun p h4 => ⟨h4.1, evOps_mono os hk h4.2⟩) h3) (fun h3 => ⟨h3.1, evOps_mono os hk h3.2⟩) h2) h1) h
theorem evHead_mono {X : Ctx} {n : Nat} {ops : List Oper} : ∀ (os : List Oper) {σ : St} {K K' : St → Prop}, (∀ σ, K σ → K' σ) → evHead X n ops os σ K → evHead X n ops os σ K'
 | [], σ, K, K', hk, h => hk σ h
 | ⟨dst, op, _, _, _, none⟩ :: os, σ, K, K', hk, h => by
  unfold evHead at h ⊢
  exact onSome_mono (fun p h2 => ⟨h2.1, evHead_mono os hk h2.2⟩) h
 | ⟨dst, op, _, _, _, some (j, want)⟩ :: os, σ, K, K', hk, h => by
  unfold evHead at h ⊢
  exact onSome_mono (fun t h1 => onSome_mono (fun b h2 => onIf_mono (fun h3 => onSome_mono (fun p h4 => ⟨h4.1, evHead_mono os hk h4.2⟩) h3) (fun h3 => ⟨h3.1, evHead_mono os hk h3.2⟩) h2) h1) h
theorem evHeadW_mono {X : Ctx} {n : Nat} {ops : List Oper} : ∀ (os : List (Oper × List Nat)) {k : Nat} {L : List (Nat × Ent)} {σ : St} {K K' : St → Prop}, (∀ σ, K σ → K' σ) → evHeadW X n ops os k L σ K → evHeadW X n ops os k L σ K'
 | [], k, L, σ, K, K', hk, h => hk σ h
 | (⟨dst, op, _, _, _, none⟩, un) :: os, k, L, σ, K, K', hk, h => by
  unfold evHeadW at h ⊢
  exact onSome_mono (fun p h2 => ⟨h2.1, evHeadW_mono os hk h2.2⟩) h
 | (⟨dst, op, _, _, _, some (j, want)⟩, un) :: os, k, L, σ, K, K', hk, h => by
  unfold evHeadW at h ⊢
  exact onSome_mono (fun t h1 => onSome_mono (fun b h2 => onIf_mono (fun h3 => onSome_mono (fun p h4 => ⟨h4.1, evHeadW_mono os hk h4.2⟩) h3) (fun h3 => ⟨h3.1, evHeadW_mono os hk h3.2⟩) h2) h1) h
theorem evHeadP_mono {X : Ctx} {n p q dp dq : Nat} {wq : List Nat} : ∀ (os : List Oper) {k : Nat} {pd : Option Blk} {σ : St} {K K' : Option Blk → St → Prop}, (∀ x σ, K x σ → K' x σ) → evHeadP X n p q dp dq wq os k pd σ K → evHeadP X n p q dp dq wq os k pd σ K'
 | [], k, pd, σ, K, K', hk, h => hk _ σ h
 | ⟨dst, op, _, _, _, none⟩ :: os, k, pd, σ, K, K', hk, h => by
  unfold evHeadP at h ⊢
  split
  ·rename_i hp
   rw [if_pos hp] at h
   refine onSome_mono (fun r hr => ?_) h
   split
   ·simp only at hr; exact ⟨hr.1, evHeadP_mono os hk hr.2⟩
   ·rename_i hn
    split at hr
    ·exact (hn _ _ _ rfl).elim
    ·exact hr
  ·rename_i hp
   rw [if_neg hp] at h
   split
   ·rename_i hq
    rw [if_pos hq] at h
    cases pd with
    | none => exact h
    | some kk =>
     refine onSome_mono (fun r hr => ?_) h
     split
     ·simp only at hr; exact ⟨hr.1, evHeadP_mono os hk hr.2⟩
     ·rename_i hn
      split at hr
      ·exact (hn _ _ _ rfl).elim
      ·exact hr
   ·rename_i hq
    rw [if_neg hq] at h
    exact onSome_mono (fun r hr => ⟨hr.1, evHeadP_mono os hk hr.2⟩) h
 | ⟨_, _, _, _, _, some _⟩ :: _, _, _, _, _, _, _, h => by
  unfold evHeadP at h
  exact h.elim
theorem evDr_mono {X : Ctx} {n : Nat} {ops : List Oper} {m : Nat × List (List Nat)} {σ : St} {K K' : St → Prop} (hk : ∀ σ, K σ → K' σ) (h : evDr X n ops m σ K) : evDr X n ops m σ K' := by
 obtain ⟨m, un⟩ := m
 cases un with
 | nil => unfold evDr at h ⊢; exact evHead_mono _ (fun σ1 h1 => evOps_mono _ hk h1) h
 | cons u un =>
  match u, un, h with
  | [], un, h => simp only [evDr] at h ⊢; exact evHeadW_mono _ (fun σ1 h1 => evOps_mono _ hk h1) h
  | [p, q, dp, dq], wq :: un, h => simp only [evDr] at h ⊢; exact evHeadP_mono _ (fun _ σ1 h1 => evOps_mono _ hk h1) h
  | [p, q, dp, dq], [], h => exact h.elim
  | [_], _, h => exact h.elim
  | [_, _], _, h => exact h.elim
  | [_, _, _], _, h => exact h.elim
  | _ :: _ :: _ :: _ :: _ :: _, _, h => exact h.elim
theorem ev_mono {X : Ctx} {n : Nat} : ∀ (c : Code) {σ : St} {Q Q' : Ex → St → Prop}, (∀ e σ, Q e σ → Q' e σ) → ev X n c σ Q → ev X n c σ Q' := by
 intro c
 induction c with
 | skip => intro σ Q Q' hq h; exact hq _ _ h
 | region id ops draw =>
  intro σ Q Q' hq h
  cases draw with
  | false => simp only [ev] at h ⊢; exact evOps_mono _ (fun σ h => hq _ _ h) h
  | true => simp only [ev] at h ⊢; exact onSome_mono (fun m h1 => evDr_mono (fun σ h => hq _ _ h) h1) h
 | seq x y ihx ihy =>
  intro σ Q Q' hq h
  simp only [ev] at h ⊢
  refine ihx (fun e σ1 h1 => ?_) h
  cases e with
  | normal => exact ihy hq h1
  | exit i => exact hq _ _ h1
  | ret => exact hq _ _ h1
 | cond c x y ihx ihy =>
  intro σ Q Q' hq h
  simp only [ev] at h ⊢
  exact onBool_mono (fun b h1 => onIf_mono (ihx hq) (ihy hq) h1) h
 | block id x ih =>
  intro σ Q Q' hq h
  simp only [ev] at h ⊢
  refine ih (fun e σ1 h1 => ?_) h
  cases e with
  | normal => exact hq _ _ h1
  | ret => exact hq _ _ h1
  | exit i =>
   simp only at h1 ⊢
   split
   ·rename_i hi; rw [if_pos hi] at h1; exact hq _ _ h1
   ·rename_i hi; rw [if_neg hi] at h1; exact hq _ _ h1
 | loop x ih =>
  intro σ Q Q' hq h
  simp only [ev] at h ⊢
  obtain ⟨ts, bs, I, μ, h0, hr⟩ := h
  refine ⟨ts, bs, I, μ, h0, fun σ1 h1 => ih (fun e σ2 h2 => ?_) (hr σ1 h1)⟩
  cases e with
  | normal => exact h2
  | exit i => exact hq _ _ h2
  | ret => exact hq _ _ h2
 | exit id => intro σ Q Q' hq h; exact hq _ _ h
 | ret => intro σ Q Q' hq h; exact hq _ _ h
 | _ => intro σ Q Q' hq h; exact h.elim
theorem evQ_mono {X : Ctx} {n : Nat} {c : Code} {σ : St} {Q : Ex → St → Prop} (Q' : Ex → St → Prop) (h : @evQ X n ⟨c⟩ σ ⟨Q'⟩) (hq : ∀ e τ, Q' e τ → Q e τ) : @evQ X n ⟨c⟩ σ ⟨Q⟩ := ev_mono c hq h
def hintI : Hint → Int
 | .unknown => 0
 | .increasing => 1
 | .decreasing => 2
end Go.So
namespace Go.Proofs.YtdmkmbaaemhhhaaGreatDoor
open Go Go.Ev Go.RowKit Go.Sort Go.So
set_option maxHeartbeats 4000000
section
variable {J : World → Prop} (hJ : Stable J) {α : Type} [Inhabited α] (S : So Tryz.prog J famF α)
theorem famS3 {P : Program} {J : World → Prop} {far : List FuncId} {α : Type} [Inhabited α] (S : So P J far α) {f : FuncId} {ι : Type} (g : ι → Array α × Nat × List Nat) (hg : ∀ i j, g i = g j → i = j) (r : ι → V × Nat)
  (h : ∀ i, MutAt P J f [.vec S.T S.sz ((g i).1.toList.map S.enc), .box S.bv, .box (.int .i64 (g i).2.1)] (S.dV :: ((g i).2.2.map fun n : Nat => V.int .i64 (n : Int)) ++ [.ptr 1000002 0]) (r i).1 [.vec S.T S.sz ((g i).1.toList.map S.enc), .box S.bv, .box (.int .i64 (r i).2)]) :
  ∃ F : List Blk → List V → Option (V × List Blk), (∀ i, F [.vec S.T S.sz ((g i).1.toList.map S.enc), .box S.bv, .box (.int .i64 (g i).2.1)] (S.dV :: ((g i).2.2.map fun n : Nat => V.int .i64 (n : Int)) ++ [.ptr 1000002 0]) = some ((r i).1, [.vec S.T S.sz ((g i).1.toList.map S.enc), .box S.bv, .box (.int .i64 (r i).2)])) ∧ Mu P J f F := by
 refine famM (fun i => [Blk.vec S.T S.sz ((g i).1.toList.map S.enc), .box S.bv, .box (.int .i64 (g i).2.1)]) (fun i => S.dV :: ((g i).2.2.map fun n : Nat => V.int .i64 (n : Int)) ++ [.ptr 1000002 0]) (fun i => ((r i).1, [Blk.vec S.T S.sz ((g i).1.toList.map S.enc), .box S.bv, .box (.int .i64 (r i).2)])) (fun i j h1 h2 => ?_) h
 simp only [List.cons.injEq, Blk.vec.injEq, Blk.box.injEq, V.int.injEq, true_and, and_true, Int.natCast_inj] at h1
 have e1 := Array.toList_inj.1 (mapInj S.inj h1.1)
 have h2' := List.append_cancel_right h2
 simp only [List.cons.injEq, true_and] at h2'
 have e2 := mapInj (f := fun n : Nat => V.int .i64 (n : Int)) (fun x y (e : V.int .i64 (x : Int) = V.int .i64 (y : Int)) => by simp only [V.int.injEq, true_and, Int.natCast_inj] at e; exact e) h2'
 rw [hg i j (Prod.ext e1 (Prod.ext h1.2 e2))]
include hJ in
theorem medianx : ∃ F : List Blk → List V → Option (V × List Blk), (∀ (D : Array α) (a b c s : Nat), a < D.size → b < D.size → c < D.size → s < 900 →
  F [.vec S.T S.sz (D.toList.map S.enc), .box S.bv, .box (.int .i64 s)] [S.dV, .int .i64 a, .int .i64 b, .int .i64 c, .ptr 1000002 0] = some (.int .i64 (median S.lt D a b c s).1, [.vec S.T S.sz (D.toList.map S.enc), .box S.bv, .box (.int .i64 (median S.lt D a b c s).2)])) ∧ Mu Tryz.prog J 183 F := by
 obtain ⟨F, h1, h2⟩ := famS3 (P := Tryz.prog) (J := J) (f := 183) S (fun q : { q : Array α × Nat × Nat × Nat × Nat // q.2.1 < q.1.size ∧ q.2.2.1 < q.1.size ∧ q.2.2.2.1 < q.1.size ∧ q.2.2.2.2 < 900 } => (q.1.1, q.1.2.2.2.2, [q.1.2.1, q.1.2.2.1, q.1.2.2.2.1])) (fun i j e => by
   obtain ⟨⟨D, a, b, c, s⟩, _⟩ := i
   obtain ⟨⟨D', a', b', c', s'⟩, _⟩ := j
   simp only [Prod.mk.injEq, List.cons.injEq, and_true] at e
   obtain ⟨rfl, rfl, rfl, rfl, rfl⟩ := e
   rfl) (fun q => (.int .i64 (median S.lt q.1.1 q.1.2.1 q.1.2.2.1 q.1.2.2.2.1 q.1.2.2.2.2).1, (median S.lt q.1.1 q.1.2.1 q.1.2.2.1 q.1.2.2.2.1 q.1.2.2.2.2).2)) fun q => median_mut hJ S q.1.1 q.1.2.1 q.1.2.2.1 q.1.2.2.2.1 q.1.2.2.2.2 q.2.1 q.2.2.1 q.2.2.2.1 q.2.2.2.2
 exact ⟨F, fun D a b c s x1 x2 x3 x4 => h1 ⟨(D, a, b, c, s), x1, x2, x3, x4⟩, h2⟩
include hJ in
set_option maxHeartbeats 4000000 in
theorem adj_mut (D : Array α) (a s : Nat) (h0 : 0 < a) (ha : a + 1 < D.size) (hsz : D.size < 4611686018427387904) (hs : s < 900) :
  MutAt Tryz.prog J 182 [.vec S.T S.sz (D.toList.map S.enc), .box S.bv, .box (.int .i64 s)] [S.dV, .int .i64 a, .ptr 1000002 0]
   (.int .i64 (medianAdjacent S.lt D a s).1) [.vec S.T S.sz (D.toList.map S.enc), .box S.bv, .box (.int .i64 (medianAdjacent S.lt D a s).2)] := by
 obtain ⟨F, hF, sF⟩ := medianx hJ S
 have f1 := hF D (a - 1) a (a + 1) s (by omega) (by omega) (by omega) hs
 rw [subI h0] at f1
 have e : medianAdjacent S.lt D a s = median S.lt D (a - 1) a (a + 1) s := rfl
 rw [e]
 generalize median S.lt D (a - 1) a (a + 1) s = r at *
 unfold So.dV at f1 ⊢
 rw [succI] at f1
 refine evMut (l := []) (nv := nv0) (fz := fz0) (dr := dr182) (dd := dd182) (lam := []) (ms := ⟨[(183, F)], lnL [(14, [1000000, 1000001, 1000002])], []⟩) trivial hJ trivial ⟨⟨sF, trivial⟩, trivial⟩ Tryz.func182 rfl rfl (Nat.le_of_ble_eq_true rfl) (Nat.le_of_ble_eq_true rfl) drOk182 rfl rfl ?_ ?_
 rotate_left
 dsimp only [Tryz.f182, dr182, dd182, Option.getD_some]
 refine ev_start ?_
 ·simp (disch := omega) only [f1, S.all, S.bmv, S.bbk, go_sem, evP_D, evD_guard, evD_cons, evD_zero, evD_nil]
 ·exact S.lone3 D _
include hJ in
theorem adjx : ∃ F : List Blk → List V → Option (V × List Blk), (∀ (D : Array α) (a s : Nat), 0 < a → a + 1 < D.size → D.size < 4611686018427387904 → s < 900 →
  F [.vec S.T S.sz (D.toList.map S.enc), .box S.bv, .box (.int .i64 s)] [S.dV, .int .i64 a, .ptr 1000002 0] = some (.int .i64 (medianAdjacent S.lt D a s).1, [.vec S.T S.sz (D.toList.map S.enc), .box S.bv, .box (.int .i64 (medianAdjacent S.lt D a s).2)])) ∧ Mu Tryz.prog J 182 F := by
 obtain ⟨F, h1, h2⟩ := famS3 (P := Tryz.prog) (J := J) (f := 182) S (fun q : { q : Array α × Nat × Nat // 0 < q.2.1 ∧ q.2.1 + 1 < q.1.size ∧ q.1.size < 4611686018427387904 ∧ q.2.2 < 900 } => (q.1.1, q.1.2.2, [q.1.2.1])) (fun i j e => by
   obtain ⟨⟨D, a, s⟩, _⟩ := i
   obtain ⟨⟨D', a', s'⟩, _⟩ := j
   simp only [Prod.mk.injEq, List.cons.injEq, and_true] at e
   obtain ⟨rfl, rfl, rfl⟩ := e
   rfl) (fun q => (.int .i64 (medianAdjacent S.lt q.1.1 q.1.2.1 q.1.2.2).1, (medianAdjacent S.lt q.1.1 q.1.2.1 q.1.2.2).2)) fun q => adj_mut hJ S q.1.1 q.1.2.1 q.1.2.2 q.2.1 q.2.2.1 q.2.2.2.1 q.2.2.2.2
 exact ⟨F, fun D a s x1 x2 x3 x4 => h1 ⟨(D, a, s), x1, x2, x3, x4⟩, h2⟩
theorem adj_lt {lt : α → α → Bool} {D : Array α} {a s n : Nat} (h : a + 1 < n) : (medianAdjacent lt D a s).1 < n := by
 rcases medianAdjacent_mem lt D a s with h1 | h1 | h1 <;> rw [h1] <;> omega
include hJ in
set_option maxRecDepth 100000 in
set_option maxHeartbeats 8000000 in
theorem pivot_mut (D : Array α) (a b : Nat) (hab : a + 12 < b) (hb : b ≤ D.size) (hsz : D.size < 1152921504606846976) :
  MutAt Tryz.prog J 135 (S.ks D) [S.dV, .int .i64 a, .int .i64 b] (.tup [.int .i64 (choosePivot S.lt D a b).1, .int .i64 (hintI (choosePivot S.lt D a b).2)]) (S.ks D) := by
 have hend := S.ksLone D
 obtain ⟨F, hF, sF⟩ := medianx hJ S
 obtain ⟨G, hG, sG⟩ := adjx hJ S
 unfold So.dV at hF hG ⊢
 unfold So.ks at hend ⊢
 obtain ⟨q, hq⟩ : ∃ q, q = (b - a) / 4 := ⟨_, rfl⟩
 have hq1 : 4 * q ≤ b - a := by omega
 have hq2 : 3 ≤ q := by omega
 have t1 : ((b : Int) - (a : Int)).tdiv 4 = (q : Int) := by rw [Int.tdiv_eq_ediv_of_nonneg (by omega)]; omega
 have g8 : (8 : Int) ≤ (b : Int) - a := by omega
 have i1 : ((a + q * 1 : Nat) : Int) = (a : Int) + (q : Int) * 1 := by omega
 have i2 : ((a + q * 2 : Nat) : Int) = (a : Int) + (q : Int) * 2 := by omega
 have i3 : ((a + q * 3 : Nat) : Int) = (a : Int) + (q : Int) * 3 := by omega
 have key : ∀ (m : Nat × Nat), m.2 ≤ 12 → choosePivot S.lt D a b = (m.1, if m.2 = 0 then .increasing else if m.2 = 12 then .decreasing else .unknown) →
   (((m.2 : Int) = 0 → hintI (choosePivot S.lt D a b).2 = 1) ∧ (¬ (m.2 : Int) = 0 → (m.2 : Int) = 12 → hintI (choosePivot S.lt D a b).2 = 2) ∧ (¬ (m.2 : Int) = 0 → ¬ (m.2 : Int) = 12 → hintI (choosePivot S.lt D a b).2 = 0)) := fun m hm e => by
  rw [e]
  refine ⟨fun h => ?_, fun h1 h2 => ?_, fun h1 h2 => ?_⟩
  ·rw [if_pos (by omega)]; rfl
  ·rw [if_neg (by omega), if_pos (by omega)]; rfl
  ·rw [if_neg (by omega), if_neg (by omega)]; rfl
 by_cases h50 : 50 ≤ b - a
 ·have h50' : (50 : Int) ≤ (b : Int) - a := by omega
  have hq3 : 12 ≤ q := by omega
  have a1 := hG D (a + q * 1) 0 (by omega) (by omega) (by omega) (by omega)
  have c1 := medianAdjacent_count S.lt D (a + q * 1) 0
  have l1 := adj_lt (lt := S.lt) (D := D) (a := a + q * 1) (s := 0) (n := D.size) (by omega)
  rw [i1, show ((0 : Nat) : Int) = 0 from rfl] at a1
  have hcp : choosePivot S.lt D a b = ((median S.lt D (medianAdjacent S.lt D (a + q * 1) 0).1 (medianAdjacent S.lt D (a + q * 2) (medianAdjacent S.lt D (a + q * 1) 0).2).1 (medianAdjacent S.lt D (a + q * 3) (medianAdjacent S.lt D (a + q * 2) (medianAdjacent S.lt D (a + q * 1) 0).2).2).1 (medianAdjacent S.lt D (a + q * 3) (medianAdjacent S.lt D (a + q * 2) (medianAdjacent S.lt D (a + q * 1) 0).2).2).2).1,
    if (median S.lt D (medianAdjacent S.lt D (a + q * 1) 0).1 (medianAdjacent S.lt D (a + q * 2) (medianAdjacent S.lt D (a + q * 1) 0).2).1 (medianAdjacent S.lt D (a + q * 3) (medianAdjacent S.lt D (a + q * 2) (medianAdjacent S.lt D (a + q * 1) 0).2).2).1 (medianAdjacent S.lt D (a + q * 3) (medianAdjacent S.lt D (a + q * 2) (medianAdjacent S.lt D (a + q * 1) 0).2).2).2).2 = 0 then .increasing else if (median S.lt D (medianAdjacent S.lt D (a + q * 1) 0).1 (medianAdjacent S.lt D (a + q * 2) (medianAdjacent S.lt D (a + q * 1) 0).2).1 (medianAdjacent S.lt D (a + q * 3) (medianAdjacent S.lt D (a + q * 2) (medianAdjacent S.lt D (a + q * 1) 0).2).2).1 (medianAdjacent S.lt D (a + q * 3) (medianAdjacent S.lt D (a + q * 2) (medianAdjacent S.lt D (a + q * 1) 0).2).2).2).2 = 12 then .decreasing else .unknown) := by
   unfold choosePivot
   simp only [← hq]
   rw [if_pos (by omega), if_pos (by omega)]
  generalize medianAdjacent S.lt D (a + q * 1) 0 = r1 at *
  have a2 := hG D (a + q * 2) r1.2 (by omega) (by omega) (by omega) (by omega)
  have c2 := medianAdjacent_count S.lt D (a + q * 2) r1.2
  have l2 := adj_lt (lt := S.lt) (D := D) (a := a + q * 2) (s := r1.2) (n := D.size) (by omega)
  rw [i2] at a2
  generalize medianAdjacent S.lt D (a + q * 2) r1.2 = r2 at *
  have a3 := hG D (a + q * 3) r2.2 (by omega) (by omega) (by omega) (by omega)
  have c3 := medianAdjacent_count S.lt D (a + q * 3) r2.2
  have l3 := adj_lt (lt := S.lt) (D := D) (a := a + q * 3) (s := r2.2) (n := D.size) (by omega)
  rw [i3] at a3
  generalize medianAdjacent S.lt D (a + q * 3) r2.2 = r3 at *
  have a4 := hF D r1.1 r2.1 r3.1 r3.2 l1 l2 l3 (by omega)
  have c4 := median_count S.lt D r1.1 r2.1 r3.1 r3.2
  generalize median S.lt D r1.1 r2.1 r3.1 r3.2 = m at *
  obtain ⟨k1, k2, k3⟩ := key m (by omega) hcp
  have hfst : (choosePivot S.lt D a b).1 = m.1 := by rw [hcp]
  rw [hfst]
  refine evMut (l := []) (nv := nv0) (fz := fz0) (dr := dr135) (dd := dd135) (lam := []) (ms := ⟨[(183, F), (182, G)], lnL [(37, [1000000, 1000001, 72]), (40, [1000000, 1000001, 72]), (43, [1000000, 1000001, 72]), (48, [1000000, 1000001, 72])], []⟩) trivial hJ trivial ⟨⟨sF, sG, trivial⟩, trivial⟩ Tryz.func135 rfl rfl (Nat.le_of_ble_eq_true rfl) (Nat.le_of_ble_eq_true rfl) drOk135 rfl rfl ?_ ?_
  rotate_left
  dsimp only [Tryz.f135, dr135, dd135, Option.getD_some]
  refine ev_start ?_
  ·by_cases z0 : (m.2 : Int) = 0
   ·simp (disch := omega) only [t1, g8, h50', a1, a2, a3, a4, z0, k1, S.all, S.bmv, S.bbk, go_sem, evP_D, evD_guard, evD_cons, evD_zero, evD_nil]
   ·by_cases z1 : (m.2 : Int) = 12
    ·simp (disch := omega) only [t1, g8, h50', a1, a2, a3, a4, z1, k2, S.all, S.bmv, S.bbk, go_sem, evP_D, evD_guard, evD_cons, evD_zero, evD_nil]
    ·simp (disch := omega) only [t1, g8, h50', a1, a2, a3, a4, z0, z1, k3, S.all, S.bmv, S.bbk, go_sem, evP_D, evD_guard, evD_cons, evD_zero, evD_nil]
  ·exact hend
 ·have h50' : ¬ (50 : Int) ≤ (b : Int) - a := by omega
  have hcp : choosePivot S.lt D a b = ((median S.lt D (a + q * 1) (a + q * 2) (a + q * 3) 0).1, if (median S.lt D (a + q * 1) (a + q * 2) (a + q * 3) 0).2 = 0 then .increasing else if (median S.lt D (a + q * 1) (a + q * 2) (a + q * 3) 0).2 = 12 then .decreasing else .unknown) := by
   unfold choosePivot
   simp only [← hq]
   rw [if_pos (by omega), if_neg (by omega)]
  have a4 := hF D (a + q * 1) (a + q * 2) (a + q * 3) 0 (by omega) (by omega) (by omega) (by omega)
  have c4 := median_count S.lt D (a + q * 1) (a + q * 2) (a + q * 3) 0
  rw [i1, i2, i3, show ((0 : Nat) : Int) = 0 from rfl] at a4
  generalize median S.lt D (a + q * 1) (a + q * 2) (a + q * 3) 0 = m at *
  obtain ⟨k1, k2, k3⟩ := key m (by omega) hcp
  have hfst : (choosePivot S.lt D a b).1 = m.1 := by rw [hcp]
  rw [hfst]
  refine evMut (l := []) (nv := nv0) (fz := fz0) (dr := dr135) (dd := dd135) (lam := []) (ms := ⟨[(183, F), (182, G)], lnL [(37, [1000000, 1000001, 72]), (40, [1000000, 1000001, 72]), (43, [1000000, 1000001, 72]), (48, [1000000, 1000001, 72])], []⟩) trivial hJ trivial ⟨⟨sF, sG, trivial⟩, trivial⟩ Tryz.func135 rfl rfl (Nat.le_of_ble_eq_true rfl) (Nat.le_of_ble_eq_true rfl) drOk135 rfl rfl ?_ ?_
  rotate_left
  dsimp only [Tryz.f135, dr135, dd135, Option.getD_some]
  refine ev_start ?_
  ·by_cases z0 : (m.2 : Int) = 0
   ·simp (disch := omega) only [t1, g8, h50', a4, z0, k1, S.all, S.bmv, S.bbk, go_sem, evP_D, evD_guard, evD_cons, evD_zero, evD_nil]
   ·have z1 : ¬ (m.2 : Int) = 12 := by omega
    simp (disch := omega) only [t1, g8, h50', a4, z0, z1, k3, S.all, S.bmv, S.bbk, go_sem, evP_D, evD_guard, evD_cons, evD_zero, evD_nil]
  ·exact hend
end
end Go.Proofs.YtdmkmbaaemhhhaaGreatDoor
