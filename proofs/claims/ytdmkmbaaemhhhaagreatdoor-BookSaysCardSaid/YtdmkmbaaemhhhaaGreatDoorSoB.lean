/-
  Sorting by a function that is handed in, run by the machine: insertion, turning about, heaps.
-/
import Derived.Test.YtdmkmbaaemhhhaaGreatDoorSoA
namespace Go.So
open Go Go.Ev Go.Sort
section
variable {P : Program} {J : World → Prop} {far : List FuncId} {α : Type} [Inhabited α] (S : So P J far α)
theorem famS {f : FuncId} {ι : Type} (g : ι → Array α × List Nat) (hg : ∀ i j, g i = g j → i = j) (r : ι → V × Array α) (h : ∀ i, MutAt P J f (S.ks (g i).1) (S.dV :: (g i).2.map fun n : Nat => V.int .i64 (n : Int)) (r i).1 (S.ks (r i).2)) :
    ∃ F : List Blk → List V → Option (V × List Blk), (∀ i, F (S.ks (g i).1) (S.dV :: (g i).2.map fun n : Nat => V.int .i64 (n : Int)) = some ((r i).1, S.ks (r i).2)) ∧ Mu P J f F := by
  refine famM (fun i => S.ks (g i).1) (fun i => S.dV :: (g i).2.map fun n : Nat => V.int .i64 (n : Int)) (fun i => ((r i).1, S.ks (r i).2)) (fun i j h1 h2 => ?_) h
  have e1 := S.ksInj h1
  simp only [List.cons.injEq, true_and] at h2
  have e2 := mapInj (f := fun n : Nat => V.int .i64 (n : Int)) (fun x y (e : V.int .i64 (x : Int) = V.int .i64 (y : Int)) => by simp only [V.int.injEq, true_and, Int.natCast_inj] at e; exact e) h2
  rw [hg i j (Prod.ext e1 e2)]
end
section
variable {α : Type} [Inhabited α] (lt : α → α → Bool)
theorem insInner_go {a j : Nat} {d : Array α} (h0 : a < j) (h : lt d[j]! d[j - 1]! = true) : insInner lt a j d = insInner lt a (j - 1) (swp d j (j - 1)) := by
  obtain ⟨k, rfl⟩ : ∃ k, j = k + 1 := ⟨j - 1, by omega⟩
  rw [Nat.add_sub_cancel] at h ⊢
  rw [insInner, if_pos (by simp only [Bool.and_eq_true, decide_eq_true_eq]; exact ⟨h0, h⟩)]
theorem insInner_stop {a j : Nat} {d : Array α} (h : ¬ a < j ∨ lt d[j]! d[j - 1]! = false) : insInner lt a j d = d := by
  cases j with
  | zero => rfl
  | succ k =>
    rw [Nat.add_sub_cancel] at h
    rw [insInner, if_neg]
    simp only [Bool.and_eq_true, decide_eq_true_eq, not_and, Bool.not_eq_true]
    intro h0
    rcases h with h | h
    · exact absurd h0 h
    · exact h
theorem insInner_size (a : Nat) : ∀ (j : Nat) (d : Array α), (insInner lt a j d).size = d.size
  | 0, d => rfl
  | j + 1, d => by
    rw [insInner]
    split
    · rw [insInner_size a j, size_swp]
    · rfl
theorem insOuter_go {a b i : Nat} {d : Array α} (h : i < b) : insOuter lt a b i d = insOuter lt a b (i + 1) (insInner lt a i d) := by rw [insOuter, if_pos h]
theorem insOuter_stop {a b i : Nat} {d : Array α} (h : ¬ i < b) : insOuter lt a b i d = d := by rw [insOuter, if_neg h]
end
end Go.So
namespace Go.Proofs.YtdmkmbaaemhhhaaGreatDoor
open Go Go.Ev Go.RowKit Go.Sort Go.So
set_option maxHeartbeats 4000000
set_option linter.unusedSimpArgs false
set_option linter.unusedVariables false

section
variable {J : World → Prop} (hJ : Stable J) {α : Type} [Inhabited α] (S : So Tryz.prog J famF α)
theorem subI {n : Nat} (h : 0 < n) : ((n - 1 : Nat) : Int) = (n : Int) - 1 := by omega
include hJ in
set_option maxHeartbeats 4000000 in
theorem ins_mut (D : Array α) (a b : Nat) (hab : a ≤ b) (hb : b ≤ D.size) (hsz : D.size < 4611686018427387904) :
    MutAt Tryz.prog J 132 (S.ks D) [S.dV, .int .i64 a, .int .i64 b] (.tup []) (S.ks (insertionSort S.lt D a b)) := by
  have hend := S.ksLone (insertionSort S.lt D a b)
  have nes := S.ne
  unfold So.dV
  unfold So.ks insertionSort at hend ⊢
  refine evMut (l := []) (nv := nv0) (fz := fz0) (dr := dr132) (dd := dd132) (lam := []) (ms := ⟨[(S.lf, S.LF), (S.sf, S.SF)], lnL [(25, [1000000, 1000001]), (34, [1000000, 1000001])], []⟩) trivial hJ trivial ⟨⟨S.hLF, S.hSF, trivial⟩, trivial⟩ Tryz.func132 rfl rfl (Nat.le_of_ble_eq_true rfl) (Nat.le_of_ble_eq_true rfl) drOk132 rfl rfl ?_ ?_
  rotate_left
  dsimp only [Tryz.f132, dr132, dd132, Option.getD_some]
  refine ev_start ?_
  · simp (disch := omega) only [go_sem, evP_D, evD_guard, evD_cons, evD_zero, evD_nil]
    refine evQ_loop [1, 2, 3, 6] [1000000, 1000001, 24] (fun σ => ∃ (i : Nat) (E : Array α), (a < i ∧ i ≤ b + 1 ∧ E.size = D.size ∧ insOuter S.lt a b i E = insOuter S.lt a b (a + 1) D) ∧ σ = ⟨[(1, .int .i64 a), (2, .int .i64 b), (3, .ptr 24 0), (6, .int .i64 i)], [(1000000, .vec S.T S.sz (E.toList.map S.enc)), (1000001, .box S.bv), (24, .box (.agg [.fn S.lf [.ptr 1000001 0], .fn S.sf [.vec 1000000, .raw S.hd]]))]⟩)
      (fun σ => b + 1 - (match Ev.look 6 σ.env with | some (.int _ n) => n.toNat | _ => 0)) ?_ ?_
    · simp only [S.br, go_sem, evP_D, evD_guard, evD_cons, evD_zero, evD_nil]
      exact ⟨a + 1, D, ⟨by omega, by omega, rfl, rfl⟩, rfl⟩
    · rintro σ ⟨i, E, ⟨hai, hib, hE, hO⟩, rfl⟩
      by_cases hlt : i < b
      case neg =>
        have hlt' : ¬ (i : Int) < b := by omega
        rw [insOuter_stop _ hlt] at hO
        subst hO
        simp (disch := omega) only [hlt', go_sem, evP_D, evD_guard, evD_cons, evD_zero, evD_nil]
      have hlt' : (i : Int) < b := by omega
      simp (disch := omega) only [hlt', S.br, go_sem, evP_D, evD_guard, evD_cons, evD_zero, evD_nil]
      refine evQ_loop [1, 2, 3, 6, 7] [1000000, 1000001, 24] (fun σ => ∃ (j : Nat) (E2 : Array α), (a ≤ j ∧ j ≤ i ∧ E2.size = D.size ∧ insInner S.lt a j E2 = insInner S.lt a i E) ∧ σ = ⟨[(1, .int .i64 a), (2, .int .i64 b), (3, .ptr 24 0), (6, .int .i64 i), (7, .int .i64 j)], [(1000000, .vec S.T S.sz (E2.toList.map S.enc)), (1000001, .box S.bv), (24, .box (.agg [.fn S.lf [.ptr 1000001 0], .fn S.sf [.vec 1000000, .raw S.hd]]))]⟩)
        (fun σ => (match Ev.look 7 σ.env with | some (.int _ n) => n.toNat | _ => 0)) ?_ ?_
      · simp only [S.br, go_sem, evP_D, evD_guard, evD_cons, evD_zero, evD_nil]
        exact ⟨i, E, ⟨by omega, Nat.le_refl _, hE, rfl⟩, rfl⟩
      · rintro σ ⟨j, E2, ⟨haj, hji, hE2, hI⟩, rfl⟩
        have e1 := S.all E2
        have out : insInner S.lt a j E2 = E2 → ((∃ (i' : Nat) (E' : Array α), (a < i' ∧ i' ≤ b + 1 ∧ E'.size = D.size ∧ insOuter S.lt a b i' E' = insOuter S.lt a b (a + 1) D) ∧
            (⟨[(1, .int .i64 a), (2, .int .i64 b), (3, .ptr 24 0), (6, .int .i64 ((i : Int) + 1))], [(1000000, .vec S.T S.sz (E2.toList.map S.enc)), (1000001, .box S.bv), (24, .box (.agg [.fn S.lf [.ptr 1000001 0], .fn S.sf [.vec 1000000, .raw S.hd]]))]⟩ : St) =
            ⟨[(1, .int .i64 a), (2, .int .i64 b), (3, .ptr 24 0), (6, .int .i64 i')], [(1000000, .vec S.T S.sz (E'.toList.map S.enc)), (1000001, .box S.bv), (24, .box (.agg [.fn S.lf [.ptr 1000001 0], .fn S.sf [.vec 1000000, .raw S.hd]]))]⟩) ∧ b + 1 - ((i : Int) + 1).toNat < b + 1 - (i : Int).toNat) := fun he =>
          ⟨⟨i + 1, E2, ⟨by omega, by omega, hE2, by rw [← hO, insOuter_go _ hlt, ← hI, he]⟩, rfl⟩, by omega⟩
        by_cases hja : a < j
        · have hja' : (a : Int) < j := by omega
          have hl := S.hL E2 j (j - 1) (by omega) (by omega)
          rw [subI (by omega)] at hl
          cases hv : S.lt E2[j]! E2[j - 1]! with
          | true =>
            have hs := S.hS E2 j (j - 1) (by omega) (by omega)
            rw [subI (by omega)] at hs
            rw [hv] at hl
            simp (disch := omega) only [hja', hl, hs, e1, nes, S.all, S.bmv, S.bbk, S.br, go_sem, evP_D, evD_guard, evD_cons, evD_zero, evD_nil]
            exact ⟨⟨j - 1, swp E2 j (j - 1), ⟨by omega, by omega, by rw [size_swp]; exact hE2, by rw [← hI, insInner_go _ hja hv]⟩, by rw [subI (by omega)]⟩, by omega⟩
          | false =>
            rw [hv] at hl
            simp (disch := omega) only [hja', hl, e1, nes, S.all, S.bmv, S.bbk, S.br, go_sem, evP_D, evD_guard, evD_cons, evD_zero, evD_nil]
            exact out (insInner_stop _ (.inr hv))
        · have hja' : ¬ (a : Int) < j := by omega
          simp (disch := omega) only [hja', S.br, go_sem, evP_D, evD_guard, evD_cons, evD_zero, evD_nil]
          exact out (insInner_stop _ (.inl hja))
  · exact hend
include hJ in
set_option maxHeartbeats 4000000 in
theorem rev_mut (D : Array α) (a b : Nat) (hab : a ≤ b) (h0 : 0 < b) (hb : b ≤ D.size) (hsz : D.size < 4611686018427387904) :
    MutAt Tryz.prog J 136 (S.ks D) [S.dV, .int .i64 a, .int .i64 b] (.tup []) (S.ks (reverseRange D a b)) := by
  have hend := S.ksLone (reverseRange D a b)
  have nes := S.ne
  unfold So.dV
  unfold So.ks reverseRange at hend ⊢
  refine evMut (l := []) (nv := nv0) (fz := fz0) (dr := dr136) (dd := dd136) (lam := []) (ms := ⟨[(S.sf, S.SF)], lnL [(18, [1000000, 1000001])], []⟩) trivial hJ trivial ⟨⟨S.hSF, trivial⟩, trivial⟩ Tryz.func136 rfl rfl (Nat.le_of_ble_eq_true rfl) (Nat.le_of_ble_eq_true rfl) drOk136 rfl rfl ?_ ?_
  rotate_left
  dsimp only [Tryz.f136, dr136, dd136, Option.getD_some]
  refine ev_start ?_
  · simp (disch := omega) only [go_sem, evP_D, evD_guard, evD_cons, evD_zero, evD_nil]
    refine evQ_loop [3, 6, 7] [1000000, 1000001, 24] (fun σ => ∃ (i j : Nat) (E : Array α), (j < b ∧ i ≤ b ∧ E.size = D.size ∧ reverseLoop i j E = reverseLoop a (b - 1) D) ∧ σ = ⟨[(3, .ptr 24 0), (6, .int .i64 i), (7, .int .i64 j)], [(1000000, .vec S.T S.sz (E.toList.map S.enc)), (1000001, .box S.bv), (24, .box (.agg [.fn S.lf [.ptr 1000001 0], .fn S.sf [.vec 1000000, .raw S.hd]]))]⟩)
      (fun σ => (match Ev.look 7 σ.env with | some (.int _ n) => n.toNat | _ => 0)) ?_ ?_
    · simp only [S.br, go_sem, evP_D, evD_guard, evD_cons, evD_zero, evD_nil]
      exact ⟨a, b - 1, D, ⟨by omega, by omega, rfl, rfl⟩, by rw [subI h0]⟩
    · rintro σ ⟨i, j, E, ⟨hj, hi, hE, hO⟩, rfl⟩
      by_cases hlt : i < j
      case neg =>
        have hlt' : ¬ (i : Int) < j := by omega
        rw [reverseLoop, if_neg hlt] at hO
        subst hO
        simp (disch := omega) only [hlt', go_sem, evP_D, evD_guard, evD_cons, evD_zero, evD_nil]
      have hlt' : (i : Int) < j := by omega
      have hs := S.hS E i j (by omega) (by omega)
      rw [reverseLoop, if_pos hlt] at hO
      simp (disch := omega) only [hlt', hs, S.all, S.bmv, S.bbk, S.br, go_sem, evP_D, evD_guard, evD_cons, evD_zero, evD_nil]
      exact ⟨⟨i + 1, j - 1, swp E i j, ⟨by omega, by omega, by rw [size_swp]; exact hE, hO⟩, by rw [subI (by omega)]; rfl⟩, by omega⟩
  · exact hend
end
end Go.Proofs.YtdmkmbaaemhhhaaGreatDoor
