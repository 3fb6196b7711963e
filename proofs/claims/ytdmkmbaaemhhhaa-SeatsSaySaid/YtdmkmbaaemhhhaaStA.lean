/-
  The library's stable sort at a comparison and a swap that are handed in, run by the machine: ranges that change places, rotations, insertion.
-/
import Derived.Test.YtdmkmbaaemhhhaaSoA
import Derived.Test.YtdmkmbaaemhhhaaSrtP
namespace Go.So
open Go Go.Ev Go.Sort Go.Srt
section
variable {P : Program} {J : World → Prop} {far : List FuncId} {α : Type} [Inhabited α] (S : So P J far α)
def So.kl (l : List α) : List Blk := [.vec S.T S.sz (l.map S.enc), .box S.bv]
theorem So.allL (l : List α) : ((l.map S.enc).all fun v => V.lone v && V.data v) = true := S.all l.toArray
theorem So.klLone (l : List α) : ∀ k ∈ [Blk.vec S.T S.sz (l.map S.enc), .box S.bv], Blk.lone k = true := S.ksLone l.toArray
theorem So.klInj {l l' : List α} (h : S.kl l = S.kl l') : l = l' := by
  simp only [So.kl, List.cons.injEq, Blk.vec.injEq, true_and] at h
  exact mapInj S.inj h.1
theorem at_ge (l : List α) (i : Nat) : l.toArray[i]! = ge l i := by simp [ge]
theorem swp_tb (l : List α) {i j : Nat} : (swp l.toArray i j).toList = tb l (swI i j) := by
  have h := tab_swap l (fun k => k) i j
  rw [tab_id] at h
  rw [← h]
  unfold swp
  rw [Array.toList_setIfInBounds, Array.toList_setIfInBounds, at_ge, at_ge]
theorem So.hLl (l : List α) (i j : Nat) (hi : i < l.length) (hj : j < l.length) : S.LF [.vec S.T S.sz (l.map S.enc), .box S.bv] [.int .i64 i, .int .i64 j, .ptr 1000001 0] = some (.bool (S.lt (ge l i) (ge l j)), [.vec S.T S.sz (l.map S.enc), .box S.bv]) := by
  have h := S.hL l.toArray i j (by simpa using hi) (by simpa using hj)
  rw [at_ge, at_ge] at h
  exact h
theorem So.hSl (l : List α) (i j : Nat) (hi : i < l.length) (hj : j < l.length) : S.SF [.vec S.T S.sz (l.map S.enc), .box S.bv] [.int .i64 i, .int .i64 j, .vec 1000000, .raw S.hd] = some (.tup [], [.vec S.T S.sz ((tb l (swI i j)).map S.enc), .box S.bv]) := by
  have h := S.hS l.toArray i j (by simpa using hi) (by simpa using hj)
  rw [swp_tb] at h
  exact h
theorem famL {f : FuncId} {ι : Type} (g : ι → List α × List Nat) (hg : ∀ i j, g i = g j → i = j) (r : ι → List α) (h : ∀ i, MutAt P J f (S.kl (g i).1) (S.dV :: (g i).2.map fun n : Nat => V.int .i64 (n : Int)) (.tup []) (S.kl (r i))) :
    ∃ F : List Blk → List V → Option (V × List Blk), (∀ i, F (S.kl (g i).1) (S.dV :: (g i).2.map fun n : Nat => V.int .i64 (n : Int)) = some (.tup [], S.kl (r i))) ∧ Mu P J f F := by
  refine famM (fun i => S.kl (g i).1) (fun i => S.dV :: (g i).2.map fun n : Nat => V.int .i64 (n : Int)) (fun i => (.tup [], S.kl (r i))) (fun i j h1 h2 => ?_) h
  have e1 := S.klInj h1
  simp only [List.cons.injEq, true_and] at h2
  have e2 := mapInj (f := fun n : Nat => V.int .i64 (n : Int)) (fun x y (e : V.int .i64 (x : Int) = V.int .i64 (y : Int)) => by simp only [V.int.injEq, true_and, Int.natCast_inj] at e; exact e) h2
  rw [hg i j (Prod.ext e1 e2)]
/-- three numbers -/
theorem famL3 {f : FuncId} (C : List α → Nat → Nat → Nat → Prop) (r : List α → Nat → Nat → Nat → List α) (h : ∀ l a b c, C l a b c → MutAt P J f (S.kl l) [S.dV, .int .i64 a, .int .i64 b, .int .i64 c] (.tup []) (S.kl (r l a b c))) :
    ∃ F : List Blk → List V → Option (V × List Blk), (∀ l a b c, C l a b c → F [.vec S.T S.sz (l.map S.enc), .box S.bv] [.agg [.fn S.lf [.ptr 1000001 0], .fn S.sf [.vec 1000000, .raw S.hd]], .int .i64 a, .int .i64 b, .int .i64 c] = some (.tup [], [.vec S.T S.sz ((r l a b c).map S.enc), .box S.bv])) ∧ Mu P J f F := by
  obtain ⟨F, h1, h2⟩ := famL S (f := f) (fun q : { q : List α × Nat × Nat × Nat // C q.1 q.2.1 q.2.2.1 q.2.2.2 } => (q.1.1, [q.1.2.1, q.1.2.2.1, q.1.2.2.2])) (fun i j e => by
    obtain ⟨⟨l, a, b, c⟩, _⟩ := i
    obtain ⟨⟨l', a', b', c'⟩, _⟩ := j
    simp only [Prod.mk.injEq, List.cons.injEq, and_true] at e
    obtain ⟨rfl, rfl, rfl, rfl⟩ := e
    rfl) (fun q => r q.1.1 q.1.2.1 q.1.2.2.1 q.1.2.2.2) (fun q => h _ _ _ _ q.2)
  exact ⟨F, fun l a b c hc => h1 ⟨(l, a, b, c), hc⟩, h2⟩
/-- two numbers -/
theorem famL2 {f : FuncId} (C : List α → Nat → Nat → Prop) (r : List α → Nat → Nat → List α) (h : ∀ l a b, C l a b → MutAt P J f (S.kl l) [S.dV, .int .i64 a, .int .i64 b] (.tup []) (S.kl (r l a b))) :
    ∃ F : List Blk → List V → Option (V × List Blk), (∀ l a b, C l a b → F [.vec S.T S.sz (l.map S.enc), .box S.bv] [.agg [.fn S.lf [.ptr 1000001 0], .fn S.sf [.vec 1000000, .raw S.hd]], .int .i64 a, .int .i64 b] = some (.tup [], [.vec S.T S.sz ((r l a b).map S.enc), .box S.bv])) ∧ Mu P J f F := by
  obtain ⟨F, h1, h2⟩ := famL S (f := f) (fun q : { q : List α × Nat × Nat // C q.1 q.2.1 q.2.2 } => (q.1.1, [q.1.2.1, q.1.2.2])) (fun i j e => by
    obtain ⟨⟨l, a, b⟩, _⟩ := i
    obtain ⟨⟨l', a', b'⟩, _⟩ := j
    simp only [Prod.mk.injEq, List.cons.injEq, and_true] at e
    obtain ⟨rfl, rfl, rfl⟩ := e
    rfl) (fun q => r q.1.1 q.1.2.1 q.1.2.2) (fun q => h _ _ _ q.2)
  exact ⟨F, fun l a b hc => h1 ⟨(l, a, b), hc⟩, h2⟩
end
end Go.So
namespace Go.Proofs.Ytdmkmbaaemhhhaa
open Go Go.Ev Go.RowKit Go.Sort Go.So Go.Srt
set_option maxHeartbeats 4000000
set_option linter.unusedSimpArgs false
set_option linter.unusedVariables false

/-- the functions of the family -/
def famT : List FuncId := [41, 42, 43, 44, 30]
section
variable {J : World → Prop} (hJ : Stable J) {α : Type} [Inhabited α] (S : So Try.prog J famT α)
theorem swrI_ltS {a b n N k : Nat} (h1 : a + n ≤ b) (h2 : b + n ≤ N) (hk : k < N) : swrI a b n k < N := by unfold swrI; (repeat' split) <;> omega
theorem swI_lt {i j N k : Nat} (h1 : i < N) (h2 : j < N) (hk : k < N) : swI i j k < N := by unfold swI; (repeat' split) <;> omega
include hJ in
set_option maxHeartbeats 4000000 in
theorem swrS (l : List α) (a b n : Nat) (h1 : a + n ≤ b) (h2 : b + n ≤ l.length) (hl : l.length ≤ 1000000) :
    MutAt Try.prog J 44 (S.kl l) [S.dV, .int .i64 a, .int .i64 b, .int .i64 n] (.tup []) (S.kl (tb l (swrI a b n))) := by
  have hend := S.klLone (tb l (swrI a b n))
  unfold So.dV
  unfold So.kl
  refine evMut (l := []) (nv := nv0) (fz := fz0) (dr := dr44) (dd := dd44) (lam := []) (ms := ⟨[(S.sf, S.SF)], lnL [(22, [1000000, 1000001])], []⟩) trivial hJ trivial ⟨⟨S.hSF, trivial⟩, trivial⟩ Try.func44 rfl rfl (Nat.le_of_ble_eq_true rfl) (Nat.le_of_ble_eq_true rfl) drOk44 rfl rfl ?_ ?_
  rotate_left
  dsimp only [Try.f44, dr44, dd44, Option.getD_some]
  refine ev_start ?_
  · simp (disch := omega) only [go_sem, evP_D, evD_guard, evD_cons, evD_zero, evD_nil]
    refine evQ_loop [1, 2, 3, 4, 8] [1000000, 1000001, 32] (fun σ => ∃ i : Nat, i ≤ n ∧ σ = ⟨[(1, .int .i64 a), (2, .int .i64 b), (3, .int .i64 n), (4, .ptr 32 0), (8, .int .i64 i)], [(1000000, .vec S.T S.sz ((tb l (swrI a b i)).map S.enc)), (1000001, .box S.bv), (32, .box (.agg [.fn S.lf [.ptr 1000001 0], .fn S.sf [.vec 1000000, .raw S.hd]]))]⟩)
      (fun σ => n - (match Ev.look 8 σ.env with | some (.int _ n) => n.toNat | _ => 0)) ?_ ?_
    · simp only [S.br, go_sem, evP_D, evD_guard, evD_cons, evD_zero, evD_nil]
      exact ⟨0, Nat.zero_le _, by rw [tab_congr l (fun k _ => swrI_zero a b k), tab_id]; rfl⟩
    · rintro σ ⟨i, hi, rfl⟩
      by_cases hlt : i < n
      · have hlt' : (i : Int) < n := by omega
        have hs := S.hSl (tb l (swrI a b i)) (a + i) (b + i) (by rw [tab_len]; omega) (by rw [tab_len]; omega)
        rw [tab_tab l _ _ (fun k hk => swI_lt (by omega) (by omega) hk), tab_congr l (fun k _ => swrI_step (by omega) k), Int.natCast_add, Int.natCast_add] at hs
        simp (disch := omega) only [hlt', hs, S.allL, S.bmv, S.bbk, S.br, go_sem, evP_D, evD_guard, evD_cons, evD_zero, evD_nil]
        exact ⟨⟨i + 1, hlt, rfl⟩, by rw [show ((i : Int) + 1).toNat = i + 1 by omega, Int.toNat_natCast]; omega⟩
      · have hi' : i = n := by omega
        subst hi'
        have hlt' : ¬ ((i : Int) < i) := by omega
        simp (disch := (first | omega | assumption)) only [hlt', go_sem, evP_D, evD_guard, evD_cons, evD_zero, evD_nil]
  · exact hend
include hJ in
set_option maxHeartbeats 4000000 in
theorem rotS (l : List α) (a m b : Nat) (h1 : a < m) (h2 : m < b) (hb : b ≤ l.length) (hl : l.length ≤ 1000000) :
    MutAt Try.prog J 43 (S.kl l) [S.dV, .int .i64 a, .int .i64 m, .int .i64 b] (.tup []) (S.kl (tb l (rotI a m b))) := by
  have hend := S.klLone (tb l (rotI a m b))
  obtain ⟨F, hF, sF⟩ := famL3 S (f := 44) (fun l a b n => a + n ≤ b ∧ b + n ≤ l.length ∧ l.length ≤ 1000000) (fun l a b n => tb l (swrI a b n)) (fun l a b n h => swrS hJ S l a b n h.1 h.2.1 h.2.2)
  unfold So.dV
  unfold So.kl
  refine evMut (l := []) (nv := nv0) (fz := fz0) (dr := dr43) (dd := dd43) (lam := []) (ms := ⟨[(44, F)], lnL [(28, [1000000, 1000001]), (42, [1000000, 1000001]), (52, [1000000, 1000001])], []⟩) trivial hJ trivial ⟨⟨sF, trivial⟩, trivial⟩ Try.func43 rfl rfl (Nat.le_of_ble_eq_true rfl) (Nat.le_of_ble_eq_true rfl) drOk43 rfl rfl ?_ ?_
  rotate_left
  dsimp only [Try.f43, dr43, dd43, Option.getD_some]
  refine ev_start ?_
  · simp (disch := omega) only [go_sem, evP_D, evD_guard, evD_cons, evD_zero, evD_nil]
    refine evQ_loop [2, 4, 8, 9] [1000000, 1000001, 32] (fun σ => ∃ (i j : Nat) (π : Nat → Nat), (0 < i ∧ 0 < j ∧ a + i ≤ m ∧ m + j ≤ b ∧ ∀ k, π (rotI (m - i) m (m + j) k) = rotI a m b k) ∧
      σ = ⟨[(2, .int .i64 m), (4, .ptr 32 0), (8, .int .i64 i), (9, .int .i64 j)], [(1000000, .vec S.T S.sz ((tb l π).map S.enc)), (1000001, .box S.bv), (32, .box (.agg [.fn S.lf [.ptr 1000001 0], .fn S.sf [.vec 1000000, .raw S.hd]]))]⟩)
      (fun σ => (match Ev.look 8 σ.env with | some (.int _ n) => n.toNat | _ => 0) + (match Ev.look 9 σ.env with | some (.int _ n) => n.toNat | _ => 0)) ?_ ?_
    · simp only [S.br, go_sem, evP_D, evD_guard, evD_cons, evD_zero, evD_nil]
      refine ⟨m - a, b - m, fun k => k, ⟨by omega, by omega, by omega, by omega, fun k => ?_⟩, ?_⟩
      · rw [show m - (m - a) = a by omega, show m + (b - m) = b by omega]
      · rw [tab_id, show ((m - a : Nat) : Int) = (m : Int) - a by omega, show ((b - m : Nat) : Int) = (b : Int) - m by omega]
    · rintro σ ⟨i, j, π, ⟨hi, hj, him, hjb, hπ⟩, rfl⟩
      have e1 : ((m - i : Nat) : Int) = (m : Int) - i := by omega
      by_cases hne : i = j
      · subst hne
        have hne' : (i : Int) = i := rfl
        have hp := hF (tb l π) (m - i) m i ⟨by omega, by rw [tab_len]; omega, by rw [tab_len]; exact hl⟩
        have hfin : tb (tb l π) (swrI (m - i) m i) = tb l (rotI a m b) := by
          rw [tab_tab l π _ (fun k hk => swrI_ltS (by omega) (by omega) hk)]
          exact tab_congr l fun k _ => by rw [rotI_last (by omega), hπ]
        rw [hfin, e1] at hp
        simp (disch := (first | omega | assumption)) only [hp, S.allL, S.bmv, S.bbk, S.bl, S.br, go_sem, evP_D, evD_guard, evD_cons, evD_zero, evD_nil]
      · have hne' : ¬ (i : Int) = j := by omega
        by_cases hlt : j < i
        · have hlt' : (j : Int) < i := by omega
          have e2 : (i : Int) - j = ((i - j : Nat) : Int) := by omega
          have hp := hF (tb l π) (m - i) m j ⟨by omega, by rw [tab_len]; omega, by rw [tab_len]; exact hl⟩
          rw [tab_tab l π _ (fun k hk => swrI_ltS (by omega) (by omega) hk), e1] at hp
          simp (disch := (first | omega | assumption)) only [hp, hne', hlt', e2, S.allL, S.bmv, S.bbk, S.bl, S.br, go_sem, evP_D, evD_guard, evD_cons, evD_zero, evD_nil]
          refine ⟨⟨i - j, j, fun k => π (swrI (m - i) m j k), ⟨by omega, hj, by omega, hjb, fun k => ?_⟩, rfl⟩, by simp only [Int.toNat_natCast]; omega⟩
          show π (swrI (m - i) m j (rotI (m - (i - j)) m (m + j) k)) = _
          rw [rotI_left (a := 0) (b := 0) (by omega) hlt, hπ]
        · have hlt' : ¬ (j : Int) < i := by omega
          have e2 : (j : Int) - i = ((j - i : Nat) : Int) := by omega
          have e4 : ((m + j - i : Nat) : Int) = (m : Int) + j - i := by omega
          have hp := hF (tb l π) (m - i) (m + j - i) i ⟨by omega, by rw [tab_len]; omega, by rw [tab_len]; exact hl⟩
          rw [tab_tab l π _ (fun k hk => swrI_ltS (by omega) (by omega) hk), e1, e4] at hp
          simp (disch := (first | omega | assumption)) only [hp, hne', hlt', e2, S.allL, S.bmv, S.bbk, S.bl, S.br, go_sem, evP_D, evD_guard, evD_cons, evD_zero, evD_nil]
          refine ⟨⟨i, j - i, fun k => π (swrI (m - i) (m + j - i) i k), ⟨hi, by omega, him, by omega, fun k => ?_⟩, rfl⟩, by simp only [Int.toNat_natCast]; omega⟩
          show π (swrI (m - i) (m + j - i) i (rotI (m - i) m (m + (j - i)) k)) = _
          rw [rotI_right (a := 0) (b := 0) (by omega) (by omega), hπ]
  · exact hend
variable (hw : Swo (fun x y => S.lt x y = true))
include hJ hw in
set_option maxHeartbeats 4000000 in
theorem insS (l : List α) (a b : Nat) (hb : b ≤ l.length) (ha : a ≤ l.length) (hl : l.length ≤ 1000000) :
    MutAt Try.prog J 41 (S.kl l) [S.dV, .int .i64 a, .int .i64 b] (.tup []) (S.kl (srtL (fun x y => S.lt x y = true) l a b)) := by
  have hend := S.klLone (srtL (fun x y => S.lt x y = true) l a b)
  have nes := S.ne
  unfold So.dV
  unfold So.kl
  refine evMut (l := []) (nv := nv0) (fz := fz0) (dr := dr41) (dd := dd41) (lam := []) (ms := ⟨[(S.lf, S.LF), (S.sf, S.SF)], lnL [(25, [1000000, 1000001]), (34, [1000000, 1000001])], []⟩) trivial hJ trivial ⟨⟨S.hLF, S.hSF, trivial⟩, trivial⟩ Try.func41 rfl rfl (Nat.le_of_ble_eq_true rfl) (Nat.le_of_ble_eq_true rfl) drOk41 rfl rfl ?_ ?_
  rotate_left
  dsimp only [Try.f41, dr41, dd41, Option.getD_some]
  refine ev_start ?_
  · simp (disch := omega) only [go_sem, evP_D, evD_guard, evD_cons, evD_zero, evD_nil]
    refine evQ_loop [1, 2, 3, 6] [1000000, 1000001, 24] (fun σ => ∃ (i : Nat) (π : Nat → Nat), (a < i ∧ (i ≤ b ∨ i = a + 1) ∧ PermOn a i π ∧ Srtd (Lt (fun x y => S.lt x y = true) l) π a i) ∧
      σ = ⟨[(1, .int .i64 a), (2, .int .i64 b), (3, .ptr 24 0), (6, .int .i64 i)], [(1000000, .vec S.T S.sz ((tb l π).map S.enc)), (1000001, .box S.bv), (24, .box (.agg [.fn S.lf [.ptr 1000001 0], .fn S.sf [.vec 1000000, .raw S.hd]]))]⟩)
      (fun σ => b - (match Ev.look 6 σ.env with | some (.int _ n) => n.toNat | _ => 0)) ?_ ?_
    · simp only [S.br, go_sem, evP_D, evD_guard, evD_cons, evD_zero, evD_nil]
      exact ⟨a + 1, fun k => k, ⟨by omega, .inr rfl, .id _ _, fun p q _ _ _ => by omega⟩, by rw [tab_id]; rfl⟩
    · rintro σ ⟨i, π, ⟨hi, hib, hπ, sπ⟩, rfl⟩
      by_cases hlt1 : i < b
      · have hlt' : (i : Int) < b := by omega
        simp (disch := (first | omega | assumption)) only [hlt', go_sem, evP_D, evD_guard, evD_cons, evD_zero, evD_nil]
        refine evQ_loop [1, 2, 3, 6, 7] [1000000, 1000001, 24] (fun σ => ∃ (j : Nat), (a ≤ j ∧ j ≤ i ∧ ∀ q, j ≤ q → q < i → Lt (fun x y => S.lt x y = true) l (π i) (π q)) ∧
          σ = ⟨[(1, .int .i64 a), (2, .int .i64 b), (3, .ptr 24 0), (6, .int .i64 i), (7, .int .i64 j)], [(1000000, .vec S.T S.sz ((tb l (fun k => π (insI j i k))).map S.enc)), (1000001, .box S.bv), (24, .box (.agg [.fn S.lf [.ptr 1000001 0], .fn S.sf [.vec 1000000, .raw S.hd]]))]⟩)
          (fun σ => (match Ev.look 7 σ.env with | some (.int _ n) => n.toNat | _ => 0)) ?_ ?_
        · simp only [S.br, go_sem, evP_D, evD_guard, evD_cons, evD_zero, evD_nil]
          exact ⟨i, ⟨by omega, Nat.le_refl _, fun q _ _ => by omega⟩, by rw [show tb l (fun k => π (insI i i k)) = tb l π from tab_congr l fun k _ => by rw [insI_top]]⟩
        · rintro σ ⟨j, ⟨hj, hji, hgt⟩, rfl⟩
          have hend2 : (a < j → Lt (fun x y => S.lt x y = true) l (π (j - 1)) (π i)) → Srtd (Lt (fun x y => S.lt x y = true) l) (fun k => π (insI j i k)) a (i + 1) := fun h => ins_sorted (Lt.ord hw l) hj hji sπ hgt h
          have hperm : PermOn a (i + 1) (fun k => π (insI j i k)) := (hπ.mono (Nat.le_refl _) (by omega)).comp (insI_perm hj hji)
          have e3 : (i : Int) + 1 = ((i + 1 : Nat) : Int) := by omega
          by_cases hja : a < j
          · have hja' : (a : Int) < j := by omega
            have e1 : ((j - 1 : Nat) : Int) = (j : Int) - 1 := by omega
            have r1 : insI j i j = i := by unfold insI; rw [if_pos rfl]
            have r2 : insI j i (j - 1) = j - 1 := by unfold insI; rw [if_neg (by omega), if_neg (by omega)]
            have hπi : π i = i := hπ.out (by omega)
            have hx := hπ.maps (k := j - 1) (by omega)
            have hlf := S.hLl (tb l (fun k => π (insI j i k))) j (j - 1) (by rw [tab_len]; omega) (by rw [tab_len]; omega)
            rw [ge_tab _ _ (by omega), ge_tab _ _ (by omega), r1, r2, e1] at hlf
            cases hc : S.lt (ge l (π i)) (ge l (π (j - 1))) with
            | true =>
              rw [hc] at hlf
              have hs := S.hSl (tb l (fun k => π (insI j i k))) j (j - 1) (by rw [tab_len]; omega) (by rw [tab_len]; omega)
              rw [tab_tab l _ _ (fun k hk => swI_lt (by omega) (by omega) hk), show tb l (fun k => π (insI j i (swI j (j - 1) k))) = tb l (fun k => π (insI (j - 1) i k)) from tab_congr l fun k _ => by rw [insI_step (by omega) hji], e1] at hs
              simp (disch := omega) only [hja', hlf, hs, nes, S.allL, S.bmv, S.bbk, S.bl, S.br, go_sem, evP_D, evD_guard, evD_cons, evD_zero, evD_nil]
              refine ⟨⟨j - 1, ⟨by omega, by omega, fun q h1 h2 => ?_⟩, by rw [e1]⟩, by omega⟩
              by_cases e : q = j - 1
              · rw [e]; exact .inl hc
              · exact hgt q (by omega) h2
            | false =>
              rw [hc] at hlf
              have hs := hend2 fun _ => by
                have h1 : ¬ S.lt (ge l (π i)) (ge l (π (j - 1))) = true := by rw [hc]; simp
                rw [hπi] at h1 ⊢
                exact Lt.asc (by omega) h1
              simp (disch := omega) only [hja', hlf, nes, S.allL, S.bmv, S.bbk, S.bl, S.br, go_sem, evP_D, evD_guard, evD_cons, evD_zero, evD_nil]
              exact ⟨⟨i + 1, _, ⟨by omega, .inl (by omega), hperm, hs⟩, by rw [e3]⟩, by rw [show ((i : Int) + 1).toNat = i + 1 by omega, Int.toNat_natCast]; omega⟩
          · have hja2 : j = a := by omega
            subst hja2
            have hja' : ¬ (j : Int) < j := by omega
            have hs := hend2 fun h => by omega
            simp (disch := omega) only [hja', S.br, go_sem, evP_D, evD_guard, evD_cons, evD_zero, evD_nil]
            exact ⟨⟨i + 1, _, ⟨by omega, .inl (by omega), hperm, hs⟩, by rw [e3]⟩, by rw [show ((i : Int) + 1).toNat = i + 1 by omega, Int.toNat_natCast]; omega⟩
      · have hlt' : ¬ ((i : Int) < b) := by omega
        have hfin : tb l π = srtL (fun x y => S.lt x y = true) l a b := by
          by_cases h : i = b
          · subst h; exact (srtL_eq hw hπ sπ).symm
          · rw [srtL_eq hw (π := π) (hπ.empty (by omega)) (fun p q _ _ _ => by omega)]
        rw [hfin]
        simp (disch := omega) only [hlt', go_sem, evP_D, evD_guard, evD_cons, evD_zero, evD_nil]
  · exact hend
end
end Go.Proofs.Ytdmkmbaaemhhhaa
