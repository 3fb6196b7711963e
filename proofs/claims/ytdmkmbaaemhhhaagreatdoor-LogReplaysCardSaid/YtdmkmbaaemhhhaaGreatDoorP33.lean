/-
  Steps of the proof of LogReplays: SoA SoB.
-/
import Derived.Test.YtdmkmbaaemhhhaaGreatDoorP10
import Derived.Sort.AssemblyPlain
import Derived.Sort.LotD4
import Derived.Sort.LotD5
set_option linter.unusedVariables false
set_option linter.unusedSimpArgs false
section
namespace Go.So
open Go Go.Ev Go.Sort
theorem famM {P : Program} {J : World → Prop} {f : FuncId} {ι : Type} (k : ι → List Ev.Blk) (a : ι → List V) (r : ι → V × List Ev.Blk) (hi : ∀ i j, k i = k j → a i = a j → r i = r j) (h : ∀ i, MutAt P J f (k i) (a i) (r i).1 (r i).2) :
  ∃ F : List Ev.Blk → List V → Option (V × List Ev.Blk), (∀ i, F (k i) (a i) = some (r i)) ∧ Mu P J f F := by
 refine ⟨fun ks xs => open Classical in if h : ∃ i, k i = ks ∧ a i = xs then some (r h.choose) else none, fun i => ?_, fun ks xs r' ks' h' => ?_⟩
 ·have hx : ∃ j, k j = k i ∧ a j = a i := ⟨i, rfl, rfl⟩
  simp only [dif_pos hx]
  rw [hi _ _ hx.choose_spec.1 hx.choose_spec.2]
 ·by_cases hx : ∃ i, k i = ks ∧ a i = xs
  ·simp only [dif_pos hx] at h'
   have e := Option.some.inj h'
   have := h hx.choose
   rw [e, hx.choose_spec.1, hx.choose_spec.2] at this
   exact this
  ·simp only [dif_neg hx] at h'
   cases h'
structure So (P : Program) (J : World → Prop) (far : List FuncId) (α : Type) [Inhabited α] where
 enc : α → V
 inj : ∀ x y, enc x = enc y → x = y
 lone : ∀ x, V.lone (enc x) = true
 data : ∀ x, V.data (enc x) = true
 T : TypeId
 sz : Nat
 bv : V
 bmv : ∀ l, V.mv (1000000 :: 1000001 :: l) bv = some bv
 bbk : ∀ l, V.bk (1000000 :: 1000001 :: l) bv = some bv
 bl : V.lone bv = true
 br : ∀ l, V.refsIn (1000000 :: 1000001 :: l) bv = true
 lt : α → α → Bool
 lf : FuncId
 sf : FuncId
 hd : Value
 LF : List Ev.Blk → List V → Option (V × List Ev.Blk)
 SF : List Ev.Blk → List V → Option (V × List Ev.Blk)
 ne : (sf == lf) = false
 farL : ∀ c ∈ far, (c == lf) = false
 farS : ∀ c ∈ far, (c == sf) = false
 hLF : Mu P J lf LF
 hSF : Mu P J sf SF
 hL : ∀ (D : Array α) (i j : Nat), i < D.size → j < D.size → LF [.vec T sz (D.toList.map enc), .box bv] [.int .i64 i, .int .i64 j, .ptr 1000001 0] = some (.bool (lt D[i]! D[j]!), [.vec T sz (D.toList.map enc), .box bv])
 hS : ∀ (D : Array α) (i j : Nat), i < D.size → j < D.size → SF [.vec T sz (D.toList.map enc), .box bv] [.int .i64 i, .int .i64 j, .vec 1000000, .raw hd] = some (.tup [], [.vec T sz ((swp D i j).toList.map enc), .box bv])
section
variable {P : Program} {J : World → Prop} {far : List FuncId} {α : Type} [Inhabited α] (S : So P J far α)
def So.row (D : Array α) : Blk := .vec S.T S.sz (D.toList.map S.enc)
def So.ks (D : Array α) : List Ev.Blk := [.vec S.T S.sz (D.toList.map S.enc), .box S.bv]
def So.dV : V := .agg [.fn S.lf [.ptr 1000001 0], .fn S.sf [.vec 1000000, .raw S.hd]]
theorem So.all (D : Array α) : ((D.toList.map S.enc).all fun v => V.lone v && V.data v) = true := by
 rw [List.all_eq_true]
 intro v hv
 obtain ⟨x, _, rfl⟩ := List.mem_map.1 hv
 rw [S.lone, S.data]
 rfl
theorem So.ksLone (D : Array α) : ∀ k ∈ S.ks D, Blk.lone k = true := by
 intro k hk
 simp only [So.ks, List.mem_cons, List.not_mem_nil, or_false] at hk
 rcases hk with rfl | rfl
 ·exact S.all D
 ·exact S.bl
theorem So.lone3 (D : Array α) (n : Int) : ∀ k ∈ [Blk.vec S.T S.sz (D.toList.map S.enc), .box S.bv, .box (.int .i64 n)], Blk.lone k = true := by
 intro k hk
 simp only [List.mem_cons, List.not_mem_nil, or_false] at hk
 rcases hk with rfl | rfl | rfl
 ·exact S.all D
 ·exact S.bl
 ·rfl
omit [Inhabited α] in
theorem mapInj {β : Type} {f : α → β} (hf : ∀ x y, f x = f y → x = y) : ∀ {l l' : List α}, l.map f = l'.map f → l = l'
 | [], [], _ => rfl
 | [], _ :: _, h => by simp at h
 | _ :: _, [], h => by simp at h
 | x :: l, y :: l', h => by
  simp only [List.map_cons, List.cons.injEq] at h
  rw [hf _ _ h.1, mapInj hf h.2]
theorem So.ksInj {D D' : Array α} (h : S.ks D = S.ks D') : D = D' := by
 simp only [So.ks, List.cons.injEq, Blk.vec.injEq, true_and] at h
 have := mapInj S.inj h.1
 exact Array.toList_inj.1 this
end
end Go.So
namespace Go.Proofs.YtdmkmbaaemhhhaaGreatDoor
open Go Go.Ev Go.RowKit Go.Sort Go.So
set_option maxHeartbeats 4000000
def famF : List FuncId := [211, 183, 182, 135, 132, 179, 133, 136, 134, 137, 138, 139, 92, 181, 180]
section
variable {J : World → Prop} (hJ : Stable J) {α : Type} [Inhabited α] (S : So Tryz.prog J famF α)
theorem succI (n : Nat) : ((n + 1 : Nat) : Int) = (n : Int) + 1 := rfl
include hJ in
set_option maxHeartbeats 2000000 in
theorem order2_mut (D : Array α) (a b s : Nat) (ha : a < D.size) (hb : b < D.size) (hs : s < 1000) :
  MutAt Tryz.prog J 211 [.vec S.T S.sz (D.toList.map S.enc), .box S.bv, .box (.int .i64 s)] [S.dV, .int .i64 a, .int .i64 b, .ptr 1000002 0]
   (.tup [.int .i64 (order2 S.lt D a b s).1, .int .i64 (order2 S.lt D a b s).2.1]) [.vec S.T S.sz (D.toList.map S.enc), .box S.bv, .box (.int .i64 (order2 S.lt D a b s).2.2)] := by
 have h := S.hL D b a hb ha
 have e1 := S.all D
 unfold So.dV
 refine evMut (l := []) (nv := nv0) (fz := fz0) (dr := dr211) (dd := dd211) (lam := []) (ms := ⟨[(S.lf, S.LF)], lnL [(14, [1000000, 1000001])], []⟩) trivial hJ trivial ⟨⟨S.hLF, trivial⟩, trivial⟩ Tryz.func211 rfl rfl (Nat.le_of_ble_eq_true rfl) (Nat.le_of_ble_eq_true rfl) drOk211 rfl rfl ?_ ?_
 rotate_left
 dsimp only [Tryz.f211, dr211, dd211, Option.getD_some]
 refine ev_start ?_
 ·cases hc : S.lt D[b]! D[a]! with
  | true =>
   rw [hc] at h
   have e : order2 S.lt D a b s = (b, a, s + 1) := by unfold order2; rw [hc]; rfl
   rw [e]
   simp (disch := omega) only [h, e1, S.bmv, S.bbk, succI, go_sem, evP_D, evD_guard, evD_cons, evD_zero, evD_nil]
  | false =>
   rw [hc] at h
   have e : order2 S.lt D a b s = (a, b, s) := by unfold order2; rw [hc]; rfl
   rw [e]
   simp (disch := omega) only [h, e1, S.bmv, S.bbk, go_sem, evP_D, evD_guard, evD_cons, evD_zero, evD_nil]
 ·exact S.lone3 D _
include hJ in
theorem order2x : ∃ F : List Ev.Blk → List V → Option (V × List Ev.Blk), (∀ (D : Array α) (a b s : Nat), a < D.size → b < D.size → s < 1000 →
  F [.vec S.T S.sz (D.toList.map S.enc), .box S.bv, .box (.int .i64 s)] [S.dV, .int .i64 a, .int .i64 b, .ptr 1000002 0] = some (.tup [.int .i64 (order2 S.lt D a b s).1, .int .i64 (order2 S.lt D a b s).2.1], [.vec S.T S.sz (D.toList.map S.enc), .box S.bv, .box (.int .i64 (order2 S.lt D a b s).2.2)])) ∧ Mu Tryz.prog J 211 F := by
 obtain ⟨F, h1, h2⟩ := famM (P := Tryz.prog) (J := J) (f := 211) (fun q : { q : Array α × Nat × Nat × Nat // q.2.1 < q.1.size ∧ q.2.2.1 < q.1.size ∧ q.2.2.2 < 1000 } => [Blk.vec S.T S.sz (q.1.1.toList.map S.enc), .box S.bv, .box (.int .i64 q.1.2.2.2)]) (fun q => [S.dV, .int .i64 q.1.2.1, .int .i64 q.1.2.2.1, .ptr 1000002 0])
  (fun q => (.tup [.int .i64 (order2 S.lt q.1.1 q.1.2.1 q.1.2.2.1 q.1.2.2.2).1, .int .i64 (order2 S.lt q.1.1 q.1.2.1 q.1.2.2.1 q.1.2.2.2).2.1], [.vec S.T S.sz (q.1.1.toList.map S.enc), .box S.bv, .box (.int .i64 (order2 S.lt q.1.1 q.1.2.1 q.1.2.2.1 q.1.2.2.2).2.2)])) (fun i j e1 e2 => by
   obtain ⟨⟨D, a, b, s⟩, _⟩ := i
   obtain ⟨⟨D', a', b', s'⟩, _⟩ := j
   simp only [List.cons.injEq, Blk.vec.injEq, Blk.box.injEq, V.int.injEq, true_and, and_true, Int.ofNat.injEq, Int.natCast_inj] at e1 e2
   obtain ⟨e1, rfl⟩ := e1
   obtain ⟨rfl, rfl⟩ := e2
   have := Array.toList_inj.1 (mapInj S.inj e1)
   subst this
   rfl) fun q => order2_mut hJ S q.1.1 q.1.2.1 q.1.2.2.1 q.1.2.2.2 q.2.1 q.2.2.1 q.2.2.2
 exact ⟨F, fun D a b s h1' h2' h3' => h1 ⟨(D, a, b, s), h1', h2', h3'⟩, h2⟩
theorem order2_lt {lt : α → α → Bool} {D : Array α} {a b s n : Nat} (ha : a < n) (hb : b < n) : (order2 lt D a b s).1 < n ∧ (order2 lt D a b s).2.1 < n := by
 rcases order2_mem lt D a b s with ⟨h1, h2⟩ | ⟨h1, h2⟩ <;> rw [h1, h2] <;> exact ⟨by assumption, by assumption⟩
include hJ in
set_option maxHeartbeats 4000000 in
theorem median_mut (D : Array α) (a b c s : Nat) (ha : a < D.size) (hb : b < D.size) (hc : c < D.size) (hs : s < 900) :
  MutAt Tryz.prog J 183 [.vec S.T S.sz (D.toList.map S.enc), .box S.bv, .box (.int .i64 s)] [S.dV, .int .i64 a, .int .i64 b, .int .i64 c, .ptr 1000002 0]
   (.int .i64 (median S.lt D a b c s).1) [.vec S.T S.sz (D.toList.map S.enc), .box S.bv, .box (.int .i64 (median S.lt D a b c s).2)] := by
 obtain ⟨F, hF, sF⟩ := order2x hJ S
 have e1 := S.all D
 have n1 := order2_lt (lt := S.lt) (D := D) (s := s) ha hb
 have c1 := order2_count S.lt D a b s
 have f1 := hF D a b s ha hb (by omega)
 have n2 := order2_lt (lt := S.lt) (D := D) (s := (order2 S.lt D a b s).2.2) n1.2 hc
 have c2 := order2_count S.lt D (order2 S.lt D a b s).2.1 c (order2 S.lt D a b s).2.2
 have f2 := hF D (order2 S.lt D a b s).2.1 c (order2 S.lt D a b s).2.2 n1.2 hc (by omega)
 have f3 := hF D (order2 S.lt D a b s).1 (order2 S.lt D (order2 S.lt D a b s).2.1 c (order2 S.lt D a b s).2.2).1 (order2 S.lt D (order2 S.lt D a b s).2.1 c (order2 S.lt D a b s).2.2).2.2 n1.1 n2.1 (by omega)
 have em : median S.lt D a b c s = ((order2 S.lt D (order2 S.lt D a b s).1 (order2 S.lt D (order2 S.lt D a b s).2.1 c (order2 S.lt D a b s).2.2).1 (order2 S.lt D (order2 S.lt D a b s).2.1 c (order2 S.lt D a b s).2.2).2.2).2.1, (order2 S.lt D (order2 S.lt D a b s).1 (order2 S.lt D (order2 S.lt D a b s).2.1 c (order2 S.lt D a b s).2.2).1 (order2 S.lt D (order2 S.lt D a b s).2.1 c (order2 S.lt D a b s).2.2).2.2).2.2) := rfl
 rw [em]
 generalize order2 S.lt D a b s = r1 at *
 generalize order2 S.lt D r1.2.1 c r1.2.2 = r2 at *
 generalize order2 S.lt D r1.1 r2.1 r2.2.2 = r3 at *
 unfold So.dV at f1 f2 f3 ⊢
 refine evMut (l := []) (nv := nv0) (fz := fz0) (dr := dr183) (dd := dd183) (lam := []) (ms := ⟨[(211, F)], lnL [(16, [1000000, 1000001, 1000002]), (24, [1000000, 1000001, 1000002]), (32, [1000000, 1000001, 1000002])], []⟩) trivial hJ trivial ⟨⟨sF, trivial⟩, trivial⟩ Tryz.func183 rfl rfl (Nat.le_of_ble_eq_true rfl) (Nat.le_of_ble_eq_true rfl) drOk183 rfl rfl ?_ ?_
 rotate_left
 dsimp only [Tryz.f183, dr183, dd183, Option.getD_some]
 refine ev_start ?_
 ·simp (disch := omega) only [f1, f2, f3, e1, S.bmv, S.bbk, go_sem, evP_D, evD_guard, evD_cons, evD_zero, evD_nil]
 ·exact S.lone3 D _
end
end Go.Proofs.YtdmkmbaaemhhhaaGreatDoor
end
section
namespace Go.So
open Go Go.Ev Go.Sort
section
variable {P : Program} {J : World → Prop} {far : List FuncId} {α : Type} [Inhabited α] (S : So P J far α)
theorem famS {f : FuncId} {ι : Type} (g : ι → Array α × List Nat) (hg : ∀ i j, g i = g j → i = j) (r : ι → V × Array α) (h : ∀ i, MutAt P J f (S.ks (g i).1) (S.dV :: (g i).2.map fun n : Nat => V.int .i64 (n : Int)) (r i).1 (S.ks (r i).2)) :
  ∃ F : List Ev.Blk → List V → Option (V × List Ev.Blk), (∀ i, F (S.ks (g i).1) (S.dV :: (g i).2.map fun n : Nat => V.int .i64 (n : Int)) = some ((r i).1, S.ks (r i).2)) ∧ Mu P J f F := by
 refine famM (fun i => S.ks (g i).1) (fun i => S.dV :: (g i).2.map fun n : Nat => V.int .i64 (n : Int)) (fun i => ((r i).1, S.ks (r i).2)) (fun i j h1 h2 => ?_) h
 have e1 := S.ksInj h1
 simp only [List.cons.injEq, true_and] at h2
 have e2 := mapInj (f := fun n : Nat => V.int .i64 (n : Int)) (fun x y (e : V.int .i64 (x : Int) = V.int .i64 (y : Int)) => by simp only [V.int.injEq, true_and, Int.natCast_inj] at e; exact e) h2
 rw [hg i j (Prod.ext e1 e2)]
end
section
variable {α : Type} [Inhabited α] (lt : α → α → Bool)
theorem insInner_go {a j : Nat} {d : Array α} (h0 : a < j) (h : lt d[j]! d[j - 1]! = true) : insInner lt a j d = insInner lt a (j - 1) (swp d j (j - 1)) := by
 obtain ⟨k, rfl⟩ : ∃ k, j = k + 1 := ⟨j - 1, by omega⟩
 rw [Nat.add_sub_cancel] at h ⊢
 rw [insInner, if_pos (by simp only [Bool.and_eq_true, decide_eq_true_eq]; exact ⟨h0, h⟩)]
theorem insInner_stop {a j : Nat} {d : Array α} (h : ¬ a < j ∨ lt d[j]! d[j - 1]! = false) : insInner lt a j d = d := by
 cases j with
 | zero => rfl
 | succ k =>
  rw [Nat.add_sub_cancel] at h
  rw [insInner, if_neg]
  simp only [Bool.and_eq_true, decide_eq_true_eq, not_and, Bool.not_eq_true]
  intro h0
  rcases h with h | h
  ·exact absurd h0 h
  ·exact h
theorem insOuter_go {a b i : Nat} {d : Array α} (h : i < b) : insOuter lt a b i d = insOuter lt a b (i + 1) (insInner lt a i d) := by rw [insOuter, if_pos h]
theorem insOuter_stop {a b i : Nat} {d : Array α} (h : ¬ i < b) : insOuter lt a b i d = d := by rw [insOuter, if_neg h]
end
end Go.So
namespace Go.Proofs.YtdmkmbaaemhhhaaGreatDoor
open Go Go.Ev Go.RowKit Go.Sort Go.So
set_option maxHeartbeats 4000000
section
variable {J : World → Prop} (hJ : Stable J) {α : Type} [Inhabited α] (S : So Tryz.prog J famF α)
theorem subI {n : Nat} (h : 0 < n) : ((n - 1 : Nat) : Int) = (n : Int) - 1 := by omega
include hJ in
set_option maxHeartbeats 4000000 in
theorem ins_mut (D : Array α) (a b : Nat) (hab : a ≤ b) (hb : b ≤ D.size) (hsz : D.size < 4611686018427387904) :
  MutAt Tryz.prog J 132 (S.ks D) [S.dV, .int .i64 a, .int .i64 b] (.tup []) (S.ks (insertionSort S.lt D a b)) := by
 have hend := S.ksLone (insertionSort S.lt D a b)
 have nes := S.ne
 unfold So.dV
 unfold So.ks insertionSort at hend ⊢
 refine evMut (l := []) (nv := nv0) (fz := fz0) (dr := dr132) (dd := dd132) (lam := []) (ms := ⟨[(S.lf, S.LF), (S.sf, S.SF)], lnL [(25, [1000000, 1000001]), (34, [1000000, 1000001])], []⟩) trivial hJ trivial ⟨⟨S.hLF, S.hSF, trivial⟩, trivial⟩ Tryz.func132 rfl rfl (Nat.le_of_ble_eq_true rfl) (Nat.le_of_ble_eq_true rfl) drOk132 rfl rfl ?_ ?_
 rotate_left
 dsimp only [Tryz.f132, dr132, dd132, Option.getD_some]
 refine ev_start ?_
 ·simp (disch := omega) only [go_sem, evP_D, evD_guard, evD_cons, evD_zero, evD_nil]
  refine evQ_loop [1, 2, 3, 6] [1000000, 1000001, 24] (fun σ => ∃ (i : Nat) (E : Array α), (a < i ∧ i ≤ b + 1 ∧ E.size = D.size ∧ insOuter S.lt a b i E = insOuter S.lt a b (a + 1) D) ∧ σ = ⟨[(1, .int .i64 a), (2, .int .i64 b), (3, .ptr 24 0), (6, .int .i64 i)], [(1000000, .vec S.T S.sz (E.toList.map S.enc)), (1000001, .box S.bv), (24, .box (.agg [.fn S.lf [.ptr 1000001 0], .fn S.sf [.vec 1000000, .raw S.hd]]))]⟩)
   (fun σ => b + 1 - (match Ev.look 6 σ.env with | some (.int _ n) => n.toNat | _ => 0)) ?_ ?_
  ·simp only [S.br, go_sem, evP_D, evD_guard, evD_cons, evD_zero, evD_nil]
   exact ⟨a + 1, D, ⟨by omega, by omega, rfl, rfl⟩, rfl⟩
  ·rintro σ ⟨i, E, ⟨hai, hib, hE, hO⟩, rfl⟩
   by_cases hlt : i < b
   case neg =>
    have hlt' : ¬ (i : Int) < b := by omega
    rw [insOuter_stop _ hlt] at hO
    subst hO
    simp (disch := omega) only [hlt', go_sem, evP_D, evD_guard, evD_cons, evD_zero, evD_nil]
   have hlt' : (i : Int) < b := by omega
   simp (disch := omega) only [hlt', S.br, go_sem, evP_D, evD_guard, evD_cons, evD_zero, evD_nil]
   refine evQ_loop [1, 2, 3, 6, 7] [1000000, 1000001, 24] (fun σ => ∃ (j : Nat) (E2 : Array α), (a ≤ j ∧ j ≤ i ∧ E2.size = D.size ∧ insInner S.lt a j E2 = insInner S.lt a i E) ∧ σ = ⟨[(1, .int .i64 a), (2, .int .i64 b), (3, .ptr 24 0), (6, .int .i64 i), (7, .int .i64 j)], [(1000000, .vec S.T S.sz (E2.toList.map S.enc)), (1000001, .box S.bv), (24, .box (.agg [.fn S.lf [.ptr 1000001 0], .fn S.sf [.vec 1000000, .raw S.hd]]))]⟩)
    (fun σ => (match Ev.look 7 σ.env with | some (.int _ n) => n.toNat | _ => 0)) ?_ ?_
   ·simp only [S.br, go_sem, evP_D, evD_guard, evD_cons, evD_zero, evD_nil]
    exact ⟨i, E, ⟨by omega, Nat.le_refl _, hE, rfl⟩, rfl⟩
   ·rintro σ ⟨j, E2, ⟨haj, hji, hE2, hI⟩, rfl⟩
    have e1 := S.all E2
    have out : insInner S.lt a j E2 = E2 → ((∃ (i' : Nat) (E' : Array α), (a < i' ∧ i' ≤ b + 1 ∧ E'.size = D.size ∧ insOuter S.lt a b i' E' = insOuter S.lt a b (a + 1) D) ∧
      (⟨[(1, .int .i64 a), (2, .int .i64 b), (3, .ptr 24 0), (6, .int .i64 ((i : Int) + 1))], [(1000000, .vec S.T S.sz (E2.toList.map S.enc)), (1000001, .box S.bv), (24, .box (.agg [.fn S.lf [.ptr 1000001 0], .fn S.sf [.vec 1000000, .raw S.hd]]))]⟩ : St) =
      ⟨[(1, .int .i64 a), (2, .int .i64 b), (3, .ptr 24 0), (6, .int .i64 i')], [(1000000, .vec S.T S.sz (E'.toList.map S.enc)), (1000001, .box S.bv), (24, .box (.agg [.fn S.lf [.ptr 1000001 0], .fn S.sf [.vec 1000000, .raw S.hd]]))]⟩) ∧ b + 1 - ((i : Int) + 1).toNat < b + 1 - (i : Int).toNat) := fun he =>
     ⟨⟨i + 1, E2, ⟨by omega, by omega, hE2, by rw [← hO, insOuter_go _ hlt, ← hI, he]⟩, rfl⟩, by omega⟩
    by_cases hja : a < j
    ·have hja' : (a : Int) < j := by omega
     have hl := S.hL E2 j (j - 1) (by omega) (by omega)
     rw [subI (by omega)] at hl
     cases hv : S.lt E2[j]! E2[j - 1]! with
     | true =>
      have hs := S.hS E2 j (j - 1) (by omega) (by omega)
      rw [subI (by omega)] at hs
      rw [hv] at hl
      simp (disch := omega) only [hja', hl, hs, e1, nes, S.all, S.bmv, S.bbk, S.br, go_sem, evP_D, evD_guard, evD_cons, evD_zero, evD_nil]
      exact ⟨⟨j - 1, swp E2 j (j - 1), ⟨by omega, by omega, by rw [size_swp]; exact hE2, by rw [← hI, insInner_go _ hja hv]⟩, by rw [subI (by omega)]⟩, by omega⟩
     | false =>
      rw [hv] at hl
      simp (disch := omega) only [hja', hl, e1, nes, S.all, S.bmv, S.bbk, S.br, go_sem, evP_D, evD_guard, evD_cons, evD_zero, evD_nil]
      exact out (insInner_stop _ (.inr hv))
    ·have hja' : ¬ (a : Int) < j := by omega
     simp (disch := omega) only [hja', S.br, go_sem, evP_D, evD_guard, evD_cons, evD_zero, evD_nil]
     exact out (insInner_stop _ (.inl hja))
 ·exact hend
include hJ in
set_option maxHeartbeats 4000000 in
theorem rev_mut (D : Array α) (a b : Nat) (hab : a ≤ b) (h0 : 0 < b) (hb : b ≤ D.size) (hsz : D.size < 4611686018427387904) :
  MutAt Tryz.prog J 136 (S.ks D) [S.dV, .int .i64 a, .int .i64 b] (.tup []) (S.ks (reverseRange D a b)) := by
 have hend := S.ksLone (reverseRange D a b)
 have nes := S.ne
 unfold So.dV
 unfold So.ks reverseRange at hend ⊢
 refine evMut (l := []) (nv := nv0) (fz := fz0) (dr := dr136) (dd := dd136) (lam := []) (ms := ⟨[(S.sf, S.SF)], lnL [(18, [1000000, 1000001])], []⟩) trivial hJ trivial ⟨⟨S.hSF, trivial⟩, trivial⟩ Tryz.func136 rfl rfl (Nat.le_of_ble_eq_true rfl) (Nat.le_of_ble_eq_true rfl) drOk136 rfl rfl ?_ ?_
 rotate_left
 dsimp only [Tryz.f136, dr136, dd136, Option.getD_some]
 refine ev_start ?_
 ·simp (disch := omega) only [go_sem, evP_D, evD_guard, evD_cons, evD_zero, evD_nil]
  refine evQ_loop [3, 6, 7] [1000000, 1000001, 24] (fun σ => ∃ (i j : Nat) (E : Array α), (j < b ∧ i ≤ b ∧ E.size = D.size ∧ reverseLoop i j E = reverseLoop a (b - 1) D) ∧ σ = ⟨[(3, .ptr 24 0), (6, .int .i64 i), (7, .int .i64 j)], [(1000000, .vec S.T S.sz (E.toList.map S.enc)), (1000001, .box S.bv), (24, .box (.agg [.fn S.lf [.ptr 1000001 0], .fn S.sf [.vec 1000000, .raw S.hd]]))]⟩)
   (fun σ => (match Ev.look 7 σ.env with | some (.int _ n) => n.toNat | _ => 0)) ?_ ?_
  ·simp only [S.br, go_sem, evP_D, evD_guard, evD_cons, evD_zero, evD_nil]
   exact ⟨a, b - 1, D, ⟨by omega, by omega, rfl, rfl⟩, by rw [subI h0]⟩
  ·rintro σ ⟨i, j, E, ⟨hj, hi, hE, hO⟩, rfl⟩
   by_cases hlt : i < j
   case neg =>
    have hlt' : ¬ (i : Int) < j := by omega
    rw [reverseLoop, if_neg hlt] at hO
    subst hO
    simp (disch := omega) only [hlt', go_sem, evP_D, evD_guard, evD_cons, evD_zero, evD_nil]
   have hlt' : (i : Int) < j := by omega
   have hs := S.hS E i j (by omega) (by omega)
   rw [reverseLoop, if_pos hlt] at hO
   simp (disch := omega) only [hlt', hs, S.all, S.bmv, S.bbk, S.br, go_sem, evP_D, evD_guard, evD_cons, evD_zero, evD_nil]
   exact ⟨⟨i + 1, j - 1, swp E i j, ⟨by omega, by omega, by rw [size_swp]; exact hE, hO⟩, by rw [subI (by omega)]; rfl⟩, by omega⟩
 ·exact hend
end
end Go.Proofs.YtdmkmbaaemhhhaaGreatDoor
end
