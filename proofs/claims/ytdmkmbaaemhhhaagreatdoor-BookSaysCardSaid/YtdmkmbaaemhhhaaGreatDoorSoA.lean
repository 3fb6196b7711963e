/-
  Sorting by a function that is handed in, run by the machine: what is asked of the comparison and of the swap; which element parts the row.
-/
import Derived.Test.YtdmkmbaaemhhhaaGreatDoorEvT
import Derived.Sort.AssemblyPlain
import Derived.Sort.LotD4
import Derived.Sort.LotD5
namespace Go.So
open Go Go.Ev Go.Sort
/-- contracts at a family of states, as a function for the table -/
theorem famM {P : Program} {J : World → Prop} {f : FuncId} {ι : Type} (k : ι → List Blk) (a : ι → List V) (r : ι → V × List Blk) (hi : ∀ i j, k i = k j → a i = a j → r i = r j) (h : ∀ i, MutAt P J f (k i) (a i) (r i).1 (r i).2) :
    ∃ F : List Blk → List V → Option (V × List Blk), (∀ i, F (k i) (a i) = some (r i)) ∧ Mu P J f F := by
  refine ⟨fun ks xs => open Classical in if h : ∃ i, k i = ks ∧ a i = xs then some (r h.choose) else none, fun i => ?_, fun ks xs r' ks' h' => ?_⟩
  · have hx : ∃ j, k j = k i ∧ a j = a i := ⟨i, rfl, rfl⟩
    simp only [dif_pos hx]
    rw [hi _ _ hx.choose_spec.1 hx.choose_spec.2]
  · by_cases hx : ∃ i, k i = ks ∧ a i = xs
    · simp only [dif_pos hx] at h'
      have e := Option.some.inj h'
      have := h hx.choose
      rw [e, hx.choose_spec.1, hx.choose_spec.2] at this
      exact this
    · simp only [dif_neg hx] at h'
      cases h'
/-- a row, a comparison that looks at it through a variable, a swap -/
structure So (P : Program) (J : World → Prop) (far : List FuncId) (α : Type) [Inhabited α] where
  enc : α → V
  inj : ∀ x y, enc x = enc y → x = y
  lone : ∀ x, V.lone (enc x) = true
  data : ∀ x, V.data (enc x) = true
  T : TypeId
  sz : Nat
  bv : V
  bmv : ∀ l, V.mv (1000000 :: 1000001 :: l) bv = some bv
  bbk : ∀ l, V.bk (1000000 :: 1000001 :: l) bv = some bv
  bl : V.lone bv = true
  br : ∀ l, V.refsIn (1000000 :: 1000001 :: l) bv = true
  lt : α → α → Bool
  lf : FuncId
  sf : FuncId
  hd : Value
  LF : List Blk → List V → Option (V × List Blk)
  SF : List Blk → List V → Option (V × List Blk)
  ne : (sf == lf) = false
  farL : ∀ c ∈ far, (c == lf) = false
  farS : ∀ c ∈ far, (c == sf) = false
  hLF : Mu P J lf LF
  hSF : Mu P J sf SF
  hL : ∀ (D : Array α) (i j : Nat), i < D.size → j < D.size → LF [.vec T sz (D.toList.map enc), .box bv] [.int .i64 i, .int .i64 j, .ptr 1000001 0] = some (.bool (lt D[i]! D[j]!), [.vec T sz (D.toList.map enc), .box bv])
  hS : ∀ (D : Array α) (i j : Nat), i < D.size → j < D.size → SF [.vec T sz (D.toList.map enc), .box bv] [.int .i64 i, .int .i64 j, .vec 1000000, .raw hd] = some (.tup [], [.vec T sz ((swp D i j).toList.map enc), .box bv])
section
variable {P : Program} {J : World → Prop} {far : List FuncId} {α : Type} [Inhabited α] (S : So P J far α)
def So.row (D : Array α) : Blk := .vec S.T S.sz (D.toList.map S.enc)
def So.ks (D : Array α) : List Blk := [.vec S.T S.sz (D.toList.map S.enc), .box S.bv]
def So.dV : V := .agg [.fn S.lf [.ptr 1000001 0], .fn S.sf [.vec 1000000, .raw S.hd]]
theorem So.all (D : Array α) : ((D.toList.map S.enc).all fun v => V.lone v && V.data v) = true := by
  rw [List.all_eq_true]
  intro v hv
  obtain ⟨x, _, rfl⟩ := List.mem_map.1 hv
  rw [S.lone, S.data]
  rfl
theorem So.rowLone (D : Array α) : Blk.lone (.vec S.T S.sz (D.toList.map S.enc)) = true := S.all D
theorem So.ksLone (D : Array α) : ∀ k ∈ S.ks D, Blk.lone k = true := by
  intro k hk
  simp only [So.ks, List.mem_cons, List.not_mem_nil, or_false] at hk
  rcases hk with rfl | rfl
  · exact S.all D
  · exact S.bl
theorem So.lone3 (D : Array α) (n : Int) : ∀ k ∈ [Blk.vec S.T S.sz (D.toList.map S.enc), .box S.bv, .box (.int .i64 n)], Blk.lone k = true := by
  intro k hk
  simp only [List.mem_cons, List.not_mem_nil, or_false] at hk
  rcases hk with rfl | rfl | rfl
  · exact S.all D
  · exact S.bl
  · rfl
omit [Inhabited α] in
theorem mapInj {β : Type} {f : α → β} (hf : ∀ x y, f x = f y → x = y) : ∀ {l l' : List α}, l.map f = l'.map f → l = l'
  | [], [], _ => rfl
  | [], _ :: _, h => by simp at h
  | _ :: _, [], h => by simp at h
  | x :: l, y :: l', h => by
    simp only [List.map_cons, List.cons.injEq] at h
    rw [hf _ _ h.1, mapInj hf h.2]
theorem So.ksInj {D D' : Array α} (h : S.ks D = S.ks D') : D = D' := by
  simp only [So.ks, List.cons.injEq, Blk.vec.injEq, true_and] at h
  have := mapInj S.inj h.1
  exact Array.toList_inj.1 this
end
end Go.So
namespace Go.Proofs.YtdmkmbaaemhhhaaGreatDoor
open Go Go.Ev Go.RowKit Go.Sort Go.So
set_option maxHeartbeats 4000000
set_option linter.unusedSimpArgs false
set_option linter.unusedVariables false

/-- the functions of the family -/
def famF : List FuncId := [211, 183, 182, 135, 132, 179, 133, 136, 134, 137, 138, 139, 92, 181, 180]
section
variable {J : World → Prop} (hJ : Stable J) {α : Type} [Inhabited α] (S : So Tryz.prog J famF α)
theorem succI (n : Nat) : ((n + 1 : Nat) : Int) = (n : Int) + 1 := rfl
include hJ in
set_option maxHeartbeats 2000000 in
theorem order2_mut (D : Array α) (a b s : Nat) (ha : a < D.size) (hb : b < D.size) (hs : s < 1000) :
    MutAt Tryz.prog J 211 [.vec S.T S.sz (D.toList.map S.enc), .box S.bv, .box (.int .i64 s)] [S.dV, .int .i64 a, .int .i64 b, .ptr 1000002 0]
      (.tup [.int .i64 (order2 S.lt D a b s).1, .int .i64 (order2 S.lt D a b s).2.1]) [.vec S.T S.sz (D.toList.map S.enc), .box S.bv, .box (.int .i64 (order2 S.lt D a b s).2.2)] := by
  have h := S.hL D b a hb ha
  have e1 := S.all D
  unfold So.dV
  refine evMut (l := []) (nv := nv0) (fz := fz0) (dr := dr211) (dd := dd211) (lam := []) (ms := ⟨[(S.lf, S.LF)], lnL [(14, [1000000, 1000001])], []⟩) trivial hJ trivial ⟨⟨S.hLF, trivial⟩, trivial⟩ Tryz.func211 rfl rfl (Nat.le_of_ble_eq_true rfl) (Nat.le_of_ble_eq_true rfl) drOk211 rfl rfl ?_ ?_
  rotate_left
  dsimp only [Tryz.f211, dr211, dd211, Option.getD_some]
  refine ev_start ?_
  · cases hc : S.lt D[b]! D[a]! with
    | true =>
      rw [hc] at h
      have e : order2 S.lt D a b s = (b, a, s + 1) := by unfold order2; rw [hc]; rfl
      rw [e]
      simp (disch := omega) only [h, e1, S.bmv, S.bbk, succI, go_sem, evP_D, evD_guard, evD_cons, evD_zero, evD_nil]
    | false =>
      rw [hc] at h
      have e : order2 S.lt D a b s = (a, b, s) := by unfold order2; rw [hc]; rfl
      rw [e]
      simp (disch := omega) only [h, e1, S.bmv, S.bbk, go_sem, evP_D, evD_guard, evD_cons, evD_zero, evD_nil]
  · exact S.lone3 D _
include hJ in
theorem order2x : ∃ F : List Blk → List V → Option (V × List Blk), (∀ (D : Array α) (a b s : Nat), a < D.size → b < D.size → s < 1000 →
    F [.vec S.T S.sz (D.toList.map S.enc), .box S.bv, .box (.int .i64 s)] [S.dV, .int .i64 a, .int .i64 b, .ptr 1000002 0] = some (.tup [.int .i64 (order2 S.lt D a b s).1, .int .i64 (order2 S.lt D a b s).2.1], [.vec S.T S.sz (D.toList.map S.enc), .box S.bv, .box (.int .i64 (order2 S.lt D a b s).2.2)])) ∧ Mu Tryz.prog J 211 F := by
  obtain ⟨F, h1, h2⟩ := famM (P := Tryz.prog) (J := J) (f := 211) (fun q : { q : Array α × Nat × Nat × Nat // q.2.1 < q.1.size ∧ q.2.2.1 < q.1.size ∧ q.2.2.2 < 1000 } => [Blk.vec S.T S.sz (q.1.1.toList.map S.enc), .box S.bv, .box (.int .i64 q.1.2.2.2)]) (fun q => [S.dV, .int .i64 q.1.2.1, .int .i64 q.1.2.2.1, .ptr 1000002 0])
    (fun q => (.tup [.int .i64 (order2 S.lt q.1.1 q.1.2.1 q.1.2.2.1 q.1.2.2.2).1, .int .i64 (order2 S.lt q.1.1 q.1.2.1 q.1.2.2.1 q.1.2.2.2).2.1], [.vec S.T S.sz (q.1.1.toList.map S.enc), .box S.bv, .box (.int .i64 (order2 S.lt q.1.1 q.1.2.1 q.1.2.2.1 q.1.2.2.2).2.2)])) (fun i j e1 e2 => by
      obtain ⟨⟨D, a, b, s⟩, _⟩ := i
      obtain ⟨⟨D', a', b', s'⟩, _⟩ := j
      simp only [List.cons.injEq, Blk.vec.injEq, Blk.box.injEq, V.int.injEq, true_and, and_true, Int.ofNat.injEq, Int.natCast_inj] at e1 e2
      obtain ⟨e1, rfl⟩ := e1
      obtain ⟨rfl, rfl⟩ := e2
      have := Array.toList_inj.1 (mapInj S.inj e1)
      subst this
      rfl) fun q => order2_mut hJ S q.1.1 q.1.2.1 q.1.2.2.1 q.1.2.2.2 q.2.1 q.2.2.1 q.2.2.2
  exact ⟨F, fun D a b s h1' h2' h3' => h1 ⟨(D, a, b, s), h1', h2', h3'⟩, h2⟩
theorem order2_lt {lt : α → α → Bool} {D : Array α} {a b s n : Nat} (ha : a < n) (hb : b < n) : (order2 lt D a b s).1 < n ∧ (order2 lt D a b s).2.1 < n := by
  rcases order2_mem lt D a b s with ⟨h1, h2⟩ | ⟨h1, h2⟩ <;> rw [h1, h2] <;> exact ⟨by assumption, by assumption⟩
include hJ in
set_option maxHeartbeats 4000000 in
theorem median_mut (D : Array α) (a b c s : Nat) (ha : a < D.size) (hb : b < D.size) (hc : c < D.size) (hs : s < 900) :
    MutAt Tryz.prog J 183 [.vec S.T S.sz (D.toList.map S.enc), .box S.bv, .box (.int .i64 s)] [S.dV, .int .i64 a, .int .i64 b, .int .i64 c, .ptr 1000002 0]
      (.int .i64 (median S.lt D a b c s).1) [.vec S.T S.sz (D.toList.map S.enc), .box S.bv, .box (.int .i64 (median S.lt D a b c s).2)] := by
  obtain ⟨F, hF, sF⟩ := order2x hJ S
  have e1 := S.all D
  have n1 := order2_lt (lt := S.lt) (D := D) (s := s) ha hb
  have c1 := order2_count S.lt D a b s
  have f1 := hF D a b s ha hb (by omega)
  have n2 := order2_lt (lt := S.lt) (D := D) (s := (order2 S.lt D a b s).2.2) n1.2 hc
  have c2 := order2_count S.lt D (order2 S.lt D a b s).2.1 c (order2 S.lt D a b s).2.2
  have f2 := hF D (order2 S.lt D a b s).2.1 c (order2 S.lt D a b s).2.2 n1.2 hc (by omega)
  have f3 := hF D (order2 S.lt D a b s).1 (order2 S.lt D (order2 S.lt D a b s).2.1 c (order2 S.lt D a b s).2.2).1 (order2 S.lt D (order2 S.lt D a b s).2.1 c (order2 S.lt D a b s).2.2).2.2 n1.1 n2.1 (by omega)
  have em : median S.lt D a b c s = ((order2 S.lt D (order2 S.lt D a b s).1 (order2 S.lt D (order2 S.lt D a b s).2.1 c (order2 S.lt D a b s).2.2).1 (order2 S.lt D (order2 S.lt D a b s).2.1 c (order2 S.lt D a b s).2.2).2.2).2.1, (order2 S.lt D (order2 S.lt D a b s).1 (order2 S.lt D (order2 S.lt D a b s).2.1 c (order2 S.lt D a b s).2.2).1 (order2 S.lt D (order2 S.lt D a b s).2.1 c (order2 S.lt D a b s).2.2).2.2).2.2) := rfl
  rw [em]
  generalize order2 S.lt D a b s = r1 at *
  generalize order2 S.lt D r1.2.1 c r1.2.2 = r2 at *
  generalize order2 S.lt D r1.1 r2.1 r2.2.2 = r3 at *
  unfold So.dV at f1 f2 f3 ⊢
  refine evMut (l := []) (nv := nv0) (fz := fz0) (dr := dr183) (dd := dd183) (lam := []) (ms := ⟨[(211, F)], lnL [(16, [1000000, 1000001, 1000002]), (24, [1000000, 1000001, 1000002]), (32, [1000000, 1000001, 1000002])], []⟩) trivial hJ trivial ⟨⟨sF, trivial⟩, trivial⟩ Tryz.func183 rfl rfl (Nat.le_of_ble_eq_true rfl) (Nat.le_of_ble_eq_true rfl) drOk183 rfl rfl ?_ ?_
  rotate_left
  dsimp only [Tryz.f183, dr183, dd183, Option.getD_some]
  refine ev_start ?_
  · simp (disch := omega) only [f1, f2, f3, e1, S.bmv, S.bbk, go_sem, evP_D, evD_guard, evD_cons, evD_zero, evD_nil]
  · exact S.lone3 D _
end
end Go.Proofs.YtdmkmbaaemhhhaaGreatDoor
