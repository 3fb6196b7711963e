/-
  Sorting by a function that is handed in, run by the machine: what is asked of the comparison and of the swap; which element parts the row.
-/
import Derived.Test.YtdmkmbaaemhhhaaEvT
import Derived.Sort.AssemblyPlain
import Derived.Sort.LotD4
import Derived.Sort.LotD5
namespace Go.So
open Go Go.Ev Go.Sort
/-- contracts at a family of states, as a function for the table -/
theorem famM {P : Program} {J : World → Prop} {f : FuncId} {ι : Type} (k : ι → List Blk) (a : ι → List V) (r : ι → V × List Blk) (hi : ∀ i j, k i = k j → a i = a j → r i = r j) (h : ∀ i, MutAt P J f (k i) (a i) (r i).1 (r i).2) :
    ∃ F : List Blk → List V → Option (V × List Blk), (∀ i, F (k i) (a i) = some (r i)) ∧ Mu P J f F := by
  refine ⟨fun ks xs => open Classical in if h : ∃ i, k i = ks ∧ a i = xs then some (r h.choose) else none, fun i => ?_, fun ks xs r' ks' h' => ?_⟩
  · have hx : ∃ j, k j = k i ∧ a j = a i := ⟨i, rfl, rfl⟩
    simp only [dif_pos hx]
    rw [hi _ _ hx.choose_spec.1 hx.choose_spec.2]
  · by_cases hx : ∃ i, k i = ks ∧ a i = xs
    · simp only [dif_pos hx] at h'
      have e := Option.some.inj h'
      have := h hx.choose
      rw [e, hx.choose_spec.1, hx.choose_spec.2] at this
      exact this
    · simp only [dif_neg hx] at h'
      cases h'
/-- a row, a comparison that looks at it through a variable, a swap -/
structure So (P : Program) (J : World → Prop) (far : List FuncId) (α : Type) [Inhabited α] where
  enc : α → V
  inj : ∀ x y, enc x = enc y → x = y
  lone : ∀ x, V.lone (enc x) = true
  data : ∀ x, V.data (enc x) = true
  T : TypeId
  sz : Nat
  bv : V
  bmv : ∀ l, V.mv (1000000 :: 1000001 :: l) bv = some bv
  bbk : ∀ l, V.bk (1000000 :: 1000001 :: l) bv = some bv
  bl : V.lone bv = true
  br : ∀ l, V.refsIn (1000000 :: 1000001 :: l) bv = true
  lt : α → α → Bool
  lf : FuncId
  sf : FuncId
  hd : Value
  LF : List Blk → List V → Option (V × List Blk)
  SF : List Blk → List V → Option (V × List Blk)
  ne : (sf == lf) = false
  farL : ∀ c ∈ far, (c == lf) = false
  farS : ∀ c ∈ far, (c == sf) = false
  hLF : Mu P J lf LF
  hSF : Mu P J sf SF
  hL : ∀ (D : Array α) (i j : Nat), i < D.size → j < D.size → LF [.vec T sz (D.toList.map enc), .box bv] [.int .i64 i, .int .i64 j, .ptr 1000001 0] = some (.bool (lt D[i]! D[j]!), [.vec T sz (D.toList.map enc), .box bv])
  hS : ∀ (D : Array α) (i j : Nat), i < D.size → j < D.size → SF [.vec T sz (D.toList.map enc), .box bv] [.int .i64 i, .int .i64 j, .vec 1000000, .raw hd] = some (.tup [], [.vec T sz ((swp D i j).toList.map enc), .box bv])
section
variable {P : Program} {J : World → Prop} {far : List FuncId} {α : Type} [Inhabited α] (S : So P J far α)
def So.row (D : Array α) : Blk := .vec S.T S.sz (D.toList.map S.enc)
def So.ks (D : Array α) : List Blk := [.vec S.T S.sz (D.toList.map S.enc), .box S.bv]
def So.dV : V := .agg [.fn S.lf [.ptr 1000001 0], .fn S.sf [.vec 1000000, .raw S.hd]]
theorem So.all (D : Array α) : ((D.toList.map S.enc).all fun v => V.lone v && V.data v) = true := by
  rw [List.all_eq_true]
  intro v hv
  obtain ⟨x, _, rfl⟩ := List.mem_map.1 hv
  rw [S.lone, S.data]
  rfl
theorem So.rowLone (D : Array α) : Blk.lone (.vec S.T S.sz (D.toList.map S.enc)) = true := S.all D
theorem So.ksLone (D : Array α) : ∀ k ∈ S.ks D, Blk.lone k = true := by
  intro k hk
  simp only [So.ks, List.mem_cons, List.not_mem_nil, or_false] at hk
  rcases hk with rfl | rfl
  · exact S.all D
  · exact S.bl
theorem So.lone3 (D : Array α) (n : Int) : ∀ k ∈ [Blk.vec S.T S.sz (D.toList.map S.enc), .box S.bv, .box (.int .i64 n)], Blk.lone k = true := by
  intro k hk
  simp only [List.mem_cons, List.not_mem_nil, or_false] at hk
  rcases hk with rfl | rfl | rfl
  · exact S.all D
  · exact S.bl
  · rfl
omit [Inhabited α] in
theorem mapInj {β : Type} {f : α → β} (hf : ∀ x y, f x = f y → x = y) : ∀ {l l' : List α}, l.map f = l'.map f → l = l'
  | [], [], _ => rfl
  | [], _ :: _, h => by simp at h
  | _ :: _, [], h => by simp at h
  | x :: l, y :: l', h => by
    simp only [List.map_cons, List.cons.injEq] at h
    rw [hf _ _ h.1, mapInj hf h.2]
theorem So.ksInj {D D' : Array α} (h : S.ks D = S.ks D') : D = D' := by
  simp only [So.ks, List.cons.injEq, Blk.vec.injEq, true_and] at h
  have := mapInj S.inj h.1
  exact Array.toList_inj.1 this
end
end Go.So
namespace Go.Proofs.Ytdmkmbaaemhhhaa
open Go Go.Ev Go.RowKit Go.Sort Go.So
end Go.Proofs.Ytdmkmbaaemhhhaa
