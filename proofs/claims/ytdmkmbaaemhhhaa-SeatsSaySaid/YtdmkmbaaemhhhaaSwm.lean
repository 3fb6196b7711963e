/-
  The library's swap of two elements of a row that is lent; two blocks that are lent.
-/
import Derived.Test.YtdmkmbaaemhhhaaEvT
import Derived.Test.YtdmkmbaaemhhhaaShS
import Derived.Lib.ReflectliteSwap
namespace Go.Ev
open Go Go.RowKit Go.Lib
set_option linter.unusedVariables false
theorem putL_all {α : Type} {x l : List α} (h : x.length = l.length) : x = putL 0 x l := by
  unfold putL
  rw [Nat.zero_add, h, List.drop_length]
  simp
theorem shift_zero {α : Type} (n : Nat) (f : Nat → Option α) : shift n f n = f 0 := by
  unfold shift
  rw [if_pos (Nat.le_refl _), Nat.sub_self]
theorem shift_add {α : Type} (n m : Nat) (f : Nat → Option α) : shift n f (n + m) = f m := by
  unfold shift
  rw [if_pos (Nat.le_add_right n m), Nat.add_sub_cancel_left]
/-- one block of those that are lent is written -/
theorem upd_shift (n : Nat) (x y : Blk) (rest : List Blk) : upd (shift n fun j => (x :: rest)[j]?) n (some y) = shift n fun j => (y :: rest)[j]? := by
  funext b
  unfold upd
  by_cases hb : b = n
  · subst hb
    rw [if_pos rfl, shift_zero]
    rfl
  · rw [if_neg hb]
    by_cases h2 : n ≤ b
    · obtain ⟨m, rfl⟩ : ∃ m, b = n + m := ⟨b - n, by omega⟩
      rw [shift_add, shift_add]
      cases m with
      | zero => exact absurd rfl hb
      | succ m => rfl
    · unfold shift
      rw [if_neg h2, if_neg h2]
/-- THE SWAP that reflectlite hands back: two elements of a row that is lent change places -/
theorem swap_mut {P : Program} {J : World → Prop} {f : FuncId} {e : TypeId} {ie : TypeInfo} {T : TypeId} {sz : Nat}
    (hx : ∀ args W, (callFunc f args).run P W = ((Extern.ReflectliteSwapper.swap false args).run P W).andThen fun v w' => .ok (.value v) w')
    (hie : P.info? e = some ie) (hsz : ie.size = sz) (hagg : ∀ w, (isAgg e).run P w = .ok true w) (hpos : 0 < sz)
    (es : List V) (rest : List Blk) (i j : Nat) (ei ej : V) (hi : es[i]? = some ei) (hj : es[j]? = some ej) :
    MutAt P J f (.vec T sz es :: rest) [.int .i64 i, .int .i64 j, .vec 1000000, .raw (typeHandle P e)] (.tup []) (.vec T sz ((es.set i ej).set j ei) :: rest) := by
  intro w B ρ vals hJ hI hlen hrel
  match vals, hlen with
  | [u0, u1, u2, u3], _ =>
    have e0 := (hrel 0 _ u0 rfl rfl).int_inv
    have e1 := (hrel 1 _ u1 rfl rfl).int_inv
    have e2 := (hrel 2 _ u2 rfl rfl).vec_inv
    have e3 : u3 = typeHandle P e := by
      have := hrel 3 _ u3 rfl rfl
      cases this with
      | ro h => cases h; rfl
    subst e0; subst e1; subst e3
    clear hrel
    have hb0 : (shift 1000000 fun j => (Blk.vec T sz es :: rest)[j]?) 1000000 = some (.vec T sz es) := by rw [shift_zero]; rfl
    obtain ⟨sv, hsv, hp0, hown⟩ := hI.blk 1000000 (.vec T sz es) hb0
    rw [e2] at hsv
    obtain rfl := Option.some.inj hsv
    have hilt := (List.getElem?_eq_some_iff.1 hi).1
    have hjlt := (List.getElem?_eq_some_iff.1 hj).1
    rcases hown.form with ⟨ad, _, rfl⟩ | ⟨g, cap, vs, heq, hc, hle, hl, hs, h1, hrr, ho⟩
    · simp at hi
    subst heq
    have hog : own (.slice (some ⟨g, 0, none⟩) es.length cap) = some g := by simp [own, hc]
    obtain ⟨hBg, hgw⟩ := hown.own_ge hog
    obtain ⟨cur, hgg⟩ : ∃ cur, w.heap[g]? = some (.cells cur T (0, 0)) := by
      rcases ho.2 with ⟨hn, _⟩ | ⟨g', cap', cur, hq, _, hg', _⟩
      · cases hn
      · simp at hq
        obtain ⟨rfl, rfl⟩ := hq
        exact ⟨cur, hg'⟩
    have hfr : ∀ k, w.frozen? ⟨g, k, none⟩ = false := fun k => by simp [World.frozen?, hgg]
    obtain ⟨X, rX, sX, oX, cX⟩ := hown.elem hi
    obtain ⟨Y, rY, sY, oY, cY⟩ := hown.elem hj
    have hrun := run_swap_cells (P := P) false e ie hie hagg g 0 es.length cap i j hilt hjlt X.cells.toList Y.cells.toList (by rw [Array.length_toList, sX, hsz]) (by rw [Array.length_toList, sY, hsz]) oX oY w
      (fun k v h => by rw [Nat.zero_add, hsz]; exact cX k v h) (fun k v h => by rw [Nat.zero_add, hsz]; exact cY k v h) (fun k _ => hfr _) (fun k _ => hfr _)
    rw [Nat.zero_add, Nat.zero_add, hsz] at hrun
    -- first store
    have hok1 := write_ok (w' := w.setCells g (i * sz) Y.cells.toList) hI 1000000 _ e2 (size_setCells _ _ _ _) (fun k _ hk => heap_setCells_ne g k (by intro e; apply hk; rw [hog, e]) _ _ _)
    have own1 : OwnV (w.setCells g (i * sz) Y.cells.toList) (okAt (fun _ => False) B (shift 1000000 ρ) (w.setCells g (i * sz) Y.cells.toList)) B T sz (.slice (some ⟨g, 0, none⟩) es.length cap) (es.set i ej) :=
      hown.set (off := 0) (xv := Y) (ev' := Y) hpos hi cX sX hok1 (rY.mono hok1) (putL_all (by rw [Array.length_toList, Array.length_toList, sX, sY])) (by omega) oY
    have hw1 := hI.write (w' := w.setCells g (i * sz) Y.cells.toList) 1000000 _ (.vec T sz (es.set i ej)) e2 (size_setCells _ _ _ _) (fun k _ hk => heap_setCells_ne g k (by intro e; apply hk; rw [hog, e]) _ _ _) ⟨hpos, own1⟩
    -- second store
    have hj1 : ∃ e', (es.set i ej)[j]? = some e' := ⟨_, List.getElem?_eq_getElem (by simpa using hjlt)⟩
    obtain ⟨e', hj1⟩ := hj1
    obtain ⟨Z, rZ, sZ, oZ, cZ⟩ := own1.elem hj1
    generalize hW1 : w.setCells g (i * sz) Y.cells.toList = W1 at *
    have hs1 : W1.heap.size = w.heap.size := by rw [← hW1]; exact size_setCells _ _ _ _
    have hok2 := write_ok (w' := W1.setCells g (j * sz) X.cells.toList) hw1.1 1000000 _ e2 (size_setCells _ _ _ _) (fun k _ hk => heap_setCells_ne g k (by intro e; apply hk; rw [hog, e]) _ _ _)
    have own2 : OwnV (W1.setCells g (j * sz) X.cells.toList) (okAt (fun _ => False) B (shift 1000000 ρ) (W1.setCells g (j * sz) X.cells.toList)) B T sz (.slice (some ⟨g, 0, none⟩) es.length cap) ((es.set i ej).set j ei) :=
      own1.set (off := 0) (xv := X) (ev' := X) hpos hj1 cZ sZ hok2 ((rX.mono hok1).mono hok2) (putL_all (by rw [Array.length_toList, Array.length_toList, sX, sZ])) (by omega) oX
    have hw2 := hw1.1.write (w' := W1.setCells g (j * sz) X.cells.toList) 1000000 _ (.vec T sz ((es.set i ej).set j ei)) e2 (size_setCells _ _ _ _) (fun k _ hk => heap_setCells_ne g k (by intro e; apply hk; rw [hog, e]) _ _ _) ⟨hpos, own2⟩
    have hshift : upd (upd (shift 1000000 fun j => (Blk.vec T sz es :: rest)[j]?) 1000000 (some (Blk.vec T sz (es.set i ej)))) 1000000 (some (Blk.vec T sz ((es.set i ej).set j ei))) = shift 1000000 fun k => (Blk.vec T sz ((es.set i ej).set j ei) :: rest)[k]? := by
      rw [upd_shift, upd_shift]
    have hI2 := hw2.1
    rw [hshift] at hI2
    refine .inr ⟨.tuple #[], W1.setCells g (j * sz) X.cells.toList, ?_, .tuple #[], rfl, ?_, ⟨fun k hk hno => ?_, ?_⟩, hI2, .tup [] [] rfl (by simp)⟩
    · rw [hx]
      exact congrArg (fun r => Result.andThen r fun v w' => Result.ok (Next.value v) w') hrun
    · have b1 : Below B w W1 := by rw [← hW1]; exact below_setCells g hBg _ _ _
      exact b1.trans (below_setCells g hBg _ _ _)
    · have hkg : k ≠ g := fun e => hno 1000000 _ e2 (by rw [hog, e])
      rw [heap_setCells_ne g k hkg, ← hW1, heap_setCells_ne g k hkg]
    · rw [size_setCells, hs1]
      exact Nat.le_refl _
theorem below_grow {B : Nat} {w : World} (hB : B ≤ w.heap.size) (os : Array Obj) : Below B w (Sort.grow w os) :=
  ⟨rfl, rfl, rfl, by rw [Sort.size_grow]; omega, fun k hk => Sort.heap_grow_old w os (by omega)⟩
theorem range_heap {w w' : World} {g o : Nat} {cs : List Value} (h : w.rangeAt g o cs) (he : w'.heap[g]? = w.heap[g]?) : w'.rangeAt g o cs := rangeAt_same h he
theorem there_heap {w w' : World} {g o n : Nat} (h : w.there g o n) (he : w'.heap[g]? = w.heap[g]?) : w'.there g o n := fun j hj =>
  ⟨by rw [World.cell?_of_block (w := w) (a := ⟨g, o + j, none⟩) he]; exact (h j hj).1, by rw [World.frozen?_of_block (w := w) (a := ⟨g, o + j, none⟩) he]; exact (h j hj).2⟩
/-- the two blocks that are lent: a row, and the variable through which the comparison looks at it -/
def rho2 (sv : Value) (o : Nat) : Nat → Option Value
  | 0 => some sv
  | 1 => some (.pointer (some ⟨o, 0, none⟩))
  | _ => none
theorem rho2_inv {B : Nat} {w : World} {sv : Value} {o : Nat} {T : TypeId} {sz : Nat} {es : List V} {bv val : V} {vv : Value}
    (hB : B ≤ w.heap.size) (hpos : 0 < sz) (hown : OwnV w (okAt (fun _ => False) B (shift 1000000 (rho2 sv o)) w) B T sz sv es) (hBo : B ≤ o) (hlo : o < w.heap.size) (hne : own sv ≠ some o)
    (hbox : BlkOk w (okAt (fun _ => False) B (shift 1000000 (rho2 sv o)) w) (shift 1000000 (rho2 sv o)) B (.pointer (some ⟨o, 0, none⟩)) (.box bv)) :
    Inv (fun _ => False) B w (shift 1000000 (rho2 sv o)) (shift 1000000 fun j => [Blk.vec T sz es, .box bv][j]?) := by
  generalize 1000000 = N at *
  refine ⟨hB, fun b k hk => ?_, fun b v hv => ?_, fun b b' v v' g h1 h2 o1 o2 => ?_⟩
  · obtain ⟨hb, hk⟩ := shift_some hk
    obtain ⟨m, rfl⟩ : ∃ m, b = N + m := ⟨b - N, by omega⟩
    rw [Nat.add_sub_cancel_left] at hk
    match m, hk with
    | 0, hk => simp at hk; subst hk; exact ⟨sv, shift_add N 0 _, hpos, hown⟩
    | 1, hk => simp at hk; subst hk; exact ⟨_, shift_add N 1 _, hbox⟩
    | m + 2, hk => simp at hk
  · obtain ⟨hb, hv⟩ := shift_some hv
    obtain ⟨m, rfl⟩ : ∃ m, b = N + m := ⟨b - N, by omega⟩
    rw [Nat.add_sub_cancel_left] at hv
    rw [shift_add]
    match m, hv with
    | 0, hv => exact ⟨.vec T sz es, rfl⟩
    | 1, hv => exact ⟨.box bv, rfl⟩
    | m + 2, hv => simp [rho2] at hv
  · obtain ⟨hb, h1⟩ := shift_some h1
    obtain ⟨hb', h2⟩ := shift_some h2
    obtain ⟨m, rfl⟩ : ∃ m, b = N + m := ⟨b - N, by omega⟩
    obtain ⟨m', rfl⟩ : ∃ m, b' = N + m := ⟨b' - N, by omega⟩
    rw [Nat.add_sub_cancel_left] at h1 h2
    have no : ∀ v v', rho2 sv o 0 = some v → rho2 sv o 1 = some v' → own v = some g → own v' = some g → False := by
      intro v v' h1 h2 o1 o2
      simp only [rho2, Option.some.injEq] at h1 h2
      subst h1; subst h2
      simp [own] at o2
      subst o2
      exact hne o1
    match m, m', h1, h2 with
    | 0, 0, _, _ => rfl
    | 1, 1, _, _ => rfl
    | 0, 1, h1, h2 => exact (no _ _ h1 h2 o1 o2).elim
    | 1, 0, h1, h2 => exact (no _ _ h2 h1 o2 o1).elim
    | m + 2, _, h1, _ => simp [rho2] at h1
    | 0, m + 2, _, h2 => simp [rho2] at h2
    | 1, m + 2, _, h2 => simp [rho2] at h2
end Go.Ev
