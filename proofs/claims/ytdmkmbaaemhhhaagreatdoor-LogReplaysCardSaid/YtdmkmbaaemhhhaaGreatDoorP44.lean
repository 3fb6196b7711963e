/-
  The library's swap of two elements of a row that is lent; rows that are sorted have one form.
-/
import Derived.Test.YtdmkmbaaemhhhaaGreatDoorP10
import Derived.Test.YtdmkmbaaemhhhaaGreatDoorP21
import Derived.Lib.ReflectliteSwap
namespace Go.Ev
open Go Go.RowKit Go.Lib
theorem putL_all {α : Type} {x l : List α} (h : x.length = l.length) : x = putL 0 x l := by
 unfold putL
 rw [Nat.zero_add, h, List.drop_length]
 simp
theorem shift_zero {α : Type} (n : Nat) (f : Nat → Option α) : shift n f n = f 0 := by
 unfold shift
 rw [if_pos (Nat.le_refl _), Nat.sub_self]
theorem shift_add {α : Type} (n m : Nat) (f : Nat → Option α) : shift n f (n + m) = f m := by
 unfold shift
 rw [if_pos (Nat.le_add_right n m), Nat.add_sub_cancel_left]
theorem upd_shift (n : Nat) (x y : Blk) (rest : List Blk) : upd (shift n fun j => (x :: rest)[j]?) n (some y) = shift n fun j => (y :: rest)[j]? := by
 funext b
 unfold upd
 by_cases hb : b = n
 ·subst hb
  rw [if_pos rfl, shift_zero]
  rfl
 ·rw [if_neg hb]
  by_cases h2 : n ≤ b
  ·obtain ⟨m, rfl⟩ : ∃ m, b = n + m := ⟨b - n, by omega⟩
   rw [shift_add, shift_add]
   cases m with
   | zero => exact absurd rfl hb
   | succ m => rfl
  ·unfold shift
   rw [if_neg h2, if_neg h2]
theorem swap_mut {P : Program} {J : World → Prop} {f : FuncId} {e : TypeId} {ie : TypeInfo} {T : TypeId} {sz : Nat}
  (hx : ∀ args W, (callFunc f args).run P W = ((Extern.ReflectliteSwapper.swap false args).run P W).andThen fun v w' => .ok (.value v) w')
  (hie : P.info? e = some ie) (hsz : ie.size = sz) (hagg : ∀ w, (isAgg e).run P w = .ok true w) (hpos : 0 < sz)
  (es : List V) (rest : List Blk) (i j : Nat) (ei ej : V) (hi : es[i]? = some ei) (hj : es[j]? = some ej) :
  MutAt P J f (.vec T sz es :: rest) [.int .i64 i, .int .i64 j, .vec 1000000, .raw (typeHandle P e)] (.tup []) (.vec T sz ((es.set i ej).set j ei) :: rest) := by
 intro w B ρ vals hJ hI hlen hrel
 match vals, hlen with
 | [u0, u1, u2, u3], _ =>
  have e0 := (hrel 0 _ u0 rfl rfl).int_inv
  have e1 := (hrel 1 _ u1 rfl rfl).int_inv
  have e2 := (hrel 2 _ u2 rfl rfl).vec_inv
  have e3 : u3 = typeHandle P e := by
   have := hrel 3 _ u3 rfl rfl
   cases this with
   | ro h => cases h; rfl
  subst e0; subst e1; subst e3
  clear hrel
  have hb0 : (shift 1000000 fun j => (Blk.vec T sz es :: rest)[j]?) 1000000 = some (.vec T sz es) := by rw [shift_zero]; rfl
  obtain ⟨sv, hsv, hp0, hown⟩ := hI.blk 1000000 (.vec T sz es) hb0
  rw [e2] at hsv
  obtain rfl := Option.some.inj hsv
  have hilt := (List.getElem?_eq_some_iff.1 hi).1
  have hjlt := (List.getElem?_eq_some_iff.1 hj).1
  rcases hown.form with ⟨ad, _, rfl⟩ | ⟨g, cap, vs, heq, hc, hle, hl, hs, h1, hrr, ho⟩
  ·simp at hi
  subst heq
  have hog : own (.slice (some ⟨g, 0, none⟩) es.length cap) = some g := by simp [own, hc]
  obtain ⟨hBg, hgw⟩ := hown.own_ge hog
  obtain ⟨cur, hgg⟩ : ∃ cur, w.heap[g]? = some (.cells cur T (0, 0)) := by
   rcases ho.2 with ⟨hn, _⟩ | ⟨g', cap', cur, hq, _, hg', _⟩
   ·cases hn
   ·simp at hq
    obtain ⟨rfl, rfl⟩ := hq
    exact ⟨cur, hg'⟩
  have hfr : ∀ k, w.frozen? ⟨g, k, none⟩ = false := fun k => by simp [World.frozen?, hgg]
  obtain ⟨X, rX, sX, oX, cX⟩ := hown.elem hi
  obtain ⟨Y, rY, sY, oY, cY⟩ := hown.elem hj
  have hrun := run_swap_cells (P := P) false e ie hie hagg g 0 es.length cap i j hilt hjlt X.cells.toList Y.cells.toList (by rw [Array.length_toList, sX, hsz]) (by rw [Array.length_toList, sY, hsz]) oX oY w
   (fun k v h => by rw [Nat.zero_add, hsz]; exact cX k v h) (fun k v h => by rw [Nat.zero_add, hsz]; exact cY k v h) (fun k _ => hfr _) (fun k _ => hfr _)
  rw [Nat.zero_add, Nat.zero_add, hsz] at hrun
  -- first store
  have hok1 := write_ok (w' := w.setCells g (i * sz) Y.cells.toList) hI 1000000 _ e2 (size_setCells _ _ _ _) (fun k _ hk => heap_setCells_ne g k (by intro e; apply hk; rw [hog, e]) _ _ _)
  have own1 : OwnV (w.setCells g (i * sz) Y.cells.toList) (okAt (fun _ => False) B (shift 1000000 ρ) (w.setCells g (i * sz) Y.cells.toList)) B T sz (.slice (some ⟨g, 0, none⟩) es.length cap) (es.set i ej) :=
   hown.set (off := 0) (xv := Y) (ev' := Y) hpos hi cX sX hok1 (rY.mono hok1) (putL_all (by rw [Array.length_toList, Array.length_toList, sX, sY])) (by omega) oY
  have hw1 := hI.write (w' := w.setCells g (i * sz) Y.cells.toList) 1000000 _ (.vec T sz (es.set i ej)) e2 (size_setCells _ _ _ _) (fun k _ hk => heap_setCells_ne g k (by intro e; apply hk; rw [hog, e]) _ _ _) ⟨hpos, own1⟩
  -- second store
  have hj1 : ∃ e', (es.set i ej)[j]? = some e' := ⟨_, List.getElem?_eq_getElem (by simpa using hjlt)⟩
  obtain ⟨e', hj1⟩ := hj1
  obtain ⟨Z, rZ, sZ, oZ, cZ⟩ := own1.elem hj1
  generalize hW1 : w.setCells g (i * sz) Y.cells.toList = W1 at *
  have hs1 : W1.heap.size = w.heap.size := by rw [← hW1]; exact size_setCells _ _ _ _
  have hok2 := write_ok (w' := W1.setCells g (j * sz) X.cells.toList) hw1.1 1000000 _ e2 (size_setCells _ _ _ _) (fun k _ hk => heap_setCells_ne g k (by intro e; apply hk; rw [hog, e]) _ _ _)
  have own2 : OwnV (W1.setCells g (j * sz) X.cells.toList) (okAt (fun _ => False) B (shift 1000000 ρ) (W1.setCells g (j * sz) X.cells.toList)) B T sz (.slice (some ⟨g, 0, none⟩) es.length cap) ((es.set i ej).set j ei) :=
   own1.set (off := 0) (xv := X) (ev' := X) hpos hj1 cZ sZ hok2 ((rX.mono hok1).mono hok2) (putL_all (by rw [Array.length_toList, Array.length_toList, sX, sZ])) (by omega) oX
  have hw2 := hw1.1.write (w' := W1.setCells g (j * sz) X.cells.toList) 1000000 _ (.vec T sz ((es.set i ej).set j ei)) e2 (size_setCells _ _ _ _) (fun k _ hk => heap_setCells_ne g k (by intro e; apply hk; rw [hog, e]) _ _ _) ⟨hpos, own2⟩
  have hshift : upd (upd (shift 1000000 fun j => (Blk.vec T sz es :: rest)[j]?) 1000000 (some (Blk.vec T sz (es.set i ej)))) 1000000 (some (Blk.vec T sz ((es.set i ej).set j ei))) = shift 1000000 fun k => (Blk.vec T sz ((es.set i ej).set j ei) :: rest)[k]? := by
   rw [upd_shift, upd_shift]
  have hI2 := hw2.1
  rw [hshift] at hI2
  refine .inr ⟨.tuple #[], W1.setCells g (j * sz) X.cells.toList, ?_, .tuple #[], rfl, ?_, ⟨fun k hk hno => ?_, ?_⟩, hI2, .tup [] [] rfl (by simp)⟩
  ·rw [hx]
   exact congrArg (fun r => Result.andThen r fun v w' => Result.ok (Next.value v) w') hrun
  ·have b1 : Below B w W1 := by rw [← hW1]; exact below_setCells g hBg _ _ _
   exact b1.trans (below_setCells g hBg _ _ _)
  ·have hkg : k ≠ g := fun e => hno 1000000 _ e2 (by rw [hog, e])
   rw [heap_setCells_ne g k hkg, ← hW1, heap_setCells_ne g k hkg]
  ·rw [size_setCells, hs1]
   exact Nat.le_refl _
end Go.Ev
namespace Go.Acc
open Go
theorem perm_map {α β : Type} (f : α → β) {l' l : List β} (h : l'.Perm l) : ∀ {m : List α}, l = m.map f → ∃ m' : List α, m'.Perm m ∧ l' = m'.map f := by
 induction h with
 | nil => intro m hm; exact ⟨[], by cases m with | nil => exact .nil | cons _ _ => simp at hm, rfl⟩
 | cons x _ ih =>
  intro m hm
  cases m with
  | nil => simp at hm
  | cons y m =>
   simp only [List.map_cons, List.cons.injEq] at hm
   obtain ⟨rfl, hm⟩ := hm
   obtain ⟨m', hp, rfl⟩ := ih hm
   exact ⟨y :: m', hp.cons y, rfl⟩
 | swap x y l =>
  intro m hm
  match m, hm with
  | a :: b :: m, hm =>
   simp only [List.map_cons, List.cons.injEq] at hm
   obtain ⟨rfl, rfl, rfl⟩ := hm
   exact ⟨b :: a :: m, .swap a b m, rfl⟩
 | trans _ _ ih1 ih2 =>
  intro m hm
  obtain ⟨m1, hp1, rfl⟩ := ih2 hm
  obtain ⟨m2, hp2, rfl⟩ := ih1 rfl
  exact ⟨m2, hp2.trans hp1, rfl⟩
def srtW (E : List En) : Prop := ∀ (i k : Nat) (y z : En), i < k → E[i]? = some y → E[k]? = some z → ltB z y = false
theorem srtW_cons {x : En} {r : List En} (h : srtW (x :: r)) : (∀ y ∈ r, ltB y x = false) ∧ srtW r := by
 refine ⟨fun y hy => ?_, fun i k y z hik hy hz => h (i + 1) (k + 1) y z (by omega) (by simpa using hy) (by simpa using hz)⟩
 obtain ⟨k, hk⟩ := List.mem_iff_getElem?.1 hy
 exact h 0 (k + 1) x y (by omega) rfl (by simpa using hk)
theorem srt_uniq : ∀ {E G : List En}, srtE E → srtW G → G.Perm E → G = E
 | [], G, _, _, hp => by simpa using hp
 | x :: r, [], _, _, hp => by simp at hp
 | x :: r, y :: s, hE, hG, hp => by
  have hE' := srtE_cons.1 hE
  have hG' := srtW_cons hG
  have hxy : y = x := by
   have hy : y ∈ x :: r := hp.mem_iff.1 List.mem_cons_self
   have hx : x ∈ y :: s := hp.mem_iff.2 List.mem_cons_self
   rcases List.mem_cons.1 hy with rfl | hy
   ·rfl
   rcases List.mem_cons.1 hx with rfl | hx
   ·rfl
   have h1 := hE'.1 y hy
   have h2 := hG'.1 x hx
   rw [h1] at h2
   cases h2
  subst hxy
  rw [srt_uniq hE'.2 hG'.2 (List.Perm.cons_inv hp)]
theorem lessB_ntrans {a b c : List UInt8} (h1 : Op.bytesLess a b = false) (h2 : Op.bytesLess b c = false) : Op.bytesLess a c = false := by
 cases h : Op.bytesLess a c with
 | false => rfl
 | true =>
  exfalso
  cases hb : Op.bytesLess b a with
  | true =>
   have := lessB_trans hb h
   rw [h2] at this
   cases this
  | false =>
   have := lessB_tri h1 hb
   subst this
   rw [h2] at h
   cases h
end Go.Acc
