/-
  Sorting by a function that is handed in, run by the machine: entries by their days and keys: the comparison, the swap.
-/
import Derived.Test.YtdmkmbaaemhhhaaGreatDoorP43
import Derived.Test.YtdmkmbaaemhhhaaGreatDoorP11
import Derived.Test.YtdmkmbaaemhhhaaGreatDoorP44
import Derived.Test.YtdmkmbaaemhhhaaGreatDoorP18
set_option linter.unusedVariables false
set_option linter.unusedSimpArgs false
namespace Go.So
open Go Go.Ev Go.Sort
abbrev En := ByteArray × Int × Value
def enR (x : En) : V := .agg [.str x.1, .int .i64 x.2.1, .raw x.2.2]
def enLt (x y : En) : Bool := decide (x.2.1 < y.2.1) || (decide (x.2.1 = y.2.1) && Op.bytesLess x.1.toList y.1.toList)
def boxV (a : Value) (r : List Value) : V := .agg (.raw a :: .vec 1000000 :: r.map .raw)
theorem enR_inj (x y : En) (h : enR x = enR y) : x = y := by
 obtain ⟨x1, x2, x3⟩ := x
 obtain ⟨y1, y2, y3⟩ := y
 simp only [enR, V.agg.injEq, List.cons.injEq, V.str.injEq, V.int.injEq, V.raw.injEq, true_and, and_true] at h
 obtain ⟨rfl, rfl, rfl⟩ := h
 rfl
theorem enR_lone (x : En) : V.lone (enR x) = true := by simp [enR, V.lone, V.loneL]
theorem enR_data (x : En) : V.data (enR x) = true := by simp [enR, V.data, V.dataL]
theorem enLt_iff (x y : En) : enLt x y = true ↔ x.2.1 < y.2.1 ∨ (x.2.1 = y.2.1 ∧ Op.bytesLess x.1.toList y.1.toList = true) := by
 unfold enLt
 rw [Bool.or_eq_true, decide_eq_true_eq, Bool.and_eq_true, decide_eq_true_eq]
theorem enLt_not (x y : En) : enLt x y = false ↔ ¬ x.2.1 < y.2.1 ∧ (x.2.1 = y.2.1 → Op.bytesLess x.1.toList y.1.toList = false) := by
 rw [← Bool.not_eq_true, enLt_iff]
 constructor
 ·intro h
  exact ⟨fun g => h (.inl g), fun g => by rw [← Bool.not_eq_true]; exact fun k => h (.inr ⟨g, k⟩)⟩
 ·rintro ⟨h1, h2⟩ (h | ⟨h, k⟩)
  ·exact h1 h
  ·rw [h2 h] at k; cases k
theorem enLt_swo : SWO enLt where
 irrefl := fun x => (enLt_not x x).2 ⟨by omega, fun _ => Acc.lessB_irrefl _⟩
 trans := fun x y z h1 h2 => by
  rw [enLt_iff] at h1 h2 ⊢
  rcases h1 with h1 | ⟨h1, g1⟩ <;> rcases h2 with h2 | ⟨h2, g2⟩
  ·left; omega
  ·left; omega
  ·left; omega
  ·right; exact ⟨by omega, Acc.lessB_trans g1 g2⟩
 ntrans := fun x y z h1 h2 => by
  rw [enLt_not] at h1 h2 ⊢
  exact ⟨by omega, fun h => Acc.lessB_ntrans (h1.2 (by omega)) (h2.2 (by omega))⟩
theorem raws_lone : ∀ r : List Value, V.loneL (r.map .raw) = true
 | [] => rfl
 | v :: r => by simp [V.loneL, V.lone, raws_lone r]
theorem boxV_lone (a : Value) (r : List Value) : V.lone (boxV a r) = true := by
 unfold boxV
 simp [V.lone, V.loneL, raws_lone r]
theorem raws_mv (l : List Nat) : ∀ r : List Value, V.mvL l (r.map .raw) = some (r.map .raw)
 | [] => rfl
 | v :: r => by simp [V.mvL, V.mv, raws_mv l r]
theorem raws_bk (l : List Nat) : ∀ r : List Value, V.bkL l (r.map .raw) = some (r.map .raw)
 | [] => rfl
 | v :: r => by simp [V.bkL, V.bk, raws_bk l r]
theorem raws_refs (l : List Nat) : ∀ r : List Value, V.refsInL l (r.map .raw) = true
 | [] => rfl
 | v :: r => by simp [V.refsInL, V.refsIn, raws_refs l r]
theorem boxV_mv (a : Value) (r : List Value) (l : List Nat) : V.mv (1000000 :: 1000001 :: l) (boxV a r) = some (boxV a r) := by
 unfold boxV
 simp [V.mv, V.mvL, raws_mv, posN, nmN]
theorem boxV_bk (a : Value) (r : List Value) (l : List Nat) : V.bk (1000000 :: 1000001 :: l) (boxV a r) = some (boxV a r) := by
 unfold boxV
 simp [V.bk, V.bkL, raws_bk, backN, nmN]
theorem boxV_refs (a : Value) (r : List Value) (l : List Nat) : V.refsIn (1000000 :: 1000001 :: l) (boxV a r) = true := by
 unfold boxV
 simp [V.refsIn, V.refsInL, raws_refs]
theorem swp_list {α : Type} [Inhabited α] (f : α → V) (D : Array α) {i j : Nat} (hi : i < D.size) (hj : j < D.size) : ((D.toList.map f).set i (f D[j]!)).set j (f D[i]!) = (swp D i j).toList.map f := by
 unfold swp
 rw [Array.toList_setIfInBounds, Array.toList_setIfInBounds, List.map_set, List.map_set]
theorem get_enc {α : Type} [Inhabited α] (f : α → V) (D : Array α) {i : Nat} (hi : i < D.size) : (D.toList.map f)[i]? = some (f D[i]!) := by
 simp [hi]
end Go.So
namespace Go.Proofs.YtdmkmbaaemhhhaaGreatDoor
open Go Go.Ev Go.RowKit Go.Sort Go.So
set_option maxHeartbeats 4000000
section
variable {J : World → Prop} (hJ : Stable J)
theorem en_lone (a : Value) (r : List Value) (D : Array En) : ∀ k ∈ [Blk.vec 28 3 (D.toList.map enR), .box (boxV a r)], k.lone = true := by
 intro k hk
 simp only [List.mem_cons, List.not_mem_nil, or_false] at hk
 rcases hk with rfl | rfl
 ·show ((D.toList.map enR).all fun v => V.lone v && V.data v) = true
  rw [List.all_eq_true]
  intro v hv
  obtain ⟨x, _, rfl⟩ := List.mem_map.1 hv
  rw [enR_lone, enR_data]
  rfl
 ·exact boxV_lone a r
theorem bin_lss_str (x y : ByteArray) : binV .lss (.str x) (.str y) = some (.bool (Op.bytesLess x.toList y.toList)) := rfl
include hJ in
set_option maxRecDepth 100000 in
set_option maxHeartbeats 4000000 in
theorem enLt_mut (a : Value) (r : List Value) (D : Array En) (i j : Nat) (hi : i < D.size) (hj : j < D.size) :
  MutAt Tryz.prog J 46 [.vec 28 3 (D.toList.map enR), .box (boxV a r)] [.int .i64 i, .int .i64 j, .ptr 1000001 0] (.bool (enLt D[i]! D[j]!)) [.vec 28 3 (D.toList.map enR), .box (boxV a r)] := by
 have gi := get_enc enR D hi
 have gj := get_enc enR D hj
 have hend := en_lone a r D
 have hli : i < (D.toList.map enR).length := by simpa using hi
 have hlj : j < (D.toList.map enR).length := by simpa using hj
 unfold enLt
 generalize hL : D.toList.map enR = L at *
 clear hL
 generalize D[i]! = x at *
 generalize D[j]! = y at *
 obtain ⟨x1, x2, x3⟩ := x
 obtain ⟨y1, y2, y3⟩ := y
 simp only [enR] at gi gj
 have hi' : (i : Int) < L.length := by omega
 have hj' : (j : Int) < L.length := by omega
 unfold boxV at hend ⊢
 refine evMut (l := []) (nv := nv0) (fz := fz0) (dr := dr46) (dd := dd46) (lam := []) (ms := ms0) trivial hJ trivial ⟨trivial, trivial⟩ Tryz.func46 rfl rfl (Nat.le_of_ble_eq_true rfl) (Nat.le_of_ble_eq_true rfl) drOk46 rfl rfl ?_ ?_
 rotate_left
 dsimp only [Tryz.f46, dr46, dd46, Option.getD_some]
 refine ev_start ?_
 ·by_cases h1 : x2 < y2
  ·simp (disch := (first | omega | assumption)) only [gi, gj, hi', hj', idx_nat, h1, bin_lss_str, go_sem, evP_D, evD_guard, evD_cons, evD_zero, evD_nil]
  ·by_cases h2 : x2 = y2
   ·subst h2
    simp (disch := (first | omega | assumption)) only [gi, gj, hi', hj', idx_nat, h1, bin_lss_str, go_sem, evP_D, evD_guard, evD_cons, evD_zero, evD_nil]
   ·simp (disch := (first | omega | assumption)) only [gi, gj, hi', hj', idx_nat, h1, h2, go_sem, evP_D, evD_guard, evD_cons, evD_zero, evD_nil]
 ·exact hend
/-! ### the swap -/
noncomputable def slT : TypeInfo := (Tryz.prog.info? 23).get (by kernel_rfl)
noncomputable def slE : TypeInfo := (Tryz.prog.info? 28).get (by kernel_rfl)
theorem slE_size : slE.size = 3 := by kernel_rfl
theorem slK (n : Nat) (h2 : 2 ≤ n) : Lib.swapperK n slE 25 = 9 := by
 have a : slE.hasPointers = true := by kernel_rfl
 have b : (slE.bytes == 8) = false := by kernel_rfl
 have c : (n == 0) = false := by simp; omega
 have d : (n == 1) = false := by simp; omega
 unfold Lib.swapperK
 simp [a, b, c, d]
theorem sl_swap (args : Array Value) (W : World) : (callFunc 129 args).run Tryz.prog W = ((Extern.ReflectliteSwapper.swap false args).run Tryz.prog W).andThen fun v w' => .ok (.value v) w' :=
 run_callFunc_extern Tryz.func129 (by kernel_rfl) (by kernel_rfl) (by kernel_rfl) (e := Extern.ReflectliteSwapper.swap false) (by kernel_rfl) args W
theorem enSwap_mut (a : Value) (r : List Value) (D : Array En) (i j : Nat) (hi : i < D.size) (hj : j < D.size) :
  MutAt Tryz.prog J 129 [.vec 28 3 (D.toList.map enR), .box (boxV a r)] [.int .i64 i, .int .i64 j, .vec 1000000, .raw (typeHandle Tryz.prog 28)] (.tup []) [.vec 28 3 ((swp D i j).toList.map enR), .box (boxV a r)] := by
 have h := swap_mut (P := Tryz.prog) (J := J) (f := 129) (e := 28) (ie := slE) (T := 28) (sz := 3) sl_swap (by kernel_rfl) slE_size (fun _ => by kernel_rfl) (by decide) (D.toList.map enR) [.box (boxV a r)] i j _ _ (get_enc enR D hi) (get_enc enR D hj)
 rw [swp_list enR D hi hj] at h
 exact h
include hJ in
theorem enPdq (a : Value) (r : List Value) (D : Array En) (limit : Nat) (hsz : D.size < 1152921504606846976) (hl : limit < 1000) :
  MutAt Tryz.prog J 92 [.vec 28 3 (D.toList.map enR), .box (boxV a r)] [.agg [.fn 46 [.ptr 1000001 0], .fn 129 [.vec 1000000, .raw (typeHandle Tryz.prog 28)]], .int .i64 0, .int .i64 D.size, .int .i64 limit] (.tup [])
   [.vec 28 3 ((pdq enLt D 0 D.size limit true true).toList.map enR), .box (boxV a r)] := by
 obtain ⟨LF, hL, sL⟩ := famM (P := Tryz.prog) (J := J) (f := 46) (fun q : { q : Array En × Nat × Nat // q.2.1 < q.1.size ∧ q.2.2 < q.1.size } => [Blk.vec 28 3 (q.1.1.toList.map enR), .box (boxV a r)]) (fun q => [.int .i64 q.1.2.1, .int .i64 q.1.2.2, .ptr 1000001 0])
  (fun q => (.bool (enLt q.1.1[q.1.2.1]! q.1.1[q.1.2.2]!), [.vec 28 3 (q.1.1.toList.map enR), .box (boxV a r)])) (fun i j e1 e2 => by
   obtain ⟨⟨D, a, b⟩, _⟩ := i
   obtain ⟨⟨D', a', b'⟩, _⟩ := j
   simp only [List.cons.injEq, Blk.vec.injEq, V.int.injEq, true_and, and_true, Int.natCast_inj] at e1 e2
   obtain ⟨rfl, rfl⟩ := e2
   have := Array.toList_inj.1 (mapInj enR_inj e1)
   subst this
   rfl) fun q => enLt_mut hJ a r q.1.1 q.1.2.1 q.1.2.2 q.2.1 q.2.2
 obtain ⟨SF, hS, sS⟩ := famM (P := Tryz.prog) (J := J) (f := 129) (fun q : { q : Array En × Nat × Nat // q.2.1 < q.1.size ∧ q.2.2 < q.1.size } => [Blk.vec 28 3 (q.1.1.toList.map enR), .box (boxV a r)]) (fun q => [.int .i64 q.1.2.1, .int .i64 q.1.2.2, .vec 1000000, .raw (typeHandle Tryz.prog 28)])
  (fun q => (.tup [], [.vec 28 3 ((swp q.1.1 q.1.2.1 q.1.2.2).toList.map enR), .box (boxV a r)])) (fun i j e1 e2 => by
   obtain ⟨⟨D, a, b⟩, _⟩ := i
   obtain ⟨⟨D', a', b'⟩, _⟩ := j
   simp only [List.cons.injEq, Blk.vec.injEq, V.int.injEq, true_and, and_true, Int.natCast_inj] at e1 e2
   obtain ⟨rfl, rfl⟩ := e2
   have := Array.toList_inj.1 (mapInj enR_inj e1)
   subst this
   rfl) fun q => enSwap_mut a r q.1.1 q.1.2.1 q.1.2.2 q.2.1 q.2.2
 exact pdq_mut hJ ({ enc := enR, inj := enR_inj, lone := enR_lone, data := enR_data, T := 28, sz := 3, bv := boxV a r, bmv := boxV_mv a r, bbk := boxV_bk a r, bl := boxV_lone a r, br := boxV_refs a r, lt := enLt, lf := 46, sf := 129, hd := typeHandle Tryz.prog 28, LF := LF, SF := SF, ne := by rfl, farL := by simp [famF], farS := by simp [famF], hLF := sL, hSF := sS, hL := fun D i j hi hj => hL ⟨(D, i, j), hi, hj⟩, hS := fun D i j hi hj => hS ⟨(D, i, j), hi, hj⟩ } : So Tryz.prog J famF En)
  enLt_swo (D.size + 1) 0 D.size limit D (by omega) (Nat.zero_le _) (Nat.le_refl _) hsz hl (Or.inl rfl)
end
end Go.Proofs.YtdmkmbaaemhhhaaGreatDoor
