/-
  Steps of the proof of BookSays, joined: SoN SoO RpF.
-/
import Derived.Test.YtdmkmbaaemhhhaaGreatDoorBA
import Derived.Test.YtdmkmbaaemhhhaaGreatDoorShL
import Derived.Test.YtdmkmbaaemhhhaaGreatDoorSwpE
import Derived.Test.YtdmkmbaaemhhhaaGreatDoorBkE
namespace Go.So
open Go Go.Ev Go.Sort
set_option linter.unusedVariables false
/-- an entry, its lines as they lie -/
abbrev En := ByteArray × Int × Value
def enR (x : En) : V := .agg [.str x.1, .int .i64 x.2.1, .raw x.2.2]
def enLt (x y : En) : Bool := decide (x.2.1 < y.2.1) || (decide (x.2.1 = y.2.1) && Op.bytesLess x.1.toList y.1.toList)
def boxV (a : Value) (r : List Value) : V := .agg (.raw a :: .vec 1000000 :: r.map .raw)
theorem enR_inj (x y : En) (h : enR x = enR y) : x = y := by
  obtain ⟨x1, x2, x3⟩ := x
  obtain ⟨y1, y2, y3⟩ := y
  simp only [enR, V.agg.injEq, List.cons.injEq, V.str.injEq, V.int.injEq, V.raw.injEq, true_and, and_true] at h
  obtain ⟨rfl, rfl, rfl⟩ := h
  rfl
theorem enR_lone (x : En) : V.lone (enR x) = true := by simp [enR, V.lone, V.loneL]
theorem enR_data (x : En) : V.data (enR x) = true := by simp [enR, V.data, V.dataL]
theorem enLt_iff (x y : En) : enLt x y = true ↔ x.2.1 < y.2.1 ∨ (x.2.1 = y.2.1 ∧ Op.bytesLess x.1.toList y.1.toList = true) := by
  unfold enLt
  rw [Bool.or_eq_true, decide_eq_true_eq, Bool.and_eq_true, decide_eq_true_eq]
theorem enLt_not (x y : En) : enLt x y = false ↔ ¬ x.2.1 < y.2.1 ∧ (x.2.1 = y.2.1 → Op.bytesLess x.1.toList y.1.toList = false) := by
  rw [← Bool.not_eq_true, enLt_iff]
  constructor
  · intro h
    exact ⟨fun g => h (.inl g), fun g => by rw [← Bool.not_eq_true]; exact fun k => h (.inr ⟨g, k⟩)⟩
  · rintro ⟨h1, h2⟩ (h | ⟨h, k⟩)
    · exact h1 h
    · rw [h2 h] at k; cases k
theorem enLt_swo : SWO enLt where
  irrefl := fun x => (enLt_not x x).2 ⟨by omega, fun _ => Acc.lessB_irrefl _⟩
  trans := fun x y z h1 h2 => by
    rw [enLt_iff] at h1 h2 ⊢
    rcases h1 with h1 | ⟨h1, g1⟩ <;> rcases h2 with h2 | ⟨h2, g2⟩
    · left; omega
    · left; omega
    · left; omega
    · right; exact ⟨by omega, Acc.lessB_trans g1 g2⟩
  ntrans := fun x y z h1 h2 => by
    rw [enLt_not] at h1 h2 ⊢
    exact ⟨by omega, fun h => Acc.lessB_ntrans (h1.2 (by omega)) (h2.2 (by omega))⟩
theorem raws_lone : ∀ r : List Value, V.loneL (r.map .raw) = true
  | [] => rfl
  | v :: r => by simp [V.loneL, V.lone, raws_lone r]
theorem boxV_lone (a : Value) (r : List Value) : V.lone (boxV a r) = true := by
  unfold boxV
  simp [V.lone, V.loneL, raws_lone r]
theorem raws_mv (l : List Nat) : ∀ r : List Value, V.mvL l (r.map .raw) = some (r.map .raw)
  | [] => rfl
  | v :: r => by simp [V.mvL, V.mv, raws_mv l r]
theorem raws_bk (l : List Nat) : ∀ r : List Value, V.bkL l (r.map .raw) = some (r.map .raw)
  | [] => rfl
  | v :: r => by simp [V.bkL, V.bk, raws_bk l r]
theorem raws_refs (l : List Nat) : ∀ r : List Value, V.refsInL l (r.map .raw) = true
  | [] => rfl
  | v :: r => by simp [V.refsInL, V.refsIn, raws_refs l r]
theorem boxV_mv (a : Value) (r : List Value) (l : List Nat) : V.mv (1000000 :: 1000001 :: l) (boxV a r) = some (boxV a r) := by
  unfold boxV
  simp [V.mv, V.mvL, raws_mv, posN, nmN]
theorem boxV_bk (a : Value) (r : List Value) (l : List Nat) : V.bk (1000000 :: 1000001 :: l) (boxV a r) = some (boxV a r) := by
  unfold boxV
  simp [V.bk, V.bkL, raws_bk, backN, nmN]
theorem boxV_refs (a : Value) (r : List Value) (l : List Nat) : V.refsIn (1000000 :: 1000001 :: l) (boxV a r) = true := by
  unfold boxV
  simp [V.refsIn, V.refsInL, raws_refs]
theorem swp_list {α : Type} [Inhabited α] (f : α → V) (D : Array α) {i j : Nat} (hi : i < D.size) (hj : j < D.size) : ((D.toList.map f).set i (f D[j]!)).set j (f D[i]!) = (swp D i j).toList.map f := by
  unfold swp
  rw [Array.toList_setIfInBounds, Array.toList_setIfInBounds, List.map_set, List.map_set]
theorem get_enc {α : Type} [Inhabited α] (f : α → V) (D : Array α) {i : Nat} (hi : i < D.size) : (D.toList.map f)[i]? = some (f D[i]!) := by
  simp [hi]
end Go.So
namespace Go.Proofs.YtdmkmbaaemhhhaaGreatDoor
open Go Go.Ev Go.RowKit Go.Sort Go.So
set_option maxHeartbeats 4000000
set_option linter.unusedSimpArgs false
set_option linter.unusedVariables false

section
variable {J : World → Prop} (hJ : Stable J)
theorem en_lone (a : Value) (r : List Value) (D : Array En) : ∀ k ∈ [Blk.vec 28 3 (D.toList.map enR), .box (boxV a r)], k.lone = true := by
  intro k hk
  simp only [List.mem_cons, List.not_mem_nil, or_false] at hk
  rcases hk with rfl | rfl
  · show ((D.toList.map enR).all fun v => V.lone v && V.data v) = true
    rw [List.all_eq_true]
    intro v hv
    obtain ⟨x, _, rfl⟩ := List.mem_map.1 hv
    rw [enR_lone, enR_data]
    rfl
  · exact boxV_lone a r
theorem bin_lss_str (x y : ByteArray) : binV .lss (.str x) (.str y) = some (.bool (Op.bytesLess x.toList y.toList)) := rfl
include hJ in
set_option maxRecDepth 100000 in
set_option maxHeartbeats 4000000 in
theorem enLt_mut (a : Value) (r : List Value) (D : Array En) (i j : Nat) (hi : i < D.size) (hj : j < D.size) :
    MutAt Tryz.prog J 46 [.vec 28 3 (D.toList.map enR), .box (boxV a r)] [.int .i64 i, .int .i64 j, .ptr 1000001 0] (.bool (enLt D[i]! D[j]!)) [.vec 28 3 (D.toList.map enR), .box (boxV a r)] := by
  have gi := get_enc enR D hi
  have gj := get_enc enR D hj
  have hend := en_lone a r D
  have hli : i < (D.toList.map enR).length := by simpa using hi
  have hlj : j < (D.toList.map enR).length := by simpa using hj
  unfold enLt
  generalize hL : D.toList.map enR = L at *
  clear hL
  generalize D[i]! = x at *
  generalize D[j]! = y at *
  obtain ⟨x1, x2, x3⟩ := x
  obtain ⟨y1, y2, y3⟩ := y
  simp only [enR] at gi gj
  have hi' : (i : Int) < L.length := by omega
  have hj' : (j : Int) < L.length := by omega
  unfold boxV at hend ⊢
  refine evMut (l := []) (nv := nv0) (fz := fz0) (dr := dr46) (dd := dd46) (lam := []) (ms := ms0) trivial hJ trivial ⟨trivial, trivial⟩ Tryz.func46 rfl rfl (Nat.le_of_ble_eq_true rfl) (Nat.le_of_ble_eq_true rfl) drOk46 rfl rfl ?_ ?_
  rotate_left
  dsimp only [Tryz.f46, dr46, dd46, Option.getD_some]
  refine ev_start ?_
  · by_cases h1 : x2 < y2
    · simp (disch := (first | omega | assumption)) only [gi, gj, hi', hj', idx_nat, h1, bin_lss_str, go_sem, evP_D, evD_guard, evD_cons, evD_zero, evD_nil]
    · by_cases h2 : x2 = y2
      · subst h2
        simp (disch := (first | omega | assumption)) only [gi, gj, hi', hj', idx_nat, h1, bin_lss_str, go_sem, evP_D, evD_guard, evD_cons, evD_zero, evD_nil]
      · simp (disch := (first | omega | assumption)) only [gi, gj, hi', hj', idx_nat, h1, h2, go_sem, evP_D, evD_guard, evD_cons, evD_zero, evD_nil]
  · exact hend
/-! ### the swap -/
noncomputable def slT : TypeInfo := (Tryz.prog.info? 23).get (by kernel_rfl)
noncomputable def slE : TypeInfo := (Tryz.prog.info? 28).get (by kernel_rfl)
theorem slE_size : slE.size = 3 := by kernel_rfl
theorem slK (n : Nat) (h2 : 2 ≤ n) : Lib.swapperK n slE 25 = 9 := by
  have a : slE.hasPointers = true := by kernel_rfl
  have b : (slE.bytes == 8) = false := by kernel_rfl
  have c : (n == 0) = false := by simp; omega
  have d : (n == 1) = false := by simp; omega
  unfold Lib.swapperK
  simp [a, b, c, d]
theorem sl_swap (args : Array Value) (W : World) : (callFunc 129 args).run Tryz.prog W = ((Extern.ReflectliteSwapper.swap false args).run Tryz.prog W).andThen fun v w' => .ok (.value v) w' :=
  run_callFunc_extern Tryz.func129 (by kernel_rfl) (by kernel_rfl) (by kernel_rfl) (e := Extern.ReflectliteSwapper.swap false) (by kernel_rfl) args W
theorem enSwap_mut (a : Value) (r : List Value) (D : Array En) (i j : Nat) (hi : i < D.size) (hj : j < D.size) :
    MutAt Tryz.prog J 129 [.vec 28 3 (D.toList.map enR), .box (boxV a r)] [.int .i64 i, .int .i64 j, .vec 1000000, .raw (typeHandle Tryz.prog 28)] (.tup []) [.vec 28 3 ((swp D i j).toList.map enR), .box (boxV a r)] := by
  have h := swap_mut (P := Tryz.prog) (J := J) (f := 129) (e := 28) (ie := slE) (T := 28) (sz := 3) sl_swap (by kernel_rfl) slE_size (fun _ => by kernel_rfl) (by decide) (D.toList.map enR) [.box (boxV a r)] i j _ _ (get_enc enR D hi) (get_enc enR D hj)
  rw [swp_list enR D hi hj] at h
  exact h
include hJ in
/-- entries, sorted by pdqsort -/
theorem enPdq (a : Value) (r : List Value) (D : Array En) (limit : Nat) (hsz : D.size < 1152921504606846976) (hl : limit < 1000) :
    MutAt Tryz.prog J 92 [.vec 28 3 (D.toList.map enR), .box (boxV a r)] [.agg [.fn 46 [.ptr 1000001 0], .fn 129 [.vec 1000000, .raw (typeHandle Tryz.prog 28)]], .int .i64 0, .int .i64 D.size, .int .i64 limit] (.tup [])
      [.vec 28 3 ((pdq enLt D 0 D.size limit true true).toList.map enR), .box (boxV a r)] := by
  obtain ⟨LF, hL, sL⟩ := famM (P := Tryz.prog) (J := J) (f := 46) (fun q : { q : Array En × Nat × Nat // q.2.1 < q.1.size ∧ q.2.2 < q.1.size } => [Blk.vec 28 3 (q.1.1.toList.map enR), .box (boxV a r)]) (fun q => [.int .i64 q.1.2.1, .int .i64 q.1.2.2, .ptr 1000001 0])
    (fun q => (.bool (enLt q.1.1[q.1.2.1]! q.1.1[q.1.2.2]!), [.vec 28 3 (q.1.1.toList.map enR), .box (boxV a r)])) (fun i j e1 e2 => by
      obtain ⟨⟨D, a, b⟩, _⟩ := i
      obtain ⟨⟨D', a', b'⟩, _⟩ := j
      simp only [List.cons.injEq, Blk.vec.injEq, V.int.injEq, true_and, and_true, Int.natCast_inj] at e1 e2
      obtain ⟨rfl, rfl⟩ := e2
      have := Array.toList_inj.1 (mapInj enR_inj e1)
      subst this
      rfl) fun q => enLt_mut hJ a r q.1.1 q.1.2.1 q.1.2.2 q.2.1 q.2.2
  obtain ⟨SF, hS, sS⟩ := famM (P := Tryz.prog) (J := J) (f := 129) (fun q : { q : Array En × Nat × Nat // q.2.1 < q.1.size ∧ q.2.2 < q.1.size } => [Blk.vec 28 3 (q.1.1.toList.map enR), .box (boxV a r)]) (fun q => [.int .i64 q.1.2.1, .int .i64 q.1.2.2, .vec 1000000, .raw (typeHandle Tryz.prog 28)])
    (fun q => (.tup [], [.vec 28 3 ((swp q.1.1 q.1.2.1 q.1.2.2).toList.map enR), .box (boxV a r)])) (fun i j e1 e2 => by
      obtain ⟨⟨D, a, b⟩, _⟩ := i
      obtain ⟨⟨D', a', b'⟩, _⟩ := j
      simp only [List.cons.injEq, Blk.vec.injEq, V.int.injEq, true_and, and_true, Int.natCast_inj] at e1 e2
      obtain ⟨rfl, rfl⟩ := e2
      have := Array.toList_inj.1 (mapInj enR_inj e1)
      subst this
      rfl) fun q => enSwap_mut a r q.1.1 q.1.2.1 q.1.2.2 q.2.1 q.2.2
  exact pdq_mut hJ ({ enc := enR, inj := enR_inj, lone := enR_lone, data := enR_data, T := 28, sz := 3, bv := boxV a r, bmv := boxV_mv a r, bbk := boxV_bk a r, bl := boxV_lone a r, br := boxV_refs a r, lt := enLt, lf := 46, sf := 129, hd := typeHandle Tryz.prog 28, LF := LF, SF := SF, ne := by rfl, farL := by simp [famF], farS := by simp [famF], hLF := sL, hSF := sS, hL := fun D i j hi hj => hL ⟨(D, i, j), hi, hj⟩, hS := fun D i j hi hj => hS ⟨(D, i, j), hi, hj⟩ } : So Tryz.prog J famF En)
    enLt_swo (D.size + 1) 0 D.size limit D (by omega) (Nat.zero_le _) (Nat.le_refl _) hsz hl (Or.inl rfl)
end
end Go.Proofs.YtdmkmbaaemhhhaaGreatDoor
namespace Go.Ev
open Go Go.RowKit
set_option linter.unusedVariables false
theorem below_grow {B : Nat} {w : World} (hB : B ≤ w.heap.size) (os : Array Obj) : Below B w (Sort.grow w os) :=
  ⟨rfl, rfl, rfl, by rw [Sort.size_grow]; omega, fun k hk => Sort.heap_grow_old w os (by omega)⟩
theorem range_heap {w w' : World} {g o : Nat} {cs : List Value} (h : w.rangeAt g o cs) (he : w'.heap[g]? = w.heap[g]?) : w'.rangeAt g o cs := rangeAt_same h he
theorem there_heap {w w' : World} {g o n : Nat} (h : w.there g o n) (he : w'.heap[g]? = w.heap[g]?) : w'.there g o n := fun j hj =>
  ⟨by rw [World.cell?_of_block (w := w) (a := ⟨g, o + j, none⟩) he]; exact (h j hj).1, by rw [World.frozen?_of_block (w := w) (a := ⟨g, o + j, none⟩) he]; exact (h j hj).2⟩
/-- the two blocks that are lent: a row, and the variable through which the comparison looks at it -/
def rho2 (sv : Value) (o : Nat) : Nat → Option Value
  | 0 => some sv
  | 1 => some (.pointer (some ⟨o, 0, none⟩))
  | _ => none
theorem rho2_inv {B : Nat} {w : World} {sv : Value} {o : Nat} {T : TypeId} {sz : Nat} {es : List V} {bv val : V} {vv : Value}
    (hB : B ≤ w.heap.size) (hpos : 0 < sz) (hown : OwnV w (okAt (fun _ => False) B (shift 1000000 (rho2 sv o)) w) B T sz sv es) (hBo : B ≤ o) (hlo : o < w.heap.size) (hne : own sv ≠ some o)
    (hbox : BlkOk w (okAt (fun _ => False) B (shift 1000000 (rho2 sv o)) w) (shift 1000000 (rho2 sv o)) B (.pointer (some ⟨o, 0, none⟩)) (.box bv)) :
    Inv (fun _ => False) B w (shift 1000000 (rho2 sv o)) (shift 1000000 fun j => [Blk.vec T sz es, .box bv][j]?) := by
  generalize 1000000 = N at *
  refine ⟨hB, fun b k hk => ?_, fun b v hv => ?_, fun b b' v v' g h1 h2 o1 o2 => ?_⟩
  · obtain ⟨hb, hk⟩ := shift_some hk
    obtain ⟨m, rfl⟩ : ∃ m, b = N + m := ⟨b - N, by omega⟩
    rw [Nat.add_sub_cancel_left] at hk
    match m, hk with
    | 0, hk => simp at hk; subst hk; exact ⟨sv, shift_add N 0 _, hpos, hown⟩
    | 1, hk => simp at hk; subst hk; exact ⟨_, shift_add N 1 _, hbox⟩
    | m + 2, hk => simp at hk
  · obtain ⟨hb, hv⟩ := shift_some hv
    obtain ⟨m, rfl⟩ : ∃ m, b = N + m := ⟨b - N, by omega⟩
    rw [Nat.add_sub_cancel_left] at hv
    rw [shift_add]
    match m, hv with
    | 0, hv => exact ⟨.vec T sz es, rfl⟩
    | 1, hv => exact ⟨.box bv, rfl⟩
    | m + 2, hv => simp [rho2] at hv
  · obtain ⟨hb, h1⟩ := shift_some h1
    obtain ⟨hb', h2⟩ := shift_some h2
    obtain ⟨m, rfl⟩ : ∃ m, b = N + m := ⟨b - N, by omega⟩
    obtain ⟨m', rfl⟩ : ∃ m, b' = N + m := ⟨b' - N, by omega⟩
    rw [Nat.add_sub_cancel_left] at h1 h2
    have no : ∀ v v', rho2 sv o 0 = some v → rho2 sv o 1 = some v' → own v = some g → own v' = some g → False := by
      intro v v' h1 h2 o1 o2
      simp only [rho2, Option.some.injEq] at h1 h2
      subst h1; subst h2
      simp [own] at o2
      subst o2
      exact hne o1
    match m, m', h1, h2 with
    | 0, 0, _, _ => rfl
    | 1, 1, _, _ => rfl
    | 0, 1, h1, h2 => exact (no _ _ h1 h2 o1 o2).elim
    | 1, 0, h1, h2 => exact (no _ _ h2 h1 o2 o1).elim
    | m + 2, _, h1, _ => simp [rho2] at h1
    | 0, m + 2, _, h2 => simp [rho2] at h2
    | 1, m + 2, _, h2 => simp [rho2] at h2
end Go.Ev
namespace Go.So
open Go Go.Ev
/-- the lines of an entry, as they lie -/
def thV (v : Value) : Value := match v with
  | .agg a => a.getD 2 (.tuple #[])
  | _ => .tuple #[]
/-- an entry and its value -/
def enZ (p : Acc.En × Value) : En := (p.1.1, p.1.2.1, thV p.2)
theorem enZ_lt (p q : Acc.En × Value) : enLt (enZ p) (enZ q) = Acc.ltB p.1 q.1 := rfl
end Go.So
namespace Go.Proofs.YtdmkmbaaemhhhaaGreatDoor
open Go Go.Ev Go.RowKit Go.So
theorem enW_val {w : World} {ok : Nat → Prop} {x : Acc.En} {v : Value} (h : RelD w ok (enW x) v) : v = .agg #[.string x.1, .int .i64 x.2.1, thV v] ∧ (thV v).oneCell' = true := by
  unfold enW at h
  cases h with
  | agg cs vs hl h1 h =>
    match vs, hl, h1, h with
    | [a, b, c], _, h1, h =>
      have e0 := h 0 _ a rfl rfl
      have e1 := h 1 _ b rfl rfl
      cases e0
      cases e1
      exact ⟨rfl, h1 c (by simp)⟩
/-- an entry's value, its lines as they lie -/
theorem enR_rel {w : World} {ok : Nat → Prop} {v : Value} {x : En} (h : RelD w ok (enR x) v) : v = .agg #[.string x.1, .int .i64 x.2.1, x.2.2] := by
  unfold enR at h
  cases h with
  | agg cs vs hl h1 h =>
    match vs, hl, h1, h with
    | [a, b, c], _, h1, h =>
      have e0 := h 0 _ a rfl rfl
      have e1 := h 1 _ b rfl rfl
      have e2 := h 2 _ c rfl rfl
      cases e0
      cases e1
      cases e2
      rfl
theorem rel_enR {w : World} {ok : Nat → Prop} {x : En} (h : x.2.2.oneCell' = true) : RelD w ok (enR x) (.agg #[.string x.1, .int .i64 x.2.1, x.2.2]) := by
  refine .agg [.str x.1, .int .i64 x.2.1, .raw x.2.2] [.string x.1, .int .i64 x.2.1, x.2.2] rfl (fun v hv => ?_) fun j c v hc hv => ?_
  · simp only [List.mem_cons, List.not_mem_nil, or_false] at hv
    rcases hv with rfl | rfl | rfl
    · rfl
    · rfl
    · exact h
  · match j, hc, hv with
    | 0, hc, hv => simp at hc hv; subst hc; subst hv; exact .str _
    | 1, hc, hv => simp at hc hv; subst hc; subst hv; exact .int _ _
    | 2, hc, hv => simp at hc hv; subst hc; subst hv; exact .raw _
    | j + 3, hc, _ => simp at hc
theorem sorted_list {D : Array En} {Z : List (Acc.En × Value)} (h : D.toList = Z.map enZ) (hs : Sort.SortedIn enLt 0 D.size D) : Acc.srtW (Z.map (·.1)) := by
  intro i k y z hik hy hz
  rw [List.getElem?_map, Option.map_eq_some_iff] at hy hz
  obtain ⟨p, hp, rfl⟩ := hy
  obtain ⟨q, hq, rfl⟩ := hz
  have hlen : D.size = Z.length := by
    have := congrArg List.length h
    simpa using this
  have gp : D[i]! = enZ p := by
    have : D.toList[i]? = some (enZ p) := by rw [h, List.getElem?_map, hp]; rfl
    rw [Array.getElem?_toList] at this
    rw [Array.getElem!_eq_getD, Array.getD_eq_getD_getElem?, this]
    rfl
  have gq : D[k]! = enZ q := by
    have : D.toList[k]? = some (enZ q) := by rw [h, List.getElem?_map, hq]; rfl
    rw [Array.getElem?_toList] at this
    rw [Array.getElem!_eq_getD, Array.getD_eq_getD_getElem?, this]
    rfl
  have hk : k < Z.length := (List.getElem?_eq_some_iff.1 hq).1
  have := hs i k (Nat.zero_le _) hik (by omega)
  rw [gp, gq, enZ_lt] at this
  exact this
set_option maxHeartbeats 1000000 in
/-- SORT.SLICE AT ENTRIES -/
theorem slice_entries {J : World → Prop} (hJ : Stable J) (F F' : List Acc.En) (hp : F'.Perm F) (hs : Acc.srtE F') (hn : F.length < 1000000) :
    SrtAt Tryz.prog J 45 23 46 1 28 3 (F.map enW) (F'.map enW) := by
  refine ⟨callOk Tryz.func45 rfl rfl, ?_⟩
  intro w B ok sv o cs hJw hB hok hone hpos hown hBo hlto hne hra hth h1c hk
  have hi0 : Tryz.prog.info? 23 = some slT := by kernel_rfl
  have hd0 : slT.desc = .slice 28 := by kernel_rfl
  have hpk : Tryz.prog.packed 23 = false := by kernel_rfl
  have hie : Tryz.prog.info? 28 = some slE := by kernel_rfl
  have hke : ∀ w, (Extern.Rtype.kind 28).run Tryz.prog w = .ok 25 w := fun _ => by kernel_rfl
  have hlen : F'.length = F.length := hp.length_eq
  have tiny : ∀ (p : Option Addr) (n c : Nat), n ≤ 1 → sv = .slice p n c → F' = F → Calls Tryz.prog 45 #[.iface 23 sv, .func (.func 46) #[] #[.pointer (some ⟨o, 0, none⟩)]] w fun e w' => e = .returned (.tuple #[]) ∧ Below B w w' ∧ (∀ g, g < w.heap.size → own sv ≠ some g → g ≠ o → w'.heap[g]? = w.heap[g]?) ∧ w'.rangeAt o 0 cs ∧ w'.there o 0 cs.length ∧ w.heap.size ≤ w'.heap.size ∧ OwnV w' ok B 28 3 sv (F'.map enW) := by
    intro p n c h1 hsv hFF
    have hf : ∃ f, Tryz.prog.funcs.findIdx? (·.name == "internal/reflectlite" ++ ".Swapper$" ++ toString (Lib.swapperK n slE 25)) = some f := by
      have : n = 0 ∨ n = 1 := by omega
      rcases this with rfl | rfl
      · exact ⟨121, by kernel_rfl⟩
      · exact ⟨122, by kernel_rfl⟩
    obtain ⟨f, hf⟩ := hf
    rw [hFF, hsv]
    refine (Any.sort_Slice_tiny Tryz.laysGg6 23 28 slT slE hi0 hd0 hpk hie 25 hke p n c h1 f hf (.func 46) #[] _ w).mono ?_
    rintro e w' ⟨rfl, os, rfl⟩
    rw [← hsv]
    exact ⟨rfl, below_grow hB os, fun g hg _ _ => Sort.heap_grow_old w os hg, range_heap hra (Sort.heap_grow_old w os hlto), there_heap hth (Sort.heap_grow_old w os hlto), by rw [Sort.size_grow]; omega,
      hown.mono (fun g hg => ⟨hg, Sort.heap_grow_old w os (hok g hg).1⟩) fun g hg => Sort.heap_grow_old w os (hown.own_ge hg).2⟩
  rcases hown.form with ⟨ad, hsv, hF⟩ | ⟨g, cap, vs, hsv, hc, hle, hl, hsz, h1, hrr, ho⟩
  · refine tiny ad 0 0 (by omega) hsv ?_
    have : F = [] := by simpa using hF
    subst this
    simpa using hlen
  by_cases h2 : F.length ≤ 1
  · refine tiny _ _ _ ?_ hsv ?_
    · rw [List.length_map]; exact h2
    · match F, F', hp, h2 with
      | [], F', hp, _ => simpa using hp
      | [x], F', hp, _ => simpa using hp
  rw [List.length_map] at hle hl hsv
  have h2' : 2 ≤ F.length := by omega
  -- what lies there
  obtain ⟨Z, hZ⟩ : ∃ Z, Z = F.zip vs := ⟨_, rfl⟩
  have hZF : Z.map (·.1) = F := by rw [hZ, List.map_fst_zip (by omega)]
  have hZl : Z.length = F.length := by rw [← hZF, List.length_map]
  have hZr : ∀ q ∈ Z, RelD w ok (enW q.1) q.2 := by
    intro q hq
    obtain ⟨i, hi⟩ := List.mem_iff_getElem?.1 hq
    rw [hZ, List.getElem?_zip_eq_some] at hi
    exact hrr i _ _ (by rw [List.getElem?_map, hi.1]; rfl) hi.2
  obtain ⟨D, hD⟩ : ∃ D : Array En, D.toList = Z.map enZ := ⟨(Z.map enZ).toArray, rfl⟩
  have hDs : D.size = F.length := by
    have := congrArg List.length hD
    simpa [hZl] using this
  have hDl : D.toList.length = F.length := by rw [hD, List.length_map, hZl]
  obtain ⟨a, r, rfl⟩ : ∃ a r, cs = a :: sv :: r := by
    match cs, hk with
    | a :: b :: r, hk => simp at hk; subst hk; exact ⟨a, r, rfl⟩
  have hlim : Lib.bitLen F.length < 1000 := Nat.lt_of_le_of_lt (Lib.bitLen_le F.length 62 (by omega) (by omega)) (by omega)
  have hM := enPdq hJ a r D (Lib.bitLen F.length) (by omega) hlim
  rw [hDs] at hM
  obtain ⟨hP, hS⟩ := Sort.pdq_sorts enLt enLt_swo D 0 D.size (Lib.bitLen F.length) true true (Nat.zero_le _) (Nat.le_refl _) (Or.inl rfl)
  rw [hDs] at hP hS
  generalize Sort.pdq enLt D 0 F.length (Lib.bitLen F.length) true true = D' at hM hP hS
  have hD's : D'.size = F.length := by rw [hP.1, hDs]
  have hD'l : D'.toList.length = F.length := hD's
  have hDp : D'.toList.Perm (Z.map enZ) := by
    have := hP.2.2
    rw [← hD]
    rwa [show D'.extract 0 F.length = D' by rw [← hD's]; simp, show D.extract 0 F.length = D by rw [← hDs]; simp] at this
  obtain ⟨Z', hZp, hZ'⟩ := Acc.perm_map enZ hDp rfl
  have hF' : Z'.map (·.1) = F' := by
    refine Acc.srt_uniq hs (sorted_list hZ' (by rw [hD's]; exact hS)) ?_
    have : (Z'.map (·.1)).Perm (Z.map (·.1)) := hZp.map _
    rw [hZF] at this
    exact this.trans hp.symm
  subst hsv
  have hog : own (.slice (some ⟨g, 0, none⟩) F.length cap) = some g := by simp [own, hc]
  obtain ⟨hBg, hgw⟩ := hown.own_ge hog
  have hgo : g ≠ o := fun e => hne (by rw [hog, e])
  have hf9 : Tryz.prog.funcs.findIdx? (·.name == "internal/reflectlite" ++ ".Swapper$" ++ toString (Lib.swapperK F.length slE 25)) = some 129 := by
    rw [slK F.length h2']
    kernel_rfl
  refine Any.sort_Slice_of_pdq Tryz.laysGg6 23 28 slT slE hi0 hd0 hpk hie 25 hke _ F.length cap (by omega) _ hf9 (.func 46) #[] _ w (fun w' => Below B w w' ∧ (∀ k, k < w.heap.size → own (.slice (some ⟨g, 0, none⟩) F.length cap) ≠ some k → k ≠ o → w'.heap[k]? = w.heap[k]?) ∧ w'.rangeAt o 0 (a :: .slice (some ⟨g, 0, none⟩) F.length cap :: r) ∧ w'.there o 0 (a :: Value.slice (some ⟨g, 0, none⟩) F.length cap :: r).length ∧ w.heap.size ≤ w'.heap.size ∧ OwnV w' ok B 28 3 (.slice (some ⟨g, 0, none⟩) F.length cap) (F'.map enW)) ?_
  have hB2 : sliceBound Tryz.prog 28 slE 25 (some ⟨g, 0, none⟩) F.length cap = #[.slice (some ⟨g, 0, none⟩) F.length cap, typeHandle Tryz.prog 28] := by
    unfold sliceBound
    rw [slK F.length h2']
    rfl
  rw [hB2]
  obtain ⟨w1, hw1, hb1, hs1, hk1⟩ : ∃ w1, w1 = sliceWorld Tryz.prog Tryz.laysGg6_ren 23 (some ⟨g, 0, none⟩) F.length cap w ∧ Below B w w1 ∧ w.heap.size ≤ w1.heap.size ∧ ∀ k, k < w.heap.size → w1.heap[k]? = w.heap[k]? := by
    refine ⟨_, rfl, ?_, ?_, ?_⟩
    · unfold sliceWorld
      exact ((Below.refl B w).alloc hB _).alloc (by rw [World.size_alloc]; omega) _
    · unfold sliceWorld
      rw [World.size_alloc, World.size_alloc]
      omega
    · intro k hk
      unfold sliceWorld
      rw [Below.heap_alloc _ _ _ (by rw [World.size_alloc]; omega), Below.heap_alloc _ _ _ hk]
  rw [← hw1]
  have hown1 : OwnV w1 (okAt (fun _ => False) B (shift 1000000 (rho2 (.slice (some ⟨g, 0, none⟩) F.length cap) o)) w1) B 28 3 (.slice (some ⟨g, 0, none⟩) F.length cap) (D.toList.map enR) := by
    have hg1 := hown.mono (w' := w1) (ok' := ok) (fun k hk => ⟨hk, hk1 k (hok k hk).1⟩) fun k hk => hk1 k (hown.own_ge hk).2
    refine ⟨vs, by rw [List.length_map, hDl, hl], hsz, h1, fun i e v he hv => ?_, ?_⟩
    · rw [hD, List.map_map, List.getElem?_map, Option.map_eq_some_iff] at he
      obtain ⟨q, hq, rfl⟩ := he
      rw [hZ, List.getElem?_zip_eq_some] at hq
      have hv' : q.2 = v := by
        have := hq.2
        rw [hv] at this
        exact (Option.some.inj this).symm
      have hr := hrr i _ _ (by rw [List.getElem?_map, hq.1]; rfl) hv
      obtain ⟨e1, e2⟩ := enW_val hr
      show RelD w1 _ (enR (enZ q)) v
      rw [e1]
      unfold enZ
      rw [hv']
      exact rel_enR (x := (q.1.1, q.1.2.1, thV v)) e2
    · right
      rw [List.length_map] at ho
      rw [List.length_map, hDl]
      refine ⟨ho.1, ?_⟩
      rcases ho.2 with ⟨hn, _⟩ | ⟨g', cap', cur, hq, hbb, hgg, rest⟩
      · cases hn
      · refine .inr ⟨g', cap', cur, hq, hbb, ?_, rest⟩
        simp at hq
        rw [← hq.1, hk1 g hgw]
        rw [← hq.1] at hgg
        exact hgg
  have hra1 : w1.rangeAt o 0 (a :: .slice (some ⟨g, 0, none⟩) F.length cap :: r) := range_heap hra (hk1 o hlto)
  have hth1 : w1.there o 0 (a :: Value.slice (some ⟨g, 0, none⟩) F.length cap :: r).length := there_heap hth (hk1 o hlto)
  have hboxR : ∀ (W : World) (okk : Nat → Prop), Rel W okk (shift 1000000 (rho2 (.slice (some ⟨g, 0, none⟩) F.length cap) o)) (boxV a r) (.agg (a :: .slice (some ⟨g, 0, none⟩) F.length cap :: r).toArray) := by
    intro W okk
    unfold boxV
    refine .agg _ _ (by simp) h1c fun j c v hc hv => ?_
    match j, hc, hv with
    | 0, hc, hv => simp at hc hv; subst hc; subst hv; exact .ro (.raw _)
    | 1, hc, hv => simp at hc hv; subst hc; subst hv; exact .vec _ _ rfl rfl
    | j + 2, hc, hv =>
      simp at hc hv
      obtain ⟨u, hu, rfl⟩ := hc
      rw [hv] at hu
      cases hu
      exact .ro (.raw _)
  have hI := rho2_inv (bv := boxV a r) (val := .undef) (vv := .tuple #[]) (Nat.le_trans hB hs1) hpos hown1 hBo (by omega) hne ⟨o, .agg (a :: .slice (some ⟨g, 0, none⟩) F.length cap :: r).toArray, rfl, hBo, by omega, hra1, hth1, h1c, hboxR _ _⟩
  have hrelA : ∀ (j : Nat) c u, [V.agg [.fn 46 [.ptr 1000001 0], .fn 129 [.vec 1000000, .raw (typeHandle Tryz.prog 28)]], .int .i64 0, .int .i64 F.length, .int .i64 (Lib.bitLen F.length)][j]? = some c →
      [Value.agg #[.func (.func 46) #[] #[.pointer (some ⟨o, 0, none⟩)], .func (.func 129) #[] #[.slice (some ⟨g, 0, none⟩) F.length cap, typeHandle Tryz.prog 28]], .int .i64 0, .int .i64 F.length, .int .i64 (Lib.bitLen F.length)][j]? = some u →
      Rel w1 (fun _ => False) (shift 1000000 (rho2 (.slice (some ⟨g, 0, none⟩) F.length cap) o)) c u := by
    intro j c u hc hu
    match j, hc, hu with
    | 0, hc, hu =>
      simp at hc hu; subst hc; subst hu
      refine .agg [.fn 46 [.ptr 1000001 0], .fn 129 [.vec 1000000, .raw (typeHandle Tryz.prog 28)]] [.func (.func 46) #[] #[.pointer (some ⟨o, 0, none⟩)], .func (.func 129) #[] #[.slice (some ⟨g, 0, none⟩) F.length cap, typeHandle Tryz.prog 28]] rfl (fun v hv => ?_) fun j c v hc hv => ?_
      · simp only [List.mem_cons, List.not_mem_nil, or_false] at hv
        rcases hv with rfl | rfl <;> rfl
      · match j, hc, hv with
        | 0, hc, hv =>
          simp at hc hv; subst hc; subst hv
          refine .fn _ [.ptr 1000001 0] [.pointer (some ⟨o, 0, none⟩)] rfl fun j c v hc hv => ?_
          match j, hc, hv with
          | 0, hc, hv => simp at hc hv; subst hc; subst hv; exact .ptr _ _ o rfl
          | j + 1, hc, _ => simp at hc
        | 1, hc, hv =>
          simp at hc hv; subst hc; subst hv
          refine .fn _ [.vec 1000000, .raw (typeHandle Tryz.prog 28)] [.slice (some ⟨g, 0, none⟩) F.length cap, typeHandle Tryz.prog 28] rfl fun j c v hc hv => ?_
          match j, hc, hv with
          | 0, hc, hv => simp at hc hv; subst hc; subst hv; exact .vec _ _ rfl rfl
          | 1, hc, hv => simp at hc hv; subst hc; subst hv; exact .ro (.raw _)
          | j + 2, hc, _ => simp at hc
        | j + 2, hc, _ => simp at hc
    | 1, hc, hu => simp at hc hu; subst hc; subst hu; exact .ro (.int _ _)
    | 2, hc, hu => simp at hc hu; subst hc; subst hu; exact .ro (.int _ _)
    | 3, hc, hu => simp at hc hu; subst hc; subst hu; exact .ro (.int _ _)
    | j + 4, hc, _ => simp at hc
  have hCX := hM w1 B (rho2 (.slice (some ⟨g, 0, none⟩) F.length cap) o) _ (fun w' hb => hJw w' (hb1.trans hb)) hI rfl hrelA
  rcases hCX with ⟨_, hC⟩ | ⟨val, w', hrun, _⟩
  case inr =>
    exfalso
    have := enters_of (P := Tryz.prog) Tryz.func92 (by kernel_rfl) rfl
    rw [this] at hrun
    cases hrun
  refine hC.mono ?_
  rintro e w' ⟨val, rfl, hbel, hkp, hI', hval⟩
  have hval' : val = .tuple #[] := by
    cases hval with
    | ro h => cases h with | tup cs vs hl h => match vs, hl with | [], _ => rfl
    | tup cs vs hl h => match vs, hl with | [], _ => rfl
  subst hval'
  have hkeep : ∀ k, k < w.heap.size → own (.slice (some ⟨g, 0, none⟩) F.length cap) ≠ some k → k ≠ o → w'.heap[k]? = w.heap[k]? := by
    intro k hk hno hko
    rw [← hk1 k hk]
    refine hkp.1 k (by omega) fun b v hv => ?_
    obtain ⟨hb, hv⟩ := shift_some hv
    obtain ⟨m, rfl⟩ : ∃ m, b = 1000000 + m := ⟨b - 1000000, by omega⟩
    rw [Nat.add_sub_cancel_left] at hv
    match m, hv with
    | 0, hv => simp only [rho2, Option.some.injEq] at hv; subst hv; exact hno
    | 1, hv =>
      simp only [rho2, Option.some.injEq] at hv
      subst hv
      intro h
      simp [own] at h
      exact hko h.symm
    | m + 2, hv => simp [rho2] at hv
  refine ⟨rfl, hb1.trans hbel, hkeep, ?_⟩
  obtain ⟨svo, hsvo, go, valo, hgo', _, _, hra', hth', _, hrelo⟩ := hI'.blk 1000001 (.box (boxV a r)) rfl
  have hsv1 : svo = .pointer (some ⟨o, 0, none⟩) := (Option.some.inj hsvo).symm
  subst hsv1
  simp at hgo'
  subst hgo'
  have hcs : valo.cells.toList = a :: .slice (some ⟨g, 0, none⟩) F.length cap :: r := by
    unfold boxV at hrelo
    obtain ⟨us, rfl, hlu, _, hus⟩ := hrelo.agg_inv
    show us = _
    simp at hlu
    refine List.ext_getElem? fun j => ?_
    match j with
    | 0 =>
      have h := hus 0 (.raw a) us[0] rfl (by simp)
      rw [List.getElem?_eq_getElem (by omega)]
      cases h with
      | ro h => cases h; rfl
    | 1 =>
      have h := (hus 1 (.vec 1000000) us[1] rfl (by simp)).vec_inv
      rw [List.getElem?_eq_getElem (by omega)]
      simp only [List.getElem?_cons_succ, List.getElem?_cons_zero]
      exact h.symm
    | j + 2 =>
      by_cases hj : j < r.length
      · have h := hus (j + 2) (.raw r[j]) us[j + 2] (by simp [hj]) (by simp)
        rw [List.getElem?_eq_getElem (by omega)]
        simp only [List.getElem?_cons_succ, List.getElem?_eq_getElem hj]
        generalize us[j + 2] = u at h
        cases h with
        | ro h => cases h; rfl
      · rw [List.getElem?_eq_none (by omega), List.getElem?_eq_none (by simp; omega)]
  rw [hcs] at hra'
  have hth2 : w'.there o 0 (a :: Value.slice (some ⟨g, 0, none⟩) F.length cap :: r).length := by
    rw [← hcs, Array.length_toList]
    exact hth'
  refine ⟨hra', hth2, Nat.le_trans hs1 hkp.2, ?_⟩
  obtain ⟨sv2, hsv2, _, hown2⟩ := hI'.blk 1000000 (.vec 28 3 (D'.toList.map enR)) rfl
  have hsv3 : sv2 = .slice (some ⟨g, 0, none⟩) F.length cap := (Option.some.inj hsv2).symm
  subst hsv3
  obtain ⟨vs', hl', hs', h1', hr', ho'⟩ := hown2
  rw [List.length_map, hD'l] at hl' ho'
  refine ⟨vs', by rw [List.length_map, hl', hlen], hs', h1', fun i e v he hv => ?_, .inr ?_⟩
  · rw [← hF', List.map_map, List.getElem?_map, Option.map_eq_some_iff] at he
    obtain ⟨q, hq, rfl⟩ := he
    have hv2 := enR_rel (hr' i (enR (enZ q)) v (by rw [hZ', List.map_map, List.getElem?_map, hq]; rfl) hv)
    have hqr := hZr q (hZp.mem_iff.1 (List.mem_of_getElem? hq))
    have hq2 := (enW_val hqr).1
    have hvq : v = q.2 := by rw [hv2, hq2]; rfl
    rw [hvq]
    exact hqr.mono fun k hk => ⟨hk, hkeep k (hok k hk).1 (hok k hk).2.1 (hok k hk).2.2⟩
  · rw [List.length_map, hlen]
    rcases ho' with ⟨_, _, hn⟩ | ho'
    · have := congrArg List.length hn
      rw [List.length_map, hD'l, List.length_nil] at this
      omega
    · exact ho'
end Go.Proofs.YtdmkmbaaemhhhaaGreatDoor
namespace Go.Ev
open Go Go.RowKit
noncomputable def st1 (t : TypeId) (lf : FuncId) (k : Nat) (T : TypeId) (sz : Nat) (es es' : List V) : TypeId → FuncId → Nat → TypeId → Nat → List V → Option (List V) := fun t' lf' k' T' sz' e0 => open Classical in if t' = t ∧ lf' = lf ∧ k' = k ∧ T' = T ∧ sz' = sz ∧ e0 = es then some es' else none
theorem st1_eq (t : TypeId) (lf : FuncId) (k : Nat) (T : TypeId) (sz : Nat) (es es' : List V) : st1 t lf k T sz es es' t lf k T sz es = some es' := by unfold st1; rw [if_pos ⟨rfl, rfl, rfl, rfl, rfl, rfl⟩]
theorem st1_ok {P : Program} {J : World → Prop} {f : FuncId} {t : TypeId} {lf : FuncId} {k : Nat} {T : TypeId} {sz : Nat} {es es' : List V} (h : SrtAt P J f t lf k T sz es es') : Sr P J f (st1 t lf k T sz es es') := by
  intro t' lf' k' T' sz' e0 e1 he
  unfold st1 at he
  split at he
  · rename_i hc
    obtain ⟨rfl, rfl, rfl, rfl, rfl, rfl⟩ := hc
    simp only [Option.some.injEq] at he
    subst he
    exact h
  · cases he
end Go.Ev
namespace Go.Proofs.YtdmkmbaaemhhhaaGreatDoor
open Go Go.Ev Go.RowKit Go.Acc
set_option maxHeartbeats 4000000
set_option linter.unusedSimpArgs false
set_option linter.unusedVariables false

set_option maxRecDepth 20000 in
set_option maxHeartbeats 16000000 in
theorem rpost_sound {J : World → Prop} (hJ : Stable J) (A : List (ByteArray × Int)) (E : List En) (s : Int) (x : En) (hz : bkChk A E s = 0) (hkx : x.1.size ≤ maxLen) (hlx : x.2.2.length ≤ maxLen) : SoundAt Tryz.prog J 14 [bkV A E s, enW x] (posR A E s x) [] := by
  obtain ⟨k, d, l⟩ := x
  simp only at hkx hlx
  have hrE := rentryF_eq (day := d) hkx hlx
  have hk := bkChk_ok hz
  have hEl : E.length ≤ 60 := hk.2.2.1
  have hG := rget_sound hJ A E s k (by simp only [maxLen]; omega)
  unfold bkV at hG ⊢
  rw [enW_mk]
  by_cases hx : enX (k, d, l) = 0
  case neg =>
    have e1 : postE A E s (k, d, l) = enX (k, d, l) := by unfold postE; rw [if_neg (fun h => h hz), if_pos hx]
    have eR : posR A E s (k, d, l) = .tup [.agg [.zero, .zero, .int .i64 0], .int .i64 (enE k d l)] := by unfold posR; rw [e1, if_neg hx]; rfl
    have hx' : ¬ enE k d l = 0 := hx
    rw [eR]
    refine evFn (l := [(21, rentryF)]) (nv := nv0) (fz := fz0) (dr := dr14) (dd := dd14) (lam := []) (ms := ms0) ⟨rentry_snd hJ, trivial⟩ hJ trivial ms0_ok Tryz.func14 rfl rfl (Nat.le_of_ble_eq_true rfl) (Nat.le_of_ble_eq_true rfl) drOk14 ?_
    dsimp only [Tryz.f14, dr14, dd14, Option.getD_some]
    refine ev_start ?_
    simp (disch := omega) only [hrE, hx', go_sem, evP_D, evD_guard, evD_cons, evD_zero, evD_nil]
  have hx' : enE k d l = 0 := hx
  have hll : l.length ≤ 12 := (enX_ok hx).2.1
  cases hg : getE k E with
  | some y =>
    have e1 : postE A E s (k, d, l) = if y = (k, d, l) then 0 else 5 := by unfold postE; rw [if_neg (fun h => h hz), if_neg (fun h => h hx)]; simp only [hg]
    have e2 : postB E (k, d, l) = E := by unfold postB; simp only [hg]
    have hS := rsame_sound hJ (k, d, l) y
    unfold rgV at hG
    rw [hg] at hG
    obtain ⟨k', d', l'⟩ := y
    simp only [enW_mk] at hS hG
    by_cases hy : (k', d', l') = (k, d, l)
    · rw [if_pos hy] at e1
      have eR : posR A E s (k, d, l) = .tup [.agg [.row 2 (A.map acV), .row 3 (E.map enW), .int .i64 s], .int .i64 0] := by unfold posR; rw [e1, if_pos rfl, e2]; rfl
      rw [eR]
      have hy' := decide_eq_true hy.symm
      rw [hy'] at hS
      refine evFn (l := [(21, rentryF), (15, at1 _ (_, [])), (13, at1 _ (_, []))]) (nv := nv0) (fz := fz0) (dr := dr14) (dd := dd14) (lam := []) (ms := ms0) ⟨rentry_snd hJ, at1_snd hG, at1_snd hS, trivial⟩ hJ trivial ms0_ok Tryz.func14 rfl rfl (Nat.le_of_ble_eq_true rfl) (Nat.le_of_ble_eq_true rfl) drOk14 ?_
      dsimp only [Tryz.f14, dr14, dd14, Option.getD_some]
      refine ev_start ?_
      simp (disch := omega) only [at1_eq, hrE, hx', go_sem, evP_D, evD_guard, evD_cons, evD_zero, evD_nil]
    · rw [if_neg hy] at e1
      have eR : posR A E s (k, d, l) = .tup [.agg [.zero, .zero, .int .i64 0], .int .i64 5] := by unfold posR; rw [e1, if_neg (by decide)]; rfl
      rw [eR]
      have hy' := decide_eq_false (fun h : (k, d, l) = (k', d', l') => hy h.symm)
      rw [hy'] at hS
      refine evFn (l := [(21, rentryF), (15, at1 _ (_, [])), (13, at1 _ (_, []))]) (nv := nv0) (fz := fz0) (dr := dr14) (dd := dd14) (lam := []) (ms := ms0) ⟨rentry_snd hJ, at1_snd hG, at1_snd hS, trivial⟩ hJ trivial ms0_ok Tryz.func14 rfl rfl (Nat.le_of_ble_eq_true rfl) (Nat.le_of_ble_eq_true rfl) drOk14 ?_
      dsimp only [Tryz.f14, dr14, dd14, Option.getD_some]
      refine ev_start ?_
      simp (disch := omega) only [at1_eq, hrE, hx', go_sem, evP_D, evD_guard, evD_cons, evD_zero, evD_nil]
  | none =>
    unfold rgV at hG
    rw [hg] at hG
    simp only at hG
    have e0 : postE A E s (k, d, l) = if knownB A (k, d, l) = false then 4 else if d ≤ s then 9 else if E.length = 60 then 2 else 0 := by unfold postE; rw [if_neg (fun h => h hz), if_neg (fun h => h hx)]; simp only [hg]
    cases hkn : knownB A (k, d, l) with
    | false =>
      have e1 : postE A E s (k, d, l) = 4 := by rw [e0, if_pos hkn]
      have eR : posR A E s (k, d, l) = .tup [.agg [.zero, .zero, .int .i64 0], .int .i64 4] := by unfold posR; rw [e1, if_neg (by decide)]; rfl
      rw [eR]
      refine evFn (l := [(21, rentryF), (15, at1 _ (_, [])), (40, hasF)]) (nv := nv0) (fz := fz0) (dr := dr14) (dd := dd14) (lam := []) (ms := ms0) ⟨rentry_snd hJ, at1_snd hG, has_snd hJ, trivial⟩ hJ trivial ms0_ok Tryz.func14 rfl rfl (Nat.le_of_ble_eq_true rfl) (Nat.le_of_ble_eq_true rfl) drOk14 ?_
      dsimp only [Tryz.f14, dr14, dd14, Option.getD_some]
      refine ev_start ?_
      simp (disch := omega) only [at1_eq, hrE, hx', List.length_map, go_sem, evP_D, evD_guard, evD_cons, evD_zero, evD_nil]
      refine evQ_loop [2, 3, 4, 32, 33, 34] [16, 24, 32] (fun σ => ∃ i : Nat, (i ≤ l.length ∧ ∀ j p, j < i → l[j]? = some p → hasA A p.1 = true) ∧ σ = ⟨[(2, .ptr 16 0), (3, .ptr 24 0), (4, .ptr 32 0), (32, .row 2 (l.map acV)), (33, .int .i64 l.length), (34, .int .i64 i)],
          [(16, .box (.agg [.row 2 (A.map acV), .row 3 (E.map enW), .int .i64 s])), (24, .box (.agg [.str k, .int .i64 d, .row 2 (l.map acV)])), (32, .box (.agg [.zero, .zero, .int .i64 0]))]⟩)
        (fun σ => l.length - (match Ev.look 34 σ.env with | some (.int _ n) => n.toNat | _ => 0)) ?_ ?_
      · simp only [go_sem, evP_D, evD_guard, evD_cons, evD_zero, evD_nil]
        exact ⟨0, ⟨Nat.zero_le _, fun _ _ h => by omega⟩, rfl⟩
      · rintro σ ⟨i, ⟨hi, hall⟩, rfl⟩
        by_cases hlt : i < l.length
        case neg =>
          have hi' : i = l.length := by omega
          subst hi'
          have hlt' : ¬ ((l.length : Int) < l.length) := by omega
          exfalso
          have : knownB A (k, d, l) = true := List.all_eq_true.2 fun p hp => by
            obtain ⟨j, hj⟩ := List.mem_iff_getElem?.1 hp
            exact hall j p (List.getElem?_eq_some_iff.1 hj).1 hj
          rw [hkn] at this
          cases this
        have hlt' : (i : Int) < l.length := by omega
        obtain ⟨⟨c, m⟩, hcn⟩ : ∃ p, l[i]? = some p := ⟨_, List.getElem?_eq_getElem hlt⟩
        have hg := acV_get hcn
        have hH := hasF_eq A c
        cases hb : hasA A c with
        | true =>
          rw [hb] at hH
          simp (disch := (first | omega | assumption)) only [hlt', idx_nat, List.length_map, hg, hH, go_sem, evP_D, evD_guard, evD_cons, evD_zero, evD_nil]
          refine ⟨⟨i + 1, ⟨hlt, fun j p hj hp => ?_⟩, rfl⟩, ?_⟩
          · by_cases hij : j = i
            · subst hij
              rw [hcn] at hp
              cases hp
              exact hb
            · exact hall j p (by omega) hp
          · have e3 : ((i : Int) + 1).toNat = i + 1 := by omega
            rw [e3, Int.toNat_natCast]; exact Nat.sub_lt_sub_left hlt (Nat.lt_succ_self i)
        | false =>
          rw [hb] at hH
          simp (disch := (first | omega | assumption)) only [hlt', idx_nat, List.length_map, hg, hH, go_sem, evP_D, evD_guard, evD_cons, evD_zero, evD_nil]
    | true =>
      unfold knownB at hkn
      by_cases hds : d ≤ s
      · have e1 : postE A E s (k, d, l) = 9 := by rw [e0, if_neg (by unfold knownB; rw [hkn]; simp), if_pos hds]
        have eR : posR A E s (k, d, l) = .tup [.agg [.zero, .zero, .int .i64 0], .int .i64 9] := by unfold posR; rw [e1, if_neg (by decide)]; rfl
        rw [eR]
        refine evFn (l := [(21, rentryF), (15, at1 _ (_, [])), (40, hasF)]) (nv := nv0) (fz := fz0) (dr := dr14) (dd := dd14) (lam := []) (ms := ms0) ⟨rentry_snd hJ, at1_snd hG, has_snd hJ, trivial⟩ hJ trivial ms0_ok Tryz.func14 rfl rfl (Nat.le_of_ble_eq_true rfl) (Nat.le_of_ble_eq_true rfl) drOk14 ?_
        dsimp only [Tryz.f14, dr14, dd14, Option.getD_some]
        refine ev_start ?_
        simp (disch := omega) only [at1_eq, hrE, hx', List.length_map, go_sem, evP_D, evD_guard, evD_cons, evD_zero, evD_nil]
        refine evQ_loop [2, 3, 4, 32, 33, 34] [16, 24, 32] (fun σ => ∃ i : Nat, (i ≤ l.length ∧ ∀ j p, j < i → l[j]? = some p → hasA A p.1 = true) ∧ σ = ⟨[(2, .ptr 16 0), (3, .ptr 24 0), (4, .ptr 32 0), (32, .row 2 (l.map acV)), (33, .int .i64 l.length), (34, .int .i64 i)],
            [(16, .box (.agg [.row 2 (A.map acV), .row 3 (E.map enW), .int .i64 s])), (24, .box (.agg [.str k, .int .i64 d, .row 2 (l.map acV)])), (32, .box (.agg [.zero, .zero, .int .i64 0]))]⟩)
          (fun σ => l.length - (match Ev.look 34 σ.env with | some (.int _ n) => n.toNat | _ => 0)) ?_ ?_
        · simp only [go_sem, evP_D, evD_guard, evD_cons, evD_zero, evD_nil]
          exact ⟨0, ⟨Nat.zero_le _, fun _ _ h => by omega⟩, rfl⟩
        · rintro σ ⟨i, ⟨hi, hall⟩, rfl⟩
          by_cases hlt : i < l.length
          case neg =>
            have hi' : i = l.length := by omega
            subst hi'
            have hlt' : ¬ ((l.length : Int) < l.length) := by omega
            simp (disch := (first | omega | assumption)) only [hlt', hds, go_sem, evP_D, evD_guard, evD_cons, evD_zero, evD_nil]
          have hlt' : (i : Int) < l.length := by omega
          obtain ⟨⟨c, m⟩, hcn⟩ : ∃ p, l[i]? = some p := ⟨_, List.getElem?_eq_getElem hlt⟩
          have hg := acV_get hcn
          have hH := hasF_eq A c
          cases hb : hasA A c with
          | true =>
            rw [hb] at hH
            simp (disch := (first | omega | assumption)) only [hlt', idx_nat, List.length_map, hg, hH, go_sem, evP_D, evD_guard, evD_cons, evD_zero, evD_nil]
            refine ⟨⟨i + 1, ⟨hlt, fun j p hj hp => ?_⟩, rfl⟩, ?_⟩
            · by_cases hij : j = i
              · subst hij
                rw [hcn] at hp
                cases hp
                exact hb
              · exact hall j p (by omega) hp
            · have e3 : ((i : Int) + 1).toNat = i + 1 := by omega
              rw [e3, Int.toNat_natCast]; exact Nat.sub_lt_sub_left hlt (Nat.lt_succ_self i)
          | false =>
            rw [hb] at hH
            have := List.all_eq_true.1 hkn (c, m) (List.mem_of_getElem? hcn)
            simp only at this
            rw [hb] at this
            cases this
      by_cases h60 : E.length = 60
      · have e1 : postE A E s (k, d, l) = 2 := by rw [e0, if_neg (by unfold knownB; rw [hkn]; simp), if_neg hds, if_pos h60]
        have eR : posR A E s (k, d, l) = .tup [.agg [.zero, .zero, .int .i64 0], .int .i64 2] := by unfold posR; rw [e1, if_neg (by decide)]; rfl
        have h60' : (60 : Int) ≤ ((E.length : Nat) : Int) := by omega
        rw [eR]
        refine evFn (l := [(21, rentryF), (15, at1 _ (_, [])), (40, hasF)]) (nv := nv0) (fz := fz0) (dr := dr14) (dd := dd14) (lam := []) (ms := ms0) ⟨rentry_snd hJ, at1_snd hG, has_snd hJ, trivial⟩ hJ trivial ms0_ok Tryz.func14 rfl rfl (Nat.le_of_ble_eq_true rfl) (Nat.le_of_ble_eq_true rfl) drOk14 ?_
        dsimp only [Tryz.f14, dr14, dd14, Option.getD_some]
        refine ev_start ?_
        simp (disch := omega) only [at1_eq, hrE, hx', List.length_map, go_sem, evP_D, evD_guard, evD_cons, evD_zero, evD_nil]
        refine evQ_loop [2, 3, 4, 32, 33, 34] [16, 24, 32] (fun σ => ∃ i : Nat, (i ≤ l.length ∧ ∀ j p, j < i → l[j]? = some p → hasA A p.1 = true) ∧ σ = ⟨[(2, .ptr 16 0), (3, .ptr 24 0), (4, .ptr 32 0), (32, .row 2 (l.map acV)), (33, .int .i64 l.length), (34, .int .i64 i)],
            [(16, .box (.agg [.row 2 (A.map acV), .row 3 (E.map enW), .int .i64 s])), (24, .box (.agg [.str k, .int .i64 d, .row 2 (l.map acV)])), (32, .box (.agg [.zero, .zero, .int .i64 0]))]⟩)
          (fun σ => l.length - (match Ev.look 34 σ.env with | some (.int _ n) => n.toNat | _ => 0)) ?_ ?_
        · simp only [go_sem, evP_D, evD_guard, evD_cons, evD_zero, evD_nil]
          exact ⟨0, ⟨Nat.zero_le _, fun _ _ h => by omega⟩, rfl⟩
        · rintro σ ⟨i, ⟨hi, hall⟩, rfl⟩
          by_cases hlt : i < l.length
          case neg =>
            have hi' : i = l.length := by omega
            subst hi'
            have hlt' : ¬ ((l.length : Int) < l.length) := by omega
            simp (disch := (first | omega | assumption)) only [hlt', hds, List.length_map, h60', go_sem, evP_D, evD_guard, evD_cons, evD_zero, evD_nil]
          have hlt' : (i : Int) < l.length := by omega
          obtain ⟨⟨c, m⟩, hcn⟩ : ∃ p, l[i]? = some p := ⟨_, List.getElem?_eq_getElem hlt⟩
          have hg := acV_get hcn
          have hH := hasF_eq A c
          cases hb : hasA A c with
          | true =>
            rw [hb] at hH
            simp (disch := (first | omega | assumption)) only [hlt', idx_nat, List.length_map, hg, hH, go_sem, evP_D, evD_guard, evD_cons, evD_zero, evD_nil]
            refine ⟨⟨i + 1, ⟨hlt, fun j p hj hp => ?_⟩, rfl⟩, ?_⟩
            · by_cases hij : j = i
              · subst hij
                rw [hcn] at hp
                cases hp
                exact hb
              · exact hall j p (by omega) hp
            · have e3 : ((i : Int) + 1).toNat = i + 1 := by omega
              rw [e3, Int.toNat_natCast]; exact Nat.sub_lt_sub_left hlt (Nat.lt_succ_self i)
          | false =>
            rw [hb] at hH
            have := List.all_eq_true.1 hkn (c, m) (List.mem_of_getElem? hcn)
            simp only at this
            rw [hb] at this
            cases this
      have h60' : ¬ (60 : Int) ≤ ((E.length : Nat) : Int) := by omega
      have e1 : postE A E s (k, d, l) = 0 := by rw [e0, if_neg (by unfold knownB; rw [hkn]; simp), if_neg hds, if_neg h60]
      have e2 : postB E (k, d, l) = insE (k, d, l) E := by unfold postB; simp only [hg]
      have eR : posR A E s (k, d, l) = .tup [.agg [.row 2 (A.map acV), .row 3 ((insE (k, d, l) E).map enW), .int .i64 s], .int .i64 0] := by unfold posR; rw [e1, if_pos rfl, e2]; rfl
      have hC := cloneE_sound hJ E (by omega)
      obtain ⟨_, _, _, _, _, hsrt⟩ := bkChk_iff.1 hz
      have hS := slice_entries hJ (E ++ [(k, d, l)]) (insE (k, d, l) E) ((insE_perm _ _).trans (List.perm_append_singleton _ _).symm) (insE_srt hsrt (getE_none hg)) (by simp; omega)
      rw [List.map_append] at hS
      simp only [List.map_cons, List.map_nil, enW_mk] at hS
      rw [eR]
      generalize hI : (insE (k, d, l) E).map enW = I at *
      clear hI
      refine evFn (l := [(21, rentryF), (15, at1 _ (_, [])), (40, hasF), (44, at1 _ (_, _))]) (nv := nv0) (fz := fzL [(73, [528])]) (dr := dr14) (dd := dd14) (lam := []) (ms := ⟨[], fun _ => [], [(45, st1 23 46 1 28 3 (E.map enW ++ [.agg [.str k, .int .i64 d, .row 2 (l.map acV)]]) I)]⟩) ⟨rentry_snd hJ, at1_snd hG, has_snd hJ, at1_snd hC, trivial⟩ hJ trivial ⟨trivial, st1_ok hS, trivial⟩ Tryz.func14 rfl rfl (Nat.le_of_ble_eq_true rfl) (Nat.le_of_ble_eq_true rfl) drOk14 ?_
      dsimp only [Tryz.f14, dr14, dd14, Option.getD_some]
      refine ev_start ?_
      simp (disch := omega) only [at1_eq, hrE, hx', List.length_map, go_sem, evP_D, evD_guard, evD_cons, evD_zero, evD_nil]
      refine evQ_loop [2, 3, 4, 32, 33, 34] [16, 24, 32] (fun σ => ∃ i : Nat, (i ≤ l.length ∧ ∀ j p, j < i → l[j]? = some p → hasA A p.1 = true) ∧ σ = ⟨[(2, .ptr 16 0), (3, .ptr 24 0), (4, .ptr 32 0), (32, .row 2 (l.map acV)), (33, .int .i64 l.length), (34, .int .i64 i)],
          [(16, .box (.agg [.row 2 (A.map acV), .row 3 (E.map enW), .int .i64 s])), (24, .box (.agg [.str k, .int .i64 d, .row 2 (l.map acV)])), (32, .box (.agg [.zero, .zero, .int .i64 0]))]⟩)
        (fun σ => l.length - (match Ev.look 34 σ.env with | some (.int _ n) => n.toNat | _ => 0)) ?_ ?_
      · simp only [go_sem, evP_D, evD_guard, evD_cons, evD_zero, evD_nil]
        exact ⟨0, ⟨Nat.zero_le _, fun _ _ h => by omega⟩, rfl⟩
      · rintro σ ⟨i, ⟨hi, hall⟩, rfl⟩
        by_cases hlt : i < l.length
        case neg =>
          have hi' : i = l.length := by omega
          subst hi'
          have hlt' : ¬ ((l.length : Int) < l.length) := by omega
          simp (disch := (first | omega | assumption)) only [at1_eq, st1_eq, ne_eq, not_false_eq_true, hlt', hds, List.length_map, h60', freezeL, St.freeze, List.filter_cons, List.filter_nil, bne, List.length_append, List.length_cons, List.length_nil, go_sem, evP_D, evD_guard, evD_cons, evD_zero, evD_nil]
        have hlt' : (i : Int) < l.length := by omega
        obtain ⟨⟨c, m⟩, hcn⟩ : ∃ p, l[i]? = some p := ⟨_, List.getElem?_eq_getElem hlt⟩
        have hg := acV_get hcn
        have hH := hasF_eq A c
        cases hb : hasA A c with
        | true =>
          rw [hb] at hH
          simp (disch := (first | omega | assumption)) only [hlt', idx_nat, List.length_map, hg, hH, go_sem, evP_D, evD_guard, evD_cons, evD_zero, evD_nil]
          refine ⟨⟨i + 1, ⟨hlt, fun j p hj hp => ?_⟩, rfl⟩, ?_⟩
          · by_cases hij : j = i
            · subst hij
              rw [hcn] at hp
              cases hp
              exact hb
            · exact hall j p (by omega) hp
          · have e3 : ((i : Int) + 1).toNat = i + 1 := by omega
            rw [e3, Int.toNat_natCast]; exact Nat.sub_lt_sub_left hlt (Nat.lt_succ_self i)
        | false =>
          rw [hb] at hH
          have := List.all_eq_true.1 hkn (c, m) (List.mem_of_getElem? hcn)
          simp only at this
          rw [hb] at this
          cases this
end Go.Proofs.YtdmkmbaaemhhhaaGreatDoor
