/-
  sort.SliceStable at claims for seats: the comparison, the swap, the row that is sorted.
-/
import Derived.Test.YtdmkmbaaemhhhaaStC
import Derived.Test.YtdmkmbaaemhhhaaSwm
import Derived.Test.YtdmkmbaaemhhhaaDlP
namespace Go.Srt
/-- the stable order of elements that are looked at through a function -/
theorem srtL_map {α β : Type} [Inhabited α] [Inhabited β] (f : α → β) {lt : α → α → Prop} {lt' : β → β → Prop} (h : ∀ x y, lt x y ↔ lt' (f x) (f y)) (hw : Swo lt) (hw' : Swo lt') (l : List α) : (srtL lt l 0 l.length).map f = srtL lt' (l.map f) 0 l.length := by
  have hp := srt_permOn (Lt lt l) 0 l.length
  have hs := srt_sorted hw l 0 l.length
  have hg : ∀ k, k < l.length → ge (l.map f) k = f (ge l k) := fun k hk => by
    simp only [ge, List.getD_eq_getElem?_getD, List.getElem?_map, List.getElem?_eq_getElem hk, Option.map_some, Option.getD_some]
  have e0 : srtL lt l 0 l.length = tb l (srt (Lt lt l) 0 l.length) := rfl
  generalize srt (Lt lt l) 0 l.length = π at *
  have hlt : ∀ k, k < l.length → π k < l.length := fun k hk => hp.lt (Nat.le_refl _) hk
  have e : srtL lt' (l.map f) 0 l.length = tb (l.map f) π := by
    refine srtL_eq hw' hp fun p q h1 h2 h3 => ?_
    have := hs p q h1 h2 h3
    unfold Lt at this ⊢
    rw [hg _ (hlt p (by omega)), hg _ (hlt q h3)]
    rcases this with h4 | ⟨h4, h5⟩
    · exact .inl ((h _ _).1 h4)
    · exact .inr ⟨fun h6 => h4 ((h _ _).2 h6), h5⟩
  rw [e, e0]
  unfold tb
  rw [List.map_map, List.length_map]
  refine List.map_congr_left fun k hk => ?_
  exact (hg _ (hlt k (List.mem_range.1 hk))).symm
end Go.Srt
namespace Go.Ev
open Go
noncomputable def st1 (t : TypeId) (lf : FuncId) (k : Nat) (T : TypeId) (sz : Nat) (es es' : List V) : TypeId → FuncId → Nat → TypeId → Nat → List V → Option (List V) := fun t' lf' k' T' sz' e0 => open Classical in if t' = t ∧ lf' = lf ∧ k' = k ∧ T' = T ∧ sz' = sz ∧ e0 = es then some es' else none
theorem st1_eq (t : TypeId) (lf : FuncId) (k : Nat) (T : TypeId) (sz : Nat) (es es' : List V) : st1 t lf k T sz es es' t lf k T sz es = some es' := by unfold st1; rw [if_pos ⟨rfl, rfl, rfl, rfl, rfl, rfl⟩]
theorem st1_ok {P : Program} {J : World → Prop} {f : FuncId} {t : TypeId} {lf : FuncId} {k : Nat} {T : TypeId} {sz : Nat} {es es' : List V} (h : SrtAt P J f t lf k T sz es es') : Sr P J f (st1 t lf k T sz es es') := by
  intro t' lf' k' T' sz' e0 e1 he
  unfold st1 at he
  split at he
  · rename_i hc
    obtain ⟨rfl, rfl, rfl, rfl, rfl, rfl⟩ := hc
    simp only [Option.some.injEq] at he
    subst he
    exact h
  · cases he
end Go.Ev
namespace Go.So
open Go Go.Ev Go.Sort Go.Srt
set_option linter.unusedVariables false
/-- a claim whose numbers are small -/
abbrev Cd := { c : Dl.Cl // (1 ≤ c.1 ∧ c.1 ≤ 1000000) ∧ 0 ≤ c.2.1 ∧ c.2.1 ≤ 3000 }
instance : Inhabited Cd := ⟨⟨(1, 0, 0), by decide⟩⟩
def cdV (c : Dl.Cl) : V := .agg [.int .i64 c.1, .int .i64 c.2.1, .int .i64 c.2.2]
def cdE (x : Cd) : V := cdV x.1
def cdLt (x y : Cd) : Bool := decide (y.1.1 * x.1.2.1 < x.1.1 * y.1.2.1)
theorem cdLt_iff (x y : Cd) : cdLt x y = true ↔ Dl.clt x.1 y.1 := by
  obtain ⟨⟨a, b, c⟩, h⟩ := x
  obtain ⟨⟨a', b', c'⟩, h'⟩ := y
  unfold cdLt Dl.clt
  rw [decide_eq_true_iff]
  simp only at h h' ⊢
  rw [show max a 1 = a by omega, show max a' 1 = a' by omega]
theorem cd_swo : Swo (fun x y : Cd => Dl.clt x.1 y.1) where
  irr := fun x => Dl.clt_swo.irr x.1
  tr := fun x y z => Dl.clt_swo.tr x.1 y.1 z.1
  neg := fun x y z => Dl.clt_swo.neg x.1 y.1 z.1
theorem cdE_inj (x y : Cd) (h : cdE x = cdE y) : x = y := by
  obtain ⟨⟨a, b, c⟩, _⟩ := x
  obtain ⟨⟨a', b', c'⟩, _⟩ := y
  simp only [cdE, cdV, V.agg.injEq, List.cons.injEq, V.int.injEq, true_and, and_true] at h
  obtain ⟨rfl, rfl, rfl⟩ := h
  rfl
theorem cdE_lone (x : Cd) : V.lone (cdE x) = true := rfl
theorem cdE_data (x : Cd) : V.data (cdE x) = true := rfl
def boxC (r : List Value) : V := .agg (.vec 1000000 :: r.map .raw)
theorem raws_lone : ∀ r : List Value, V.loneL (r.map .raw) = true
  | [] => rfl
  | v :: r => by simp [V.loneL, V.lone, raws_lone r]
theorem raws_mv (l : List Nat) : ∀ r : List Value, V.mvL l (r.map .raw) = some (r.map .raw)
  | [] => rfl
  | v :: r => by simp [V.mvL, V.mv, raws_mv l r]
theorem raws_bk (l : List Nat) : ∀ r : List Value, V.bkL l (r.map .raw) = some (r.map .raw)
  | [] => rfl
  | v :: r => by simp [V.bkL, V.bk, raws_bk l r]
theorem raws_refs (l : List Nat) : ∀ r : List Value, V.refsInL l (r.map .raw) = true
  | [] => rfl
  | v :: r => by simp [V.refsInL, V.refsIn, raws_refs l r]
theorem boxC_lone (r : List Value) : V.lone (boxC r) = true := by
  unfold boxC
  simp [V.lone, V.loneL, raws_lone r]
theorem boxC_mv (r : List Value) (l : List Nat) : V.mv (1000000 :: 1000001 :: l) (boxC r) = some (boxC r) := by
  unfold boxC
  simp [V.mv, V.mvL, raws_mv, posN, nmN]
theorem boxC_bk (r : List Value) (l : List Nat) : V.bk (1000000 :: 1000001 :: l) (boxC r) = some (boxC r) := by
  unfold boxC
  simp [V.bk, V.bkL, raws_bk, backN, nmN]
theorem boxC_refs (r : List Value) (l : List Nat) : V.refsIn (1000000 :: 1000001 :: l) (boxC r) = true := by
  unfold boxC
  simp [V.refsIn, V.refsInL, raws_refs]
theorem swp_list {α : Type} [Inhabited α] (f : α → V) (D : Array α) {i j : Nat} (hi : i < D.size) (hj : j < D.size) : ((D.toList.map f).set i (f D[j]!)).set j (f D[i]!) = (swp D i j).toList.map f := by
  unfold swp
  rw [Array.toList_setIfInBounds, Array.toList_setIfInBounds, List.map_set, List.map_set]
theorem get_enc {α : Type} [Inhabited α] (f : α → V) (D : Array α) {i : Nat} (hi : i < D.size) : (D.toList.map f)[i]? = some (f D[i]!) := by
  simp [hi]
/-- what reads as a claim is one -/
theorem cd_rel {w : World} {ok : Nat → Prop} {v : Value} {c : Dl.Cl} (h : RelD w ok (cdV c) v) : v = .agg #[.int .i64 c.1, .int .i64 c.2.1, .int .i64 c.2.2] := by
  unfold cdV at h
  cases h with
  | agg cs vs hl h1 h =>
    match vs, hl, h1, h with
    | [a, b, d], _, h1, h =>
      have e0 := h 0 _ a rfl rfl
      have e1 := h 1 _ b rfl rfl
      have e2 := h 2 _ d rfl rfl
      cases e0
      cases e1
      cases e2
      rfl
theorem rel_cd {w : World} {ok : Nat → Prop} (c : Dl.Cl) : RelD w ok (cdV c) (.agg #[.int .i64 c.1, .int .i64 c.2.1, .int .i64 c.2.2]) := by
  refine .agg [.int .i64 c.1, .int .i64 c.2.1, .int .i64 c.2.2] [.int .i64 c.1, .int .i64 c.2.1, .int .i64 c.2.2] rfl (fun v hv => ?_) fun j c v hc hv => ?_
  · simp only [List.mem_cons, List.not_mem_nil, or_false] at hv
    rcases hv with rfl | rfl | rfl <;> rfl
  · match j, hc, hv with
    | 0, hc, hv => simp at hc hv; subst hc; subst hv; exact .int _ _
    | 1, hc, hv => simp at hc hv; subst hc; subst hv; exact .int _ _
    | 2, hc, hv => simp at hc hv; subst hc; subst hv; exact .int _ _
    | j + 3, hc, _ => simp at hc
end Go.So
namespace Go.Proofs.Ytdmkmbaaemhhhaa
open Go Go.Ev Go.RowKit Go.Sort Go.So Go.Srt
set_option maxHeartbeats 4000000
set_option linter.unusedSimpArgs false
set_option linter.unusedVariables false

section
variable {J : World → Prop} (hJ : Stable J)
theorem cd_ends (r : List Value) (D : Array Cd) : ∀ k ∈ [Blk.vec 62 3 (D.toList.map cdE), .box (boxC r)], k.lone = true := by
  intro k hk
  simp only [List.mem_cons, List.not_mem_nil, or_false] at hk
  rcases hk with rfl | rfl
  · show ((D.toList.map cdE).all fun v => V.lone v && V.data v) = true
    rw [List.all_eq_true]
    intro v hv
    obtain ⟨x, _, rfl⟩ := List.mem_map.1 hv
    rw [cdE_lone, cdE_data]
    rfl
  · exact boxC_lone r
include hJ in
set_option maxRecDepth 100000 in
set_option maxHeartbeats 4000000 in
theorem cdLt_mut (r : List Value) (D : Array Cd) (i j : Nat) (hi : i < D.size) (hj : j < D.size) :
    MutAt Try.prog J 26 [.vec 62 3 (D.toList.map cdE), .box (boxC r)] [.int .i64 i, .int .i64 j, .ptr 1000001 0] (.bool (cdLt D[i]! D[j]!)) [.vec 62 3 (D.toList.map cdE), .box (boxC r)] := by
  have gi := get_enc cdE D hi
  have gj := get_enc cdE D hj
  have hend := cd_ends r D
  have hli : i < (D.toList.map cdE).length := by simpa using hi
  have hlj : j < (D.toList.map cdE).length := by simpa using hj
  unfold cdLt
  generalize hL : D.toList.map cdE = L at *
  clear hL
  generalize D[i]! = x at *
  generalize D[j]! = y at *
  obtain ⟨⟨x1, x2, x3⟩, hx1, hx2⟩ := x
  obtain ⟨⟨y1, y2, y3⟩, hy1, hy2⟩ := y
  simp only [cdE, cdV] at gi gj hx1 hx2 hy1 hy2 ⊢
  have hi' : (i : Int) < L.length := by omega
  have hj' : (j : Int) < L.length := by omega
  have b1 : 0 ≤ x1 * y2 ∧ x1 * y2 ≤ 3000000000 := ⟨Int.mul_nonneg (by omega) (by omega), Int.le_trans (Int.mul_le_mul_of_nonneg_right hx1.2 hy2.1) (by omega)⟩
  have b2 : 0 ≤ y1 * x2 ∧ y1 * x2 ≤ 3000000000 := ⟨Int.mul_nonneg (by omega) (by omega), Int.le_trans (Int.mul_le_mul_of_nonneg_right hy1.2 hx2.1) (by omega)⟩
  unfold boxC at hend ⊢
  refine evMut (l := []) (nv := nv0) (fz := fz0) (dr := dr26) (dd := dd26) (lam := []) (ms := ms0) trivial hJ trivial ⟨trivial, trivial⟩ Try.func26 rfl rfl (Nat.le_of_ble_eq_true rfl) (Nat.le_of_ble_eq_true rfl) drOk26 rfl rfl ?_ ?_
  rotate_left
  dsimp only [Try.f26, dr26, dd26, Option.getD_some]
  refine ev_start ?_
  · by_cases h1 : x2 = 0
    · subst h1
      rw [Int.mul_zero]
      by_cases h2 : 0 < y2
      · have h3 : 0 < x1 * y2 := Int.mul_pos (by omega) h2
        rw [decide_eq_true h3]
        simp (disch := (first | omega | assumption)) only [gi, gj, hi', hj', idx_nat, h2, go_sem, evP_D, evD_guard, evD_cons, evD_zero, evD_nil]
      · have h4 : y2 = 0 := by omega
        subst h4
        rw [Int.mul_zero, decide_eq_false (by omega)]
        simp (disch := (first | omega | assumption)) only [gi, gj, hi', hj', idx_nat, Int.lt_irrefl, go_sem, evP_D, evD_guard, evD_cons, evD_zero, evD_nil]
    · by_cases h2 : y2 = 0
      · subst h2
        rw [Int.mul_zero, decide_eq_false (by omega)]
        simp (disch := (first | omega | assumption)) only [gi, gj, hi', hj', idx_nat, h1, go_sem, evP_D, evD_guard, evD_cons, evD_zero, evD_nil]
      · simp (disch := (first | omega | assumption)) only [gi, gj, hi', hj', idx_nat, h1, h2, go_sem, evP_D, evD_guard, evD_cons, evD_zero, evD_nil]
  · exact hend
/-! ### the swap -/
noncomputable def scT : TypeInfo := (Try.prog.info? 60).get (by kernel_rfl)
noncomputable def scE : TypeInfo := (Try.prog.info? 62).get (by kernel_rfl)
theorem scE_size : scE.size = 3 := by kernel_rfl
theorem scK (n : Nat) (h2 : 2 ≤ n) : Lib.swapperK n scE 25 = 9 := by
  have a : scE.hasPointers = false := by kernel_rfl
  have b : scE.bytes = 24 := by kernel_rfl
  have c : (n == 0) = false := by simp; omega
  have d : (n == 1) = false := by simp; omega
  unfold Lib.swapperK
  simp [a, b, c, d]
theorem sc_swap (args : Array Value) (W : World) : (callFunc 40 args).run Try.prog W = ((Extern.ReflectliteSwapper.swap false args).run Try.prog W).andThen fun v w' => .ok (.value v) w' :=
  run_callFunc_extern Try.func40 (by kernel_rfl) (by kernel_rfl) (by kernel_rfl) (e := Extern.ReflectliteSwapper.swap false) (by kernel_rfl) args W
theorem cdSwap_mut (r : List Value) (D : Array Cd) (i j : Nat) (hi : i < D.size) (hj : j < D.size) :
    MutAt Try.prog J 40 [.vec 62 3 (D.toList.map cdE), .box (boxC r)] [.int .i64 i, .int .i64 j, .vec 1000000, .raw (typeHandle Try.prog 62)] (.tup []) [.vec 62 3 ((swp D i j).toList.map cdE), .box (boxC r)] := by
  have h := swap_mut (P := Try.prog) (J := J) (f := 40) (e := 62) (ie := scE) (T := 62) (sz := 3) sc_swap (by kernel_rfl) scE_size (fun _ => by kernel_rfl) (by decide) (D.toList.map cdE) [.box (boxC r)] i j _ _ (get_enc cdE D hi) (get_enc cdE D hj)
  rw [swp_list cdE D hi hj] at h
  exact h
include hJ in
/-- claims, sorted by stable_func -/
theorem cdStable (r : List Value) (L : List Cd) (hsz : L.length ≤ 1000000) :
    MutAt Try.prog J 30 [.vec 62 3 (L.map cdE), .box (boxC r)] [.agg [.fn 26 [.ptr 1000001 0], .fn 40 [.vec 1000000, .raw (typeHandle Try.prog 62)]], .int .i64 L.length] (.tup [])
      [.vec 62 3 ((srtL (fun x y : Cd => Dl.clt x.1 y.1) L 0 L.length).map cdE), .box (boxC r)] := by
  obtain ⟨LF, hL, sL⟩ := famM (P := Try.prog) (J := J) (f := 26) (fun q : { q : Array Cd × Nat × Nat // q.2.1 < q.1.size ∧ q.2.2 < q.1.size } => [Blk.vec 62 3 (q.1.1.toList.map cdE), .box (boxC r)]) (fun q => [.int .i64 q.1.2.1, .int .i64 q.1.2.2, .ptr 1000001 0])
    (fun q => (.bool (cdLt q.1.1[q.1.2.1]! q.1.1[q.1.2.2]!), [.vec 62 3 (q.1.1.toList.map cdE), .box (boxC r)])) (fun i j e1 e2 => by
      obtain ⟨⟨D, a, b⟩, _⟩ := i
      obtain ⟨⟨D', a', b'⟩, _⟩ := j
      simp only [List.cons.injEq, Blk.vec.injEq, V.int.injEq, true_and, and_true, Int.natCast_inj] at e1 e2
      obtain ⟨rfl, rfl⟩ := e2
      have := Array.toList_inj.1 (mapInj cdE_inj e1)
      subst this
      rfl) fun q => cdLt_mut hJ r q.1.1 q.1.2.1 q.1.2.2 q.2.1 q.2.2
  obtain ⟨SF, hS, sS⟩ := famM (P := Try.prog) (J := J) (f := 40) (fun q : { q : Array Cd × Nat × Nat // q.2.1 < q.1.size ∧ q.2.2 < q.1.size } => [Blk.vec 62 3 (q.1.1.toList.map cdE), .box (boxC r)]) (fun q => [.int .i64 q.1.2.1, .int .i64 q.1.2.2, .vec 1000000, .raw (typeHandle Try.prog 62)])
    (fun q => (.tup [], [.vec 62 3 ((swp q.1.1 q.1.2.1 q.1.2.2).toList.map cdE), .box (boxC r)])) (fun i j e1 e2 => by
      obtain ⟨⟨D, a, b⟩, _⟩ := i
      obtain ⟨⟨D', a', b'⟩, _⟩ := j
      simp only [List.cons.injEq, Blk.vec.injEq, V.int.injEq, true_and, and_true, Int.natCast_inj] at e1 e2
      obtain ⟨rfl, rfl⟩ := e2
      have := Array.toList_inj.1 (mapInj cdE_inj e1)
      subst this
      rfl) fun q => cdSwap_mut r q.1.1 q.1.2.1 q.1.2.2 q.2.1 q.2.2
  exact stableS hJ ({ enc := cdE, inj := cdE_inj, lone := cdE_lone, data := cdE_data, T := 62, sz := 3, bv := boxC r, bmv := boxC_mv r, bbk := boxC_bk r, bl := boxC_lone r, br := boxC_refs r, lt := cdLt, lf := 26, sf := 40, hd := typeHandle Try.prog 62, LF := LF, SF := SF, ne := by rfl, farL := by simp [famT], farS := by simp [famT], hLF := sL, hSF := sS, hL := fun D i j hi hj => hL ⟨(D, i, j), hi, hj⟩, hS := fun D i j hi hj => hS ⟨(D, i, j), hi, hj⟩ } : So Try.prog J famT Cd)
    cdLt_iff cd_swo L hsz
set_option maxHeartbeats 1000000 in
include hJ in
/-- SORT.SLICESTABLE AT CLAIMS -/
theorem stable_claims (F : List Cd) (hn : F.length ≤ 1000000) :
    SrtAt Try.prog J 25 60 26 0 62 3 (F.map cdE) ((srtL (fun x y : Cd => Dl.clt x.1 y.1) F 0 F.length).map cdE) := by
  refine ⟨callOk Try.func25 rfl rfl, ?_⟩
  intro w B ok sv o cs hJw hB hok hone hpos hown hBo hlto hne hra hth h1c hk
  have hi0 : Try.prog.info? 60 = some scT := by kernel_rfl
  have hd0 : scT.desc = .slice 62 := by kernel_rfl
  have hpk : Try.prog.packed 60 = false := by kernel_rfl
  have hie : Try.prog.info? 62 = some scE := by kernel_rfl
  have hke : ∀ w, (Extern.Rtype.kind 62).run Try.prog w = .ok 25 w := fun _ => by kernel_rfl
  have hM0 := fun r => cdStable hJ r F hn
  have hF0 : F.length ≤ 1 → srtL (fun x y : Cd => Dl.clt x.1 y.1) F 0 F.length = F := fun h => srtL_id cd_swo (fun p q _ _ _ => by omega)
  have hlen : (srtL (fun x y : Cd => Dl.clt x.1 y.1) F 0 F.length).length = F.length := srtL_len _ _ _ _
  generalize srtL (fun x y : Cd => Dl.clt x.1 y.1) F 0 F.length = F' at *
  have tiny : ∀ (p : Option Addr) (n c : Nat), n ≤ 1 → sv = .slice p n c → F' = F → Calls Try.prog 25 #[.iface 60 sv, .func (.func 26) #[] #[.pointer (some ⟨o, 0, none⟩)]] w fun e w' => e = .returned (.tuple #[]) ∧ Below B w w' ∧ (∀ g, g < w.heap.size → own sv ≠ some g → g ≠ o → w'.heap[g]? = w.heap[g]?) ∧ w'.rangeAt o 0 cs ∧ w'.there o 0 cs.length ∧ w.heap.size ≤ w'.heap.size ∧ OwnV w' ok B 62 3 sv (F'.map cdE) := by
    intro p n c h1 hsv hFF
    have hf : ∃ f, Try.prog.funcs.findIdx? (·.name == "internal/reflectlite" ++ ".Swapper$" ++ toString (Lib.swapperK n scE 25)) = some f := by
      have : n = 0 ∨ n = 1 := by omega
      rcases this with rfl | rfl
      · exact ⟨32, by kernel_rfl⟩
      · exact ⟨33, by kernel_rfl⟩
    obtain ⟨f, hf⟩ := hf
    rw [hFF, hsv]
    refine (Any.sort_SliceStable_tiny Try.laysGt8 60 62 scT scE hi0 hd0 hpk hie 25 hke p n c h1 f hf (.func 26) #[] _ w).mono ?_
    rintro e w' ⟨rfl, os, rfl⟩
    rw [← hsv]
    exact ⟨rfl, below_grow hB os, fun g hg _ _ => Sort.heap_grow_old w os hg, range_heap hra (Sort.heap_grow_old w os hlto), there_heap hth (Sort.heap_grow_old w os hlto), by rw [Sort.size_grow]; omega,
      hown.mono (fun g hg => ⟨hg, Sort.heap_grow_old w os (hok g hg).1⟩) fun g hg => Sort.heap_grow_old w os (hown.own_ge hg).2⟩
  rcases hown.form with ⟨ad, hsv, hF⟩ | ⟨g, cap, vs, hsv, hc, hle, hl, hsz, h1, hrr, ho⟩
  · have : F = [] := by simpa using hF
    subst this
    exact tiny ad 0 0 (by omega) hsv (hF0 (by simp))
  by_cases h2 : F.length ≤ 1
  · exact tiny _ _ _ (by rw [List.length_map]; exact h2) hsv (hF0 h2)
  rw [List.length_map] at hle hl hsv
  have h2' : 2 ≤ F.length := by omega
  obtain ⟨r, rfl⟩ : ∃ r, cs = sv :: r := by
    match cs, hk with
    | b :: r, hk => simp at hk; subst hk; exact ⟨r, rfl⟩
  have hM := hM0 r
  subst hsv
  have hog : own (.slice (some ⟨g, 0, none⟩) F.length cap) = some g := by simp [own, hc]
  obtain ⟨hBg, hgw⟩ := hown.own_ge hog
  have hgo : g ≠ o := fun e => hne (by rw [hog, e])
  have hf9 : Try.prog.funcs.findIdx? (·.name == "internal/reflectlite" ++ ".Swapper$" ++ toString (Lib.swapperK F.length scE 25)) = some 40 := by
    rw [scK F.length h2']
    kernel_rfl
  refine Any.sort_SliceStable_of_stable Try.laysGt8 60 62 scT scE hi0 hd0 hpk hie 25 hke _ F.length cap (by omega) _ hf9 (.func 26) #[] _ w (fun w' => Below B w w' ∧ (∀ k, k < w.heap.size → own (.slice (some ⟨g, 0, none⟩) F.length cap) ≠ some k → k ≠ o → w'.heap[k]? = w.heap[k]?) ∧ w'.rangeAt o 0 (.slice (some ⟨g, 0, none⟩) F.length cap :: r) ∧ w'.there o 0 (Value.slice (some ⟨g, 0, none⟩) F.length cap :: r).length ∧ w.heap.size ≤ w'.heap.size ∧ OwnV w' ok B 62 3 (.slice (some ⟨g, 0, none⟩) F.length cap) (F'.map cdE)) ?_
  have hB2 : sliceBound Try.prog 62 scE 25 (some ⟨g, 0, none⟩) F.length cap = #[.slice (some ⟨g, 0, none⟩) F.length cap, typeHandle Try.prog 62] := by
    unfold sliceBound
    rw [scK F.length h2']
    rfl
  rw [hB2]
  obtain ⟨w1, hw1, hb1, hs1, hk1⟩ : ∃ w1, w1 = stableWorld Try.prog Try.laysGt8_ren 60 (some ⟨g, 0, none⟩) F.length cap w ∧ Below B w w1 ∧ w.heap.size ≤ w1.heap.size ∧ ∀ k, k < w.heap.size → w1.heap[k]? = w.heap[k]? := by
    refine ⟨_, rfl, ?_, ?_, ?_⟩
    · unfold stableWorld
      exact ((Below.refl B w).alloc hB _).alloc (by rw [World.size_alloc]; omega) _
    · unfold stableWorld
      rw [World.size_alloc, World.size_alloc]
      omega
    · intro k hk
      unfold stableWorld
      rw [Below.heap_alloc _ _ _ (by rw [World.size_alloc]; omega), Below.heap_alloc _ _ _ hk]
  rw [← hw1]
  have hown1 : OwnV w1 (okAt (fun _ => False) B (shift 1000000 (rho2 (.slice (some ⟨g, 0, none⟩) F.length cap) o)) w1) B 62 3 (.slice (some ⟨g, 0, none⟩) F.length cap) (F.map cdE) := by
    refine ⟨vs, by rw [List.length_map, hl], hsz, h1, fun i e v he hv => ?_, ?_⟩
    · have hr := hrr i e v he hv
      rw [List.getElem?_map, Option.map_eq_some_iff] at he
      obtain ⟨q, hq, rfl⟩ := he
      rw [cd_rel (show RelD w ok (cdV q.1) v from hr)]
      exact rel_cd q.1
    · right
      rw [List.length_map] at ho
      rw [List.length_map]
      refine ⟨ho.1, ?_⟩
      rcases ho.2 with ⟨hn, _⟩ | ⟨g', cap', cur, hq, hbb, hgg, rest⟩
      · cases hn
      · refine .inr ⟨g', cap', cur, hq, hbb, ?_, rest⟩
        simp at hq
        rw [← hq.1, hk1 g hgw]
        rw [← hq.1] at hgg
        exact hgg
  have hra1 : w1.rangeAt o 0 (.slice (some ⟨g, 0, none⟩) F.length cap :: r) := range_heap hra (hk1 o hlto)
  have hth1 : w1.there o 0 (Value.slice (some ⟨g, 0, none⟩) F.length cap :: r).length := there_heap hth (hk1 o hlto)
  have hboxR : ∀ (W : World) (okk : Nat → Prop), Rel W okk (shift 1000000 (rho2 (.slice (some ⟨g, 0, none⟩) F.length cap) o)) (boxC r) (.agg (Value.slice (some ⟨g, 0, none⟩) F.length cap :: r).toArray) := by
    intro W okk
    unfold boxC
    refine .agg _ _ (by simp) h1c fun j c v hc hv => ?_
    match j, hc, hv with
    | 0, hc, hv => simp at hc hv; subst hc; subst hv; exact .vec _ _ rfl rfl
    | j + 1, hc, hv =>
      simp at hc hv
      obtain ⟨u, hu, rfl⟩ := hc
      rw [hv] at hu
      cases hu
      exact .ro (.raw _)
  have hI := rho2_inv (bv := boxC r) (val := .undef) (vv := .tuple #[]) (Nat.le_trans hB hs1) hpos hown1 hBo (by omega) hne ⟨o, .agg (Value.slice (some ⟨g, 0, none⟩) F.length cap :: r).toArray, rfl, hBo, by omega, hra1, hth1, h1c, hboxR _ _⟩
  have hrelA : ∀ (j : Nat) c u, [V.agg [.fn 26 [.ptr 1000001 0], .fn 40 [.vec 1000000, .raw (typeHandle Try.prog 62)]], .int .i64 F.length][j]? = some c →
      [Value.agg #[.func (.func 26) #[] #[.pointer (some ⟨o, 0, none⟩)], .func (.func 40) #[] #[.slice (some ⟨g, 0, none⟩) F.length cap, typeHandle Try.prog 62]], .int .i64 F.length][j]? = some u →
      Rel w1 (fun _ => False) (shift 1000000 (rho2 (.slice (some ⟨g, 0, none⟩) F.length cap) o)) c u := by
    intro j c u hc hu
    match j, hc, hu with
    | 0, hc, hu =>
      simp at hc hu; subst hc; subst hu
      refine .agg [.fn 26 [.ptr 1000001 0], .fn 40 [.vec 1000000, .raw (typeHandle Try.prog 62)]] [.func (.func 26) #[] #[.pointer (some ⟨o, 0, none⟩)], .func (.func 40) #[] #[.slice (some ⟨g, 0, none⟩) F.length cap, typeHandle Try.prog 62]] rfl (fun v hv => ?_) fun j c v hc hv => ?_
      · simp only [List.mem_cons, List.not_mem_nil, or_false] at hv
        rcases hv with rfl | rfl <;> rfl
      · match j, hc, hv with
        | 0, hc, hv =>
          simp at hc hv; subst hc; subst hv
          refine .fn _ [.ptr 1000001 0] [.pointer (some ⟨o, 0, none⟩)] rfl fun j c v hc hv => ?_
          match j, hc, hv with
          | 0, hc, hv => simp at hc hv; subst hc; subst hv; exact .ptr _ _ o rfl
          | j + 1, hc, _ => simp at hc
        | 1, hc, hv =>
          simp at hc hv; subst hc; subst hv
          refine .fn _ [.vec 1000000, .raw (typeHandle Try.prog 62)] [.slice (some ⟨g, 0, none⟩) F.length cap, typeHandle Try.prog 62] rfl fun j c v hc hv => ?_
          match j, hc, hv with
          | 0, hc, hv => simp at hc hv; subst hc; subst hv; exact .vec _ _ rfl rfl
          | 1, hc, hv => simp at hc hv; subst hc; subst hv; exact .ro (.raw _)
          | j + 2, hc, _ => simp at hc
        | j + 2, hc, _ => simp at hc
    | 1, hc, hu => simp at hc hu; subst hc; subst hu; exact .ro (.int _ _)
    | j + 2, hc, _ => simp at hc
  have hCX := hM w1 B (rho2 (.slice (some ⟨g, 0, none⟩) F.length cap) o) _ (fun w' hb => hJw w' (hb1.trans hb)) hI rfl hrelA
  rcases hCX with ⟨_, hC⟩ | ⟨val, w', hrun, _⟩
  case inr =>
    exfalso
    have := enters_of (P := Try.prog) Try.func30 (by kernel_rfl) rfl
    rw [this] at hrun
    cases hrun
  refine hC.mono ?_
  rintro e w' ⟨val, rfl, hbel, hkp, hI', hval⟩
  have hval' : val = .tuple #[] := by
    cases hval with
    | ro h => cases h with | tup cs vs hl h => match vs, hl with | [], _ => rfl
    | tup cs vs hl h => match vs, hl with | [], _ => rfl
  subst hval'
  have hkeep : ∀ k, k < w.heap.size → own (.slice (some ⟨g, 0, none⟩) F.length cap) ≠ some k → k ≠ o → w'.heap[k]? = w.heap[k]? := by
    intro k hk hno hko
    rw [← hk1 k hk]
    refine hkp.1 k (by omega) fun b v hv => ?_
    obtain ⟨hb, hv⟩ := shift_some hv
    obtain ⟨m, rfl⟩ : ∃ m, b = 1000000 + m := ⟨b - 1000000, by omega⟩
    rw [Nat.add_sub_cancel_left] at hv
    match m, hv with
    | 0, hv => simp only [rho2, Option.some.injEq] at hv; subst hv; exact hno
    | 1, hv =>
      simp only [rho2, Option.some.injEq] at hv
      subst hv
      intro h
      simp [own] at h
      exact hko h.symm
    | m + 2, hv => simp [rho2] at hv
  refine ⟨rfl, hb1.trans hbel, hkeep, ?_⟩
  obtain ⟨svo, hsvo, go, valo, hgo', _, _, hra', hth', _, hrelo⟩ := hI'.blk 1000001 (.box (boxC r)) rfl
  have hsv1 : svo = .pointer (some ⟨o, 0, none⟩) := (Option.some.inj hsvo).symm
  subst hsv1
  simp at hgo'
  subst hgo'
  have hcs : valo.cells.toList = .slice (some ⟨g, 0, none⟩) F.length cap :: r := by
    unfold boxC at hrelo
    obtain ⟨us, rfl, hlu, _, hus⟩ := hrelo.agg_inv
    show us = _
    simp at hlu
    refine List.ext_getElem? fun j => ?_
    match j with
    | 0 =>
      have h := (hus 0 (.vec 1000000) us[0] rfl (by simp)).vec_inv
      rw [List.getElem?_eq_getElem (by omega)]
      simp only [List.getElem?_cons_zero]
      exact h.symm
    | j + 1 =>
      by_cases hj : j < r.length
      · have h := hus (j + 1) (.raw r[j]) us[j + 1] (by simp [hj]) (by simp)
        rw [List.getElem?_eq_getElem (by omega)]
        simp only [List.getElem?_cons_succ, List.getElem?_eq_getElem hj]
        generalize us[j + 1] = u at h
        cases h with
        | ro h => cases h; rfl
      · rw [List.getElem?_eq_none (by omega), List.getElem?_eq_none (by simp; omega)]
  rw [hcs] at hra'
  have hth2 : w'.there o 0 (Value.slice (some ⟨g, 0, none⟩) F.length cap :: r).length := by
    rw [← hcs, Array.length_toList]
    exact hth'
  refine ⟨hra', hth2, Nat.le_trans hs1 hkp.2, ?_⟩
  obtain ⟨sv2, hsv2, _, hown2⟩ := hI'.blk 1000000 (.vec 62 3 (F'.map cdE)) rfl
  have hsv3 : sv2 = .slice (some ⟨g, 0, none⟩) F.length cap := (Option.some.inj hsv2).symm
  subst hsv3
  obtain ⟨vs', hl', hs', h1', hr', ho'⟩ := hown2
  rw [List.length_map, hlen] at hl' ho'
  refine ⟨vs', by rw [List.length_map, hl', hlen], hs', h1', fun i e v he hv => ?_, .inr ?_⟩
  · have hr := hr' i e v he hv
    rw [List.getElem?_map, Option.map_eq_some_iff] at he
    obtain ⟨q, hq, rfl⟩ := he
    rw [cd_rel (show RelD w' _ (cdV q.1) v from hr)]
    exact rel_cd q.1
  · rw [List.length_map, hlen]
    rcases ho' with ⟨_, _, hn⟩ | ho'
    · have := congrArg List.length hn
      rw [List.length_map, hlen, List.length_nil] at this
      omega
    · exact ho'
end
end Go.Proofs.Ytdmkmbaaemhhhaa
