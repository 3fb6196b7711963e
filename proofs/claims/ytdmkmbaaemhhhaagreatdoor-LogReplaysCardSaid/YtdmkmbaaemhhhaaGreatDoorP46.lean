/-
  sort.Slice at entries: the row that is sorted.
-/
import Derived.Test.YtdmkmbaaemhhhaaGreatDoorP45
set_option linter.unusedVariables false
namespace Go.Ev
open Go Go.RowKit
theorem below_grow {B : Nat} {w : World} (hB : B ≤ w.heap.size) (os : Array Obj) : Below B w (Sort.grow w os) :=
 ⟨rfl, rfl, rfl, by rw [Sort.size_grow]; omega, fun k hk => Sort.heap_grow_old w os (by omega)⟩
theorem range_heap {w w' : World} {g o : Nat} {cs : List Value} (h : w.rangeAt g o cs) (he : w'.heap[g]? = w.heap[g]?) : w'.rangeAt g o cs := rangeAt_same h he
theorem there_heap {w w' : World} {g o n : Nat} (h : w.there g o n) (he : w'.heap[g]? = w.heap[g]?) : w'.there g o n := fun j hj =>
 ⟨by rw [World.cell?_of_block (w := w) (a := ⟨g, o + j, none⟩) he]; exact (h j hj).1, by rw [World.frozen?_of_block (w := w) (a := ⟨g, o + j, none⟩) he]; exact (h j hj).2⟩
def rho2 (sv : Value) (o : Nat) : Nat → Option Value
 | 0 => some sv
 | 1 => some (.pointer (some ⟨o, 0, none⟩))
 | _ => none
theorem rho2_inv {B : Nat} {w : World} {sv : Value} {o : Nat} {T : TypeId} {sz : Nat} {es : List V} {bv val : V} {vv : Value}
  (hB : B ≤ w.heap.size) (hpos : 0 < sz) (hown : OwnV w (okAt (fun _ => False) B (shift 1000000 (rho2 sv o)) w) B T sz sv es) (hBo : B ≤ o) (hlo : o < w.heap.size) (hne : own sv ≠ some o)
  (hbox : BlkOk w (okAt (fun _ => False) B (shift 1000000 (rho2 sv o)) w) (shift 1000000 (rho2 sv o)) B (.pointer (some ⟨o, 0, none⟩)) (.box bv)) :
  Inv (fun _ => False) B w (shift 1000000 (rho2 sv o)) (shift 1000000 fun j => [Blk.vec T sz es, .box bv][j]?) := by
 generalize 1000000 = N at *
 refine ⟨hB, fun b k hk => ?_, fun b v hv => ?_, fun b b' v v' g h1 h2 o1 o2 => ?_⟩
 ·obtain ⟨hb, hk⟩ := shift_some hk
  obtain ⟨m, rfl⟩ : ∃ m, b = N + m := ⟨b - N, by omega⟩
  rw [Nat.add_sub_cancel_left] at hk
  match m, hk with
  | 0, hk => simp at hk; subst hk; exact ⟨sv, shift_add N 0 _, hpos, hown⟩
  | 1, hk => simp at hk; subst hk; exact ⟨_, shift_add N 1 _, hbox⟩
  | m + 2, hk => simp at hk
 ·obtain ⟨hb, hv⟩ := shift_some hv
  obtain ⟨m, rfl⟩ : ∃ m, b = N + m := ⟨b - N, by omega⟩
  rw [Nat.add_sub_cancel_left] at hv
  rw [shift_add]
  match m, hv with
  | 0, hv => exact ⟨.vec T sz es, rfl⟩
  | 1, hv => exact ⟨.box bv, rfl⟩
  | m + 2, hv => simp [rho2] at hv
 ·obtain ⟨hb, h1⟩ := shift_some h1
  obtain ⟨hb', h2⟩ := shift_some h2
  obtain ⟨m, rfl⟩ : ∃ m, b = N + m := ⟨b - N, by omega⟩
  obtain ⟨m', rfl⟩ : ∃ m, b' = N + m := ⟨b' - N, by omega⟩
  rw [Nat.add_sub_cancel_left] at h1 h2
  have no : ∀ v v', rho2 sv o 0 = some v → rho2 sv o 1 = some v' → own v = some g → own v' = some g → False := by
   intro v v' h1 h2 o1 o2
   simp only [rho2, Option.some.injEq] at h1 h2
   subst h1; subst h2
   simp [own] at o2
   subst o2
   exact hne o1
  match m, m', h1, h2 with
  | 0, 0, _, _ => rfl
  | 1, 1, _, _ => rfl
  | 0, 1, h1, h2 => exact (no _ _ h1 h2 o1 o2).elim
  | 1, 0, h1, h2 => exact (no _ _ h2 h1 o2 o1).elim
  | m + 2, _, h1, _ => simp [rho2] at h1
  | 0, m + 2, _, h2 => simp [rho2] at h2
  | 1, m + 2, _, h2 => simp [rho2] at h2
end Go.Ev
namespace Go.So
open Go Go.Ev
def thV (v : Value) : Value := match v with
 | .agg a => a.getD 2 (.tuple #[])
 | _ => .tuple #[]
def enZ (p : Acc.En × Value) : En := (p.1.1, p.1.2.1, thV p.2)
theorem enZ_lt (p q : Acc.En × Value) : enLt (enZ p) (enZ q) = Acc.ltB p.1 q.1 := rfl
end Go.So
namespace Go.Proofs.YtdmkmbaaemhhhaaGreatDoor
open Go Go.Ev Go.RowKit Go.So
theorem enW_val {w : World} {ok : Nat → Prop} {x : Acc.En} {v : Value} (h : RelD w ok (enW x) v) : v = .agg #[.string x.1, .int .i64 x.2.1, thV v] ∧ (thV v).oneCell' = true := by
 unfold enW at h
 cases h with
 | agg cs vs hl h1 h =>
  match vs, hl, h1, h with
  | [a, b, c], _, h1, h =>
   have e0 := h 0 _ a rfl rfl
   have e1 := h 1 _ b rfl rfl
   cases e0
   cases e1
   exact ⟨rfl, h1 c (by simp)⟩
theorem enR_rel {w : World} {ok : Nat → Prop} {v : Value} {x : En} (h : RelD w ok (enR x) v) : v = .agg #[.string x.1, .int .i64 x.2.1, x.2.2] := by
 unfold enR at h
 cases h with
 | agg cs vs hl h1 h =>
  match vs, hl, h1, h with
  | [a, b, c], _, h1, h =>
   have e0 := h 0 _ a rfl rfl
   have e1 := h 1 _ b rfl rfl
   have e2 := h 2 _ c rfl rfl
   cases e0
   cases e1
   cases e2
   rfl
theorem rel_enR {w : World} {ok : Nat → Prop} {x : En} (h : x.2.2.oneCell' = true) : RelD w ok (enR x) (.agg #[.string x.1, .int .i64 x.2.1, x.2.2]) := by
 refine .agg [.str x.1, .int .i64 x.2.1, .raw x.2.2] [.string x.1, .int .i64 x.2.1, x.2.2] rfl (fun v hv => ?_) fun j c v hc hv => ?_
 ·simp only [List.mem_cons, List.not_mem_nil, or_false] at hv
  rcases hv with rfl | rfl | rfl
  ·rfl
  ·rfl
  ·exact h
 ·match j, hc, hv with
  | 0, hc, hv => simp at hc hv; subst hc; subst hv; exact .str _
  | 1, hc, hv => simp at hc hv; subst hc; subst hv; exact .int _ _
  | 2, hc, hv => simp at hc hv; subst hc; subst hv; exact .raw _
  | j + 3, hc, _ => simp at hc
theorem sorted_list {D : Array En} {Z : List (Acc.En × Value)} (h : D.toList = Z.map enZ) (hs : Sort.SortedIn enLt 0 D.size D) : Acc.srtW (Z.map (·.1)) := by
 intro i k y z hik hy hz
 rw [List.getElem?_map, Option.map_eq_some_iff] at hy hz
 obtain ⟨p, hp, rfl⟩ := hy
 obtain ⟨q, hq, rfl⟩ := hz
 have hlen : D.size = Z.length := by
  have := congrArg List.length h
  simpa using this
 have gp : D[i]! = enZ p := by
  have : D.toList[i]? = some (enZ p) := by rw [h, List.getElem?_map, hp]; rfl
  rw [Array.getElem?_toList] at this
  rw [Array.getElem!_eq_getD, Array.getD_eq_getD_getElem?, this]
  rfl
 have gq : D[k]! = enZ q := by
  have : D.toList[k]? = some (enZ q) := by rw [h, List.getElem?_map, hq]; rfl
  rw [Array.getElem?_toList] at this
  rw [Array.getElem!_eq_getD, Array.getD_eq_getD_getElem?, this]
  rfl
 have hk : k < Z.length := (List.getElem?_eq_some_iff.1 hq).1
 have := hs i k (Nat.zero_le _) hik (by omega)
 rw [gp, gq, enZ_lt] at this
 exact this
set_option maxHeartbeats 1000000 in
theorem slice_entries {J : World → Prop} (hJ : Stable J) (F F' : List Acc.En) (hp : F'.Perm F) (hs : Acc.srtE F') (hn : F.length < 1000000) :
  SrtAt Tryz.prog J 45 23 46 1 28 3 (F.map enW) (F'.map enW) := by
 refine ⟨callOk Tryz.func45 rfl rfl, ?_⟩
 intro w B ok sv o cs hJw hB hok hone hpos hown hBo hlto hne hra hth h1c hk
 have hi0 : Tryz.prog.info? 23 = some slT := by kernel_rfl
 have hd0 : slT.desc = .slice 28 := by kernel_rfl
 have hpk : Tryz.prog.packed 23 = false := by kernel_rfl
 have hie : Tryz.prog.info? 28 = some slE := by kernel_rfl
 have hke : ∀ w, (Extern.Rtype.kind 28).run Tryz.prog w = .ok 25 w := fun _ => by kernel_rfl
 have hlen : F'.length = F.length := hp.length_eq
 have tiny : ∀ (p : Option Addr) (n c : Nat), n ≤ 1 → sv = .slice p n c → F' = F → Calls Tryz.prog 45 #[.iface 23 sv, .func (.func 46) #[] #[.pointer (some ⟨o, 0, none⟩)]] w fun e w' => e = .returned (.tuple #[]) ∧ Below B w w' ∧ (∀ g, g < w.heap.size → own sv ≠ some g → g ≠ o → w'.heap[g]? = w.heap[g]?) ∧ w'.rangeAt o 0 cs ∧ w'.there o 0 cs.length ∧ w.heap.size ≤ w'.heap.size ∧ OwnV w' ok B 28 3 sv (F'.map enW) := by
  intro p n c h1 hsv hFF
  have hf : ∃ f, Tryz.prog.funcs.findIdx? (·.name == "internal/reflectlite" ++ ".Swapper$" ++ toString (Lib.swapperK n slE 25)) = some f := by
   have : n = 0 ∨ n = 1 := by omega
   rcases this with rfl | rfl
   ·exact ⟨121, by kernel_rfl⟩
   ·exact ⟨122, by kernel_rfl⟩
  obtain ⟨f, hf⟩ := hf
  rw [hFF, hsv]
  refine (Any.sort_Slice_tiny Tryz.laysGg6 23 28 slT slE hi0 hd0 hpk hie 25 hke p n c h1 f hf (.func 46) #[] _ w).mono ?_
  rintro e w' ⟨rfl, os, rfl⟩
  rw [← hsv]
  exact ⟨rfl, below_grow hB os, fun g hg _ _ => Sort.heap_grow_old w os hg, range_heap hra (Sort.heap_grow_old w os hlto), there_heap hth (Sort.heap_grow_old w os hlto), by rw [Sort.size_grow]; omega,
   hown.mono (fun g hg => ⟨hg, Sort.heap_grow_old w os (hok g hg).1⟩) fun g hg => Sort.heap_grow_old w os (hown.own_ge hg).2⟩
 rcases hown.form with ⟨ad, hsv, hF⟩ | ⟨g, cap, vs, hsv, hc, hle, hl, hsz, h1, hrr, ho⟩
 ·refine tiny ad 0 0 (by omega) hsv ?_
  have : F = [] := by simpa using hF
  subst this
  simpa using hlen
 by_cases h2 : F.length ≤ 1
 ·refine tiny _ _ _ ?_ hsv ?_
  ·rw [List.length_map]; exact h2
  ·match F, F', hp, h2 with
   | [], F', hp, _ => simpa using hp
   | [x], F', hp, _ => simpa using hp
 rw [List.length_map] at hle hl hsv
 have h2' : 2 ≤ F.length := by omega
 -- what lies there
 obtain ⟨Z, hZ⟩ : ∃ Z, Z = F.zip vs := ⟨_, rfl⟩
 have hZF : Z.map (·.1) = F := by rw [hZ, List.map_fst_zip (by omega)]
 have hZl : Z.length = F.length := by rw [← hZF, List.length_map]
 have hZr : ∀ q ∈ Z, RelD w ok (enW q.1) q.2 := by
  intro q hq
  obtain ⟨i, hi⟩ := List.mem_iff_getElem?.1 hq
  rw [hZ, List.getElem?_zip_eq_some] at hi
  exact hrr i _ _ (by rw [List.getElem?_map, hi.1]; rfl) hi.2
 obtain ⟨D, hD⟩ : ∃ D : Array En, D.toList = Z.map enZ := ⟨(Z.map enZ).toArray, rfl⟩
 have hDs : D.size = F.length := by
  have := congrArg List.length hD
  simpa [hZl] using this
 have hDl : D.toList.length = F.length := by rw [hD, List.length_map, hZl]
 obtain ⟨a, r, rfl⟩ : ∃ a r, cs = a :: sv :: r := by
  match cs, hk with
  | a :: b :: r, hk => simp at hk; subst hk; exact ⟨a, r, rfl⟩
 have hlim : Lib.bitLen F.length < 1000 := Nat.lt_of_le_of_lt (Lib.bitLen_le F.length 62 (by omega) (by omega)) (by omega)
 have hM := enPdq hJ a r D (Lib.bitLen F.length) (by omega) hlim
 rw [hDs] at hM
 obtain ⟨hP, hS⟩ := Sort.pdq_sorts enLt enLt_swo D 0 D.size (Lib.bitLen F.length) true true (Nat.zero_le _) (Nat.le_refl _) (Or.inl rfl)
 rw [hDs] at hP hS
 generalize Sort.pdq enLt D 0 F.length (Lib.bitLen F.length) true true = D' at hM hP hS
 have hD's : D'.size = F.length := by rw [hP.1, hDs]
 have hD'l : D'.toList.length = F.length := hD's
 have hDp : D'.toList.Perm (Z.map enZ) := by
  have := hP.2.2
  rw [← hD]
  rwa [show D'.extract 0 F.length = D' by rw [← hD's]; simp, show D.extract 0 F.length = D by rw [← hDs]; simp] at this
 obtain ⟨Z', hZp, hZ'⟩ := Acc.perm_map enZ hDp rfl
 have hF' : Z'.map (·.1) = F' := by
  refine Acc.srt_uniq hs (sorted_list hZ' (by rw [hD's]; exact hS)) ?_
  have : (Z'.map (·.1)).Perm (Z.map (·.1)) := hZp.map _
  rw [hZF] at this
  exact this.trans hp.symm
 subst hsv
 have hog : own (.slice (some ⟨g, 0, none⟩) F.length cap) = some g := by simp [own, hc]
 obtain ⟨hBg, hgw⟩ := hown.own_ge hog
 have hgo : g ≠ o := fun e => hne (by rw [hog, e])
 have hf9 : Tryz.prog.funcs.findIdx? (·.name == "internal/reflectlite" ++ ".Swapper$" ++ toString (Lib.swapperK F.length slE 25)) = some 129 := by
  rw [slK F.length h2']
  kernel_rfl
 refine Any.sort_Slice_of_pdq Tryz.laysGg6 23 28 slT slE hi0 hd0 hpk hie 25 hke _ F.length cap (by omega) _ hf9 (.func 46) #[] _ w (fun w' => Below B w w' ∧ (∀ k, k < w.heap.size → own (.slice (some ⟨g, 0, none⟩) F.length cap) ≠ some k → k ≠ o → w'.heap[k]? = w.heap[k]?) ∧ w'.rangeAt o 0 (a :: .slice (some ⟨g, 0, none⟩) F.length cap :: r) ∧ w'.there o 0 (a :: Value.slice (some ⟨g, 0, none⟩) F.length cap :: r).length ∧ w.heap.size ≤ w'.heap.size ∧ OwnV w' ok B 28 3 (.slice (some ⟨g, 0, none⟩) F.length cap) (F'.map enW)) ?_
 have hB2 : sliceBound Tryz.prog 28 slE 25 (some ⟨g, 0, none⟩) F.length cap = #[.slice (some ⟨g, 0, none⟩) F.length cap, typeHandle Tryz.prog 28] := by
  unfold sliceBound
  rw [slK F.length h2']
  rfl
 rw [hB2]
 obtain ⟨w1, hw1, hb1, hs1, hk1⟩ : ∃ w1, w1 = sliceWorld Tryz.prog Tryz.laysGg6_ren 23 (some ⟨g, 0, none⟩) F.length cap w ∧ Below B w w1 ∧ w.heap.size ≤ w1.heap.size ∧ ∀ k, k < w.heap.size → w1.heap[k]? = w.heap[k]? := by
  refine ⟨_, rfl, ?_, ?_, ?_⟩
  ·unfold sliceWorld
   exact ((Below.refl B w).alloc hB _).alloc (by rw [World.size_alloc]; omega) _
  ·unfold sliceWorld
   rw [World.size_alloc, World.size_alloc]
   omega
  ·intro k hk
   unfold sliceWorld
   rw [Below.heap_alloc _ _ _ (by rw [World.size_alloc]; omega), Below.heap_alloc _ _ _ hk]
 rw [← hw1]
 have hown1 : OwnV w1 (okAt (fun _ => False) B (shift 1000000 (rho2 (.slice (some ⟨g, 0, none⟩) F.length cap) o)) w1) B 28 3 (.slice (some ⟨g, 0, none⟩) F.length cap) (D.toList.map enR) := by
  have hg1 := hown.mono (w' := w1) (ok' := ok) (fun k hk => ⟨hk, hk1 k (hok k hk).1⟩) fun k hk => hk1 k (hown.own_ge hk).2
  refine ⟨vs, by rw [List.length_map, hDl, hl], hsz, h1, fun i e v he hv => ?_, ?_⟩
  ·rw [hD, List.map_map, List.getElem?_map, Option.map_eq_some_iff] at he
   obtain ⟨q, hq, rfl⟩ := he
   rw [hZ, List.getElem?_zip_eq_some] at hq
   have hv' : q.2 = v := by
    have := hq.2
    rw [hv] at this
    exact (Option.some.inj this).symm
   have hr := hrr i _ _ (by rw [List.getElem?_map, hq.1]; rfl) hv
   obtain ⟨e1, e2⟩ := enW_val hr
   show RelD w1 _ (enR (enZ q)) v
   rw [e1]
   unfold enZ
   rw [hv']
   exact rel_enR (x := (q.1.1, q.1.2.1, thV v)) e2
  ·right
   rw [List.length_map] at ho
   rw [List.length_map, hDl]
   refine ⟨ho.1, ?_⟩
   rcases ho.2 with ⟨hn, _⟩ | ⟨g', cap', cur, hq, hbb, hgg, rest⟩
   ·cases hn
   ·refine .inr ⟨g', cap', cur, hq, hbb, ?_, rest⟩
    simp at hq
    rw [← hq.1, hk1 g hgw]
    rw [← hq.1] at hgg
    exact hgg
 have hra1 : w1.rangeAt o 0 (a :: .slice (some ⟨g, 0, none⟩) F.length cap :: r) := range_heap hra (hk1 o hlto)
 have hth1 : w1.there o 0 (a :: Value.slice (some ⟨g, 0, none⟩) F.length cap :: r).length := there_heap hth (hk1 o hlto)
 have hboxR : ∀ (W : World) (okk : Nat → Prop), Rel W okk (shift 1000000 (rho2 (.slice (some ⟨g, 0, none⟩) F.length cap) o)) (boxV a r) (.agg (a :: .slice (some ⟨g, 0, none⟩) F.length cap :: r).toArray) := by
  intro W okk
  unfold boxV
  refine .agg _ _ (by simp) h1c fun j c v hc hv => ?_
  match j, hc, hv with
  | 0, hc, hv => simp at hc hv; subst hc; subst hv; exact .ro (.raw _)
  | 1, hc, hv => simp at hc hv; subst hc; subst hv; exact .vec _ _ rfl rfl
  | j + 2, hc, hv =>
   simp at hc hv
   obtain ⟨u, hu, rfl⟩ := hc
   rw [hv] at hu
   cases hu
   exact .ro (.raw _)
 have hI := rho2_inv (bv := boxV a r) (val := .undef) (vv := .tuple #[]) (Nat.le_trans hB hs1) hpos hown1 hBo (by omega) hne ⟨o, .agg (a :: .slice (some ⟨g, 0, none⟩) F.length cap :: r).toArray, rfl, hBo, by omega, hra1, hth1, h1c, hboxR _ _⟩
 have hrelA : ∀ (j : Nat) c u, [V.agg [.fn 46 [.ptr 1000001 0], .fn 129 [.vec 1000000, .raw (typeHandle Tryz.prog 28)]], .int .i64 0, .int .i64 F.length, .int .i64 (Lib.bitLen F.length)][j]? = some c →
   [Value.agg #[.func (.func 46) #[] #[.pointer (some ⟨o, 0, none⟩)], .func (.func 129) #[] #[.slice (some ⟨g, 0, none⟩) F.length cap, typeHandle Tryz.prog 28]], .int .i64 0, .int .i64 F.length, .int .i64 (Lib.bitLen F.length)][j]? = some u →
   Rel w1 (fun _ => False) (shift 1000000 (rho2 (.slice (some ⟨g, 0, none⟩) F.length cap) o)) c u := by
  intro j c u hc hu
  match j, hc, hu with
  | 0, hc, hu =>
   simp at hc hu; subst hc; subst hu
   refine .agg [.fn 46 [.ptr 1000001 0], .fn 129 [.vec 1000000, .raw (typeHandle Tryz.prog 28)]] [.func (.func 46) #[] #[.pointer (some ⟨o, 0, none⟩)], .func (.func 129) #[] #[.slice (some ⟨g, 0, none⟩) F.length cap, typeHandle Tryz.prog 28]] rfl (fun v hv => ?_) fun j c v hc hv => ?_
   ·simp only [List.mem_cons, List.not_mem_nil, or_false] at hv
    rcases hv with rfl | rfl <;> rfl
   ·match j, hc, hv with
    | 0, hc, hv =>
     simp at hc hv; subst hc; subst hv
     refine .fn _ [.ptr 1000001 0] [.pointer (some ⟨o, 0, none⟩)] rfl fun j c v hc hv => ?_
     match j, hc, hv with
     | 0, hc, hv => simp at hc hv; subst hc; subst hv; exact .ptr _ _ o rfl
     | j + 1, hc, _ => simp at hc
    | 1, hc, hv =>
     simp at hc hv; subst hc; subst hv
     refine .fn _ [.vec 1000000, .raw (typeHandle Tryz.prog 28)] [.slice (some ⟨g, 0, none⟩) F.length cap, typeHandle Tryz.prog 28] rfl fun j c v hc hv => ?_
     match j, hc, hv with
     | 0, hc, hv => simp at hc hv; subst hc; subst hv; exact .vec _ _ rfl rfl
     | 1, hc, hv => simp at hc hv; subst hc; subst hv; exact .ro (.raw _)
     | j + 2, hc, _ => simp at hc
    | j + 2, hc, _ => simp at hc
  | 1, hc, hu => simp at hc hu; subst hc; subst hu; exact .ro (.int _ _)
  | 2, hc, hu => simp at hc hu; subst hc; subst hu; exact .ro (.int _ _)
  | 3, hc, hu => simp at hc hu; subst hc; subst hu; exact .ro (.int _ _)
  | j + 4, hc, _ => simp at hc
 have hCX := hM w1 B (rho2 (.slice (some ⟨g, 0, none⟩) F.length cap) o) _ (fun w' hb => hJw w' (hb1.trans hb)) hI rfl hrelA
 rcases hCX with ⟨_, hC⟩ | ⟨val, w', hrun, _⟩
 case inr =>
  exfalso
  have := enters_of (P := Tryz.prog) Tryz.func92 (by kernel_rfl) rfl
  rw [this] at hrun
  cases hrun
 refine hC.mono ?_
 rintro e w' ⟨val, rfl, hbel, hkp, hI', hval⟩
 have hval' : val = .tuple #[] := by
  cases hval with
  | ro h => cases h with | tup cs vs hl h => match vs, hl with | [], _ => rfl
  | tup cs vs hl h => match vs, hl with | [], _ => rfl
 subst hval'
 have hkeep : ∀ k, k < w.heap.size → own (.slice (some ⟨g, 0, none⟩) F.length cap) ≠ some k → k ≠ o → w'.heap[k]? = w.heap[k]? := by
  intro k hk hno hko
  rw [← hk1 k hk]
  refine hkp.1 k (by omega) fun b v hv => ?_
  obtain ⟨hb, hv⟩ := shift_some hv
  obtain ⟨m, rfl⟩ : ∃ m, b = 1000000 + m := ⟨b - 1000000, by omega⟩
  rw [Nat.add_sub_cancel_left] at hv
  match m, hv with
  | 0, hv => simp only [rho2, Option.some.injEq] at hv; subst hv; exact hno
  | 1, hv =>
   simp only [rho2, Option.some.injEq] at hv
   subst hv
   intro h
   simp [own] at h
   exact hko h.symm
  | m + 2, hv => simp [rho2] at hv
 refine ⟨rfl, hb1.trans hbel, hkeep, ?_⟩
 obtain ⟨svo, hsvo, go, valo, hgo', _, _, hra', hth', _, hrelo⟩ := hI'.blk 1000001 (.box (boxV a r)) rfl
 have hsv1 : svo = .pointer (some ⟨o, 0, none⟩) := (Option.some.inj hsvo).symm
 subst hsv1
 simp at hgo'
 subst hgo'
 have hcs : valo.cells.toList = a :: .slice (some ⟨g, 0, none⟩) F.length cap :: r := by
  unfold boxV at hrelo
  obtain ⟨us, rfl, hlu, _, hus⟩ := hrelo.agg_inv
  show us = _
  simp at hlu
  refine List.ext_getElem? fun j => ?_
  match j with
  | 0 =>
   have h := hus 0 (.raw a) us[0] rfl (by simp)
   rw [List.getElem?_eq_getElem (by omega)]
   cases h with
   | ro h => cases h; rfl
  | 1 =>
   have h := (hus 1 (.vec 1000000) us[1] rfl (by simp)).vec_inv
   rw [List.getElem?_eq_getElem (by omega)]
   simp only [List.getElem?_cons_succ, List.getElem?_cons_zero]
   exact h.symm
  | j + 2 =>
   by_cases hj : j < r.length
   ·have h := hus (j + 2) (.raw r[j]) us[j + 2] (by simp [hj]) (by simp)
    rw [List.getElem?_eq_getElem (by omega)]
    simp only [List.getElem?_cons_succ, List.getElem?_eq_getElem hj]
    generalize us[j + 2] = u at h
    cases h with
    | ro h => cases h; rfl
   ·rw [List.getElem?_eq_none (by omega), List.getElem?_eq_none (by simp; omega)]
 rw [hcs] at hra'
 have hth2 : w'.there o 0 (a :: Value.slice (some ⟨g, 0, none⟩) F.length cap :: r).length := by
  rw [← hcs, Array.length_toList]
  exact hth'
 refine ⟨hra', hth2, Nat.le_trans hs1 hkp.2, ?_⟩
 obtain ⟨sv2, hsv2, _, hown2⟩ := hI'.blk 1000000 (.vec 28 3 (D'.toList.map enR)) rfl
 have hsv3 : sv2 = .slice (some ⟨g, 0, none⟩) F.length cap := (Option.some.inj hsv2).symm
 subst hsv3
 obtain ⟨vs', hl', hs', h1', hr', ho'⟩ := hown2
 rw [List.length_map, hD'l] at hl' ho'
 refine ⟨vs', by rw [List.length_map, hl', hlen], hs', h1', fun i e v he hv => ?_, .inr ?_⟩
 ·rw [← hF', List.map_map, List.getElem?_map, Option.map_eq_some_iff] at he
  obtain ⟨q, hq, rfl⟩ := he
  have hv2 := enR_rel (hr' i (enR (enZ q)) v (by rw [hZ', List.map_map, List.getElem?_map, hq]; rfl) hv)
  have hqr := hZr q (hZp.mem_iff.1 (List.mem_of_getElem? hq))
  have hq2 := (enW_val hqr).1
  have hvq : v = q.2 := by rw [hv2, hq2]; rfl
  rw [hvq]
  exact hqr.mono fun k hk => ⟨hk, hkeep k (hok k hk).1 (hok k hk).2.1 (hok k hk).2.2⟩
 ·rw [List.length_map, hlen]
  rcases ho' with ⟨_, _, hn⟩ | ho'
  ·have := congrArg List.length hn
   rw [List.length_map, hD'l, List.length_nil] at this
   omega
  ·exact ho'
end Go.Proofs.YtdmkmbaaemhhhaaGreatDoor
