/-
  The desk's words, run by the machine: number, next, num, nums, lines, end; told, one, must.
-/
import Derived.Test.YtcmpjagpggjfiaaGreatDoorT25
import Derived.Test.YtcmpjagpggjfiaaGreatDoorT26
import Derived.Test.YtcmpjagpggjfiaaGreatDoorT21
set_option linter.unusedVariables false
set_option linter.unusedSimpArgs false
namespace Go.Ev
open Go Go.RowKit
theorem famN {P : Program} {J : World → Prop} {f : FuncId} {ι : Type} (k : ι → List Ev.Blk) (a : ι → List V) (r : ι → V × List Ev.Blk) (hi : ∀ i j, k i = k j → a i = a j → r i = r j) (h : ∀ i, MutAt P J f (k i) (a i) (r i).1 (r i).2) :
  ∃ F : List Ev.Blk → List V → Option (V × List Ev.Blk), (∀ i, F (k i) (a i) = some (r i)) ∧ Mu P J f F := by
 refine ⟨fun ks xs => open Classical in if h : ∃ i, k i = ks ∧ a i = xs then some (r h.choose) else none, fun i => ?_, fun ks xs r' ks' h' => ?_⟩
 ·have hx : ∃ j, k j = k i ∧ a j = a i := ⟨i, rfl, rfl⟩
  simp only [dif_pos hx]
  rw [hi _ _ hx.choose_spec.1 hx.choose_spec.2]
 ·by_cases hx : ∃ i, k i = ks ∧ a i = xs
  ·simp only [dif_pos hx] at h'
   have e := Option.some.inj h'
   have := h hx.choose
   rw [hx.choose_spec.1, hx.choose_spec.2, e] at this
   exact this
  ·simp only [dif_neg hx] at h'
   cases h'
theorem famS {P : Program} {J : World → Prop} {f : FuncId} {ι : Type} (a : ι → List V) (r : ι → V × List Ev.Blk) (hi : ∀ i j, a i = a j → r i = r j) (h : ∀ i, SoundAt P J f (a i) (r i).1 (r i).2) :
  ∃ F : List V → Option (V × List Ev.Blk), (∀ i, F (a i) = some (r i)) ∧ Snd P J f F := by
 refine ⟨fun xs => open Classical in if h : ∃ i, a i = xs then some (r h.choose) else none, fun i => ?_, fun xs r' ks' h' => ?_⟩
 ·have hx : ∃ j, a j = a i := ⟨i, rfl⟩
  simp only [dif_pos hx]
  rw [hi _ _ hx.choose_spec]
 ·by_cases hx : ∃ i, a i = xs
  ·simp only [dif_pos hx] at h'
   have e := Option.some.inj h'
   have := h hx.choose
   rw [hx.choose_spec, e] at this
   exact this
  ·simp only [dif_neg hx] at h'
   cases h'
theorem one_mu {P : Program} {J : World → Prop} {f : FuncId} {ks : List Ev.Blk} {xs : List V} {r : V} {ks' : List Ev.Blk} (h : MutAt P J f ks xs r ks') : ∃ F : List Ev.Blk → List V → Option (V × List Ev.Blk), F ks xs = some (r, ks') ∧ Mu P J f F := by
 obtain ⟨F, h1, h2⟩ := famN (fun _ : Unit => ks) (fun _ => xs) (fun _ => (r, ks')) (fun _ _ _ _ => rfl) fun _ => h
 exact ⟨F, h1 (), h2⟩
end Go.Ev
namespace Go.Proofs.YtcmpjagpggjfiaaGreatDoor
open Go Go.Ev Go.RowKit Go.Lg
set_option maxHeartbeats 4000000
def wdB (ws : List ByteArray) (k : Nat) : Ev.Blk := .box (.agg [.row 1 (ws.map V.str), .int .i64 k])
theorem wd_map {ws ws' : List ByteArray} (h : ws.map V.str = ws'.map V.str) : ws = ws' := (List.map_inj_right fun x y h => by cases h; rfl).1 h
theorem wdB_inj {ws ws' : List ByteArray} {k k' : Nat} (h : wdB ws k = wdB ws' k') : ws = ws' ∧ k = k' := by
 simp only [wdB, Ev.Blk.box.injEq, V.agg.injEq, List.cons.injEq, V.row.injEq, V.int.injEq, true_and, and_true] at h
 exact ⟨wd_map h.1, by omega⟩
theorem wd_get {ws : List ByteArray} {k : Nat} {x : ByteArray} (h : ws[k]? = some x) : (ws.map V.str)[k]? = some (.str x) := by rw [List.getElem?_map, h]; rfl
theorem number_sound (n : Int) (h0 : -9999999999999 ≤ n) (h1 : n ≤ 9999999999999) : SoundAt Tryz.prog DkJ 75 [.str (itoaB n)] (.int .i64 n) [] := by
 have hJ := stableDk
 have hs : (itoaB n).size ≤ 14 := by
  have := itoaB_size (n := n) (k := 12) (by omega)
  omega
 have e1 := atF_itoa (n := n) (by omega) (by omega)
 have e2 := itF_eq (n := n) (by omega) (by omega)
 refine evFn (l := [(132, atF), (20, itF)]) (nv := nv0) (fz := fz0) (dr := dr75) (dd := dd75) (lam := []) (ms := ms0) ⟨at_snd, it_snd, trivial⟩ hJ trivial ms0_ok Tryz.func75 rfl rfl (Nat.le_of_ble_eq_true rfl) (Nat.le_of_ble_eq_true rfl) drOk75 ?_
 dsimp only [Tryz.f75, dr75, dd75, Option.getD_some]
 refine ev_start ?_
 have hs' : ¬ (14 : Int) < ((itoaB n).size : Int) := by omega
 simp (disch := omega) only [e1, e2, hs', bin_neq_str, eq_self, go_sem, evP_D, evD_guard, evD_cons, evD_zero, evD_nil]
theorem next_mut {J : World → Prop} (hJ : Stable J) (ws : List ByteArray) (k : Nat) (x : ByteArray) (hx : ws[k]? = some x) (hl : ws.length ≤ 100000) : MutAt Tryz.prog J 74 [wdB ws k] [.ptr 1000000 0] (.str x) [wdB ws (k + 1)] := by
 have hk := (List.getElem?_eq_some_iff.1 hx).1
 have hne : ¬ (k : Int) = ws.length := by omega
 have hg := wd_get hx
 have hk1 : (k : Int) + 1 - 1 = k := by omega
 unfold wdB
 refine evMut (nn := []) (l := []) (nv := nv0) (fz := fz0) (dr := dr74) (dd := dd74) (lam := []) (ms := ms0) trivial hJ trivial ms0_ok Tryz.func74 rfl rfl (Nat.le_of_ble_eq_true rfl) (Nat.le_of_ble_eq_true rfl) drOk74 rfl ?_
 dsimp only [Tryz.f74, dr74, dd74, Option.getD_some]
 refine ev_start ?_
 simp (disch := omega) only [hne, hk1, idx_nat, hg, go_sem, evP_D, evD_guard, evD_cons, evD_zero, evD_nil]
 rfl
theorem num_mut (ws : List ByteArray) (k : Nat) (n : Int) (hx : ws[k]? = some (itoaB n)) (h0 : -9999999999999 ≤ n) (h1 : n ≤ 9999999999999) (hl : ws.length ≤ 100000) : MutAt Tryz.prog DkJ 73 [wdB ws k] [.ptr 1000000 0] (.int .i64 n) [wdB ws (k + 1)] := by
 have hJ := stableDk
 have hN := next_mut hJ ws k _ hx hl
 unfold wdB at *
 obtain ⟨F, hF, sF⟩ := famN (fun _ : Unit => _) (fun _ => _) (fun _ => (_, _)) (fun _ _ _ _ => rfl) fun _ => hN
 have hF := hF ()
 refine evMut (nn := []) (l := [(75, at1 _ (_, []))]) (nv := nv0) (fz := fz0) (dr := dr73) (dd := dd73) (lam := []) (ms := ⟨[(74, F)], lnL [(4, [1000000])], []⟩) ⟨at1_snd (number_sound n h0 h1), trivial⟩ hJ trivial ⟨⟨sF, trivial⟩, trivial⟩ Tryz.func73 rfl rfl (Nat.le_of_ble_eq_true rfl) (Nat.le_of_ble_eq_true rfl) drOk73 rfl ?_
 dsimp only [Tryz.f73, dr73, dd73, Option.getD_some]
 refine ev_start ?_
 simp (disch := omega) only [at1_eq, hF, go_sem, evP_D, evD_guard, evD_cons, evD_zero, evD_nil]
theorem end_mut {J : World → Prop} (hJ : Stable J) (ws : List ByteArray) (hl : ws.length ≤ 100000) : MutAt Tryz.prog J 24 [wdB ws ws.length] [.ptr 1000000 0] (.tup []) [wdB ws ws.length] := by
 unfold wdB
 refine evMut (nn := []) (l := []) (nv := nv0) (fz := fz0) (dr := dr24) (dd := dd24) (lam := []) (ms := ms0) trivial hJ trivial ms0_ok Tryz.func24 rfl rfl (Nat.le_of_ble_eq_true rfl) (Nat.le_of_ble_eq_true rfl) drOk24 rfl ?_
 dsimp only [Tryz.f24, dr24, dd24, Option.getD_some]
 refine ev_start ?_
 simp (disch := omega) only [List.length_map, go_sem, evP_D, evD_guard, evD_cons, evD_zero, evD_nil]
theorem must_sound {J : World → Prop} (hJ : Stable J) : SoundAt Tryz.prog J 67 [.int .i64 0] (.tup []) [] := by
 refine evFn (l := []) (nv := nv0) (fz := fz0) (dr := dr67) (dd := dd67) (lam := []) (ms := ms0) trivial hJ trivial ms0_ok Tryz.func67 rfl rfl (Nat.le_of_ble_eq_true rfl) (Nat.le_of_ble_eq_true rfl) drOk67 ?_
 dsimp only [Tryz.f67, dr67, dd67, Option.getD_some]
 refine ev_start ?_
 simp (disch := omega) only [go_sem, evP_D, evD_guard, evD_cons, evD_zero, evD_nil]
theorem cutV_pc {p : ByteArray × Int} (h : (58 : UInt8) ∉ p.1.data.toList) : cutV (pcB p) ⟨#[58]⟩ = .tup [.str p.1, .str (itoaB p.2), .bool true] := by
 have e := cutW_pc h
 unfold cutW at e
 simp only [Prod.mk.injEq] at e
 have hi : (0 : Int) ≤ Lib.index (pcB p).data.toList [58] := by
  rw [pcB_data, pcL, index_at h]; omega
 unfold cutV
 have e3 : (Lib.cut (pcB p).data.toList [58]).2.2 = true := by
  unfold Lib.cut
  rw [if_pos hi]
 rw [e3]
 rw [show ((⟨#[58]⟩ : ByteArray).data.toList) = [58] from rfl, e.1, e.2]
theorem nums_mut (ws : List ByteArray) (k : Nat) (l : List Int) (hx : ∀ (i : Nat) n, l[i]? = some n → ws[k + i]? = some (itoaB n)) (hb : ∀ n ∈ l, -9999999999999 ≤ n ∧ n ≤ 9999999999999) (hl : ws.length ≤ 100000) (h10 : l.length ≤ 10) :
  MutAt Tryz.prog DkJ 22 [wdB ws k] [.ptr 1000000 0, .int .i64 l.length] (.row 1 (l.map (V.int .i64))) [wdB ws (k + l.length)] := by
 have hJ := stableDk
 obtain ⟨F, hF, sF⟩ := famN (P := Tryz.prog) (J := DkJ) (f := 73) (fun i : { i : Nat // i < l.length } => [wdB ws (k + i.1)]) (fun _ => [.ptr 1000000 0]) (fun i => (.int .i64 l[i.1], [wdB ws (k + i.1 + 1)])) (fun i j h _ => by
  obtain ⟨i, hi⟩ := i
  obtain ⟨j, hj⟩ := j
  simp only [List.cons.injEq, and_true] at h
  have e : k + i = k + j := (wdB_inj h).2
  have : i = j := by omega
  subst this
  rfl) fun i => num_mut ws (k + i.1) l[i.1] (hx i.1 _ (List.getElem?_eq_getElem i.2)) (hb _ (List.getElem_mem i.2)).1 (hb _ (List.getElem_mem i.2)).2 hl
 unfold wdB at *
 refine evMut (nn := []) (l := []) (nv := (nvL [(5, (3, 1))])) (fz := (fzL [(15, [40])])) (dr := dr22) (dd := dd22) (lam := []) (ms := ⟨[(73, F)], lnL [(11, [1000000])], []⟩) trivial hJ trivial ⟨⟨sF, trivial⟩, trivial⟩ Tryz.func22 rfl rfl (Nat.le_of_ble_eq_true rfl) (Nat.le_of_ble_eq_true rfl) drOk22 rfl ?_
 dsimp only [Tryz.f22, dr22, dd22, Option.getD_some]
 refine ev_start ?_
 simp (disch := omega) only [go_sem, evP_D, evD_guard, evD_cons, evD_zero, evD_nil]
 refine evQ_loop [0, 5, 6, 7] [1000000, 40] (fun σ => ∃ i : Nat, i ≤ l.length ∧ σ = ⟨[(0, .ptr 1000000 0), (5, .vec 40), (6, .int .i64 l.length), (7, .int .i64 i)], [(1000000, .box (.agg [.row 1 (ws.map V.str), .int .i64 ((k + i : Nat) : Int)])), (40, .vec 3 1 ((l.take i).map (V.int .i64)))]⟩)
  (fun σ => l.length - (match Ev.look 7 σ.env with | some (.int _ n) => n.toNat | _ => 0)) ?_ ?_
 ·simp only [go_sem, evP_D, evD_guard, evD_cons, evD_zero, evD_nil]
  exact ⟨0, Nat.zero_le _, rfl⟩
 ·rintro σ ⟨i, hi, rfl⟩
  by_cases hlt : i < l.length
  ·have hlt' : (i : Int) < l.length := by omega
   have hFi := hF ⟨i, hlt⟩
   simp only at hFi
   have ht : (l.take i).length ≤ 10 := by rw [List.length_take]; omega
   simp (disch := (first | omega | assumption)) only [hlt', hFi, go_sem, evP_D, evD_guard, evD_cons, evD_zero, evD_nil]
   refine ⟨⟨i + 1, hlt, ?_⟩, by show l.length - ((i : Int) + 1).toNat < l.length - (i : Int).toNat; omega⟩
   rw [List.take_succ_eq_append_getElem hlt, List.map_append]
   rfl
  ·have he : i = l.length := by omega
   subst he
   have hlt' : ¬ (l.length : Int) < l.length := by omega
   simp (disch := (first | omega | assumption)) only [hlt', List.take_length, freezeL, St.freeze, List.filter_cons, List.filter_nil, bne, go_sem, evP_D, evD_guard, evD_cons, evD_zero, evD_nil]
theorem lines_mut (ws : List ByteArray) (k : Nat) (L : List (ByteArray × Int)) (hx : ∀ (i : Nat) p, L[i]? = some p → ws[k + i]? = some (pcB p)) (hend : ws.length = k + L.length) (hb : ∀ p ∈ L, (58 : UInt8) ∉ p.1.data.toList ∧ p.1.size ≤ 100 ∧ -9999999999999 ≤ p.2 ∧ p.2 ≤ 9999999999999) (hl : ws.length ≤ 100000) (h10 : L.length ≤ 10) :
  MutAt Tryz.prog DkJ 79 [wdB ws k] [.ptr 1000000 0] (.row 2 (L.map acV)) [wdB ws ws.length] := by
 have hJ := stableDk
 obtain ⟨F, hF, sF⟩ := famN (P := Tryz.prog) (J := DkJ) (f := 74) (fun i : { i : Nat // i < L.length } => [wdB ws (k + i.1)]) (fun _ => [.ptr 1000000 0]) (fun i => (.str (pcB L[i.1]), [wdB ws (k + i.1 + 1)])) (fun i j h _ => by
  obtain ⟨i, hi⟩ := i
  obtain ⟨j, hj⟩ := j
  simp only [List.cons.injEq, and_true] at h
  have e : k + i = k + j := (wdB_inj h).2
  have : i = j := by omega
  subst this
  rfl) fun i => next_mut hJ ws (k + i.1) (pcB L[i.1]) (hx i.1 _ (List.getElem?_eq_getElem i.2)) hl
 obtain ⟨G, hG, sG⟩ := famS (P := Tryz.prog) (J := DkJ) (f := 75) (fun i : { i : Nat // i < L.length } => [.str (itoaB L[i.1].2)]) (fun i => (.int .i64 L[i.1].2, [])) (fun i j h => by
  obtain ⟨i, hi⟩ := i
  obtain ⟨j, hj⟩ := j
  simp only [List.cons.injEq, V.str.injEq, and_true] at h
  have b1 := hb _ (List.getElem_mem hi)
  have b2 := hb _ (List.getElem_mem hj)
  have := itoaB_inj ⟨by omega, by omega⟩ ⟨by omega, by omega⟩ h
  simp only [this]) fun i => number_sound _ (hb _ (List.getElem_mem i.2)).2.2.1 (hb _ (List.getElem_mem i.2)).2.2.2
 unfold wdB at *
 refine evMut (nn := []) (l := [(135, cutF), (75, G)]) (nv := (nvL [(3, (85, 2))])) (fz := (fzL [(34, [24])])) (dr := dr79) (dd := dd79) (lam := []) (ms := ⟨[(74, F)], lnL [(19, [1000000])], []⟩) ⟨cut_snd, sG, trivial⟩ hJ trivial ⟨⟨sF, trivial⟩, trivial⟩ Tryz.func79 rfl rfl (Nat.le_of_ble_eq_true rfl) (Nat.le_of_ble_eq_true rfl) drOk79 rfl ?_
 dsimp only [Tryz.f79, dr79, dd79, Option.getD_some]
 refine ev_start ?_
 simp (disch := omega) only [go_sem, evP_D, evD_guard, evD_cons, evD_zero, evD_nil]
 refine evQ_loop [0, 3] [1000000, 24] (fun σ => ∃ i : Nat, i ≤ L.length ∧ σ = ⟨[(0, .ptr 1000000 0), (3, .vec 24)], [(1000000, .box (.agg [.row 1 (ws.map V.str), .int .i64 ((k + i : Nat) : Int)])), (24, .vec 85 2 ((L.take i).map acV))]⟩)
  (fun σ => ws.length - (match Ev.look 1000000 σ.hp with | some (.box (.agg [_, .int _ n])) => n.toNat | _ => 0)) ?_ ?_
 ·simp only [go_sem, evP_D, evD_guard, evD_cons, evD_zero, evD_nil]
  exact ⟨0, Nat.zero_le _, rfl⟩
 ·rintro σ ⟨i, hi, rfl⟩
  by_cases hlt : i < L.length
  ·have hlt' : ((k + i : Nat) : Int) < ws.length := by omega
   have hFi := hF ⟨i, hlt⟩
   have hGi := hG ⟨i, hlt⟩
   simp only at hFi hGi
   have ht : (L.take i).length ≤ 10 := by rw [List.length_take]; omega
   have bi := hb _ (List.getElem_mem hlt)
   have hs : (itoaB L[i].2).size ≤ 14 := by
    have := itoaB_size (n := L[i].2) (k := 12) (by omega)
    omega
   have hC := cutF_eq (s := pcB L[i]) (sep := ⟨#[58]⟩) (by unfold pcB; rw [ByteArray.size_append, ByteArray.size_append]; show L[i].1.size + 1 + _ < _; omega)
   rw [cutV_pc bi.1] at hC
   simp (disch := (first | omega | assumption)) only [hlt', hFi, hGi, hC, go_sem, evP_D, evD_guard, evD_cons, evD_zero, evD_nil]
   refine ⟨⟨i + 1, hlt, ?_⟩, by show ws.length - (((k + i + 1 : Nat) : Int)).toNat < ws.length - (((k + i : Nat) : Int)).toNat; omega⟩
   rw [List.take_succ_eq_append_getElem hlt, List.map_append]
   rfl
  ·have he : i = L.length := by omega
   subst he
   have hlt' : ¬ (ws.length : Int) < ws.length := by omega
   have hle : k + L.length = ws.length := hend.symm
   simp (disch := (first | omega | assumption)) only [hlt', hle, List.take_length, freezeL, St.freeze, List.filter_cons, List.filter_nil, bne, go_sem, evP_D, evD_guard, evD_cons, evD_zero, evD_nil]
def toldB (l : List Int) : ByteArray := l.foldl (fun a n => a ++ (⟨#[32]⟩ ++ itoaB n)) ⟨#[111, 107]⟩
theorem toldB_size : ∀ (l : List Int) (a : ByteArray), (∀ n ∈ l, -9223372036854775808 ≤ n ∧ n ≤ 9223372036854775807) → (l.foldl (fun a n => a ++ (⟨#[32]⟩ ++ itoaB n)) a).size ≤ a.size + 21 * l.length
 | [], a, _ => by simp
 | n :: l, a, h => by
  rw [List.foldl_cons]
  have h1 := toldB_size l (a ++ (⟨#[32]⟩ ++ itoaB n)) fun x hx => h x (List.mem_cons_of_mem _ hx)
  have h2 := h n (by simp)
  have h3 := itoaB_size (n := n) (k := 18) (by omega)
  rw [ByteArray.size_append, ByteArray.size_append] at h1
  have h4 : ByteArray.size ⟨#[32]⟩ = 1 := rfl
  rw [List.length_cons]
  omega
theorem told_sound (l : List Int) (hb : ∀ n ∈ l, -9223372036854775808 ≤ n ∧ n ≤ 9223372036854775807) (h10 : l.length ≤ 10) : SoundAt Tryz.prog DkJ 68 [.row 1 (l.map (V.int .i64))] (.str (toldB l)) [] := by
 have hJ := stableDk
 refine evFn (l := [(20, itF)]) (nv := nv0) (fz := fz0) (dr := dr68) (dd := dd68) (lam := []) (ms := ms0) ⟨it_snd, trivial⟩ hJ trivial ms0_ok Tryz.func68 rfl rfl (Nat.le_of_ble_eq_true rfl) (Nat.le_of_ble_eq_true rfl) drOk68 ?_
 dsimp only [Tryz.f68, dr68, dd68, Option.getD_some]
 refine ev_start ?_
 simp (disch := omega) only [go_sem, evP_D, evD_guard, evD_cons, evD_zero, evD_nil]
 refine evQ_loop [3, 6, 7, 8] [] (fun σ => ∃ i : Nat, i ≤ l.length ∧ σ = ⟨[(3, .str (toldB (l.take i))), (6, .row 1 (l.map (V.int .i64))), (7, .int .i64 l.length), (8, .int .i64 i)], []⟩)
  (fun σ => l.length - (match Ev.look 8 σ.env with | some (.int _ n) => n.toNat | _ => 0)) ?_ ?_
 ·simp only [go_sem, evP_D, evD_guard, evD_cons, evD_zero, evD_nil]
  exact ⟨0, Nat.zero_le _, rfl⟩
 ·rintro σ ⟨i, hi, rfl⟩
  by_cases hlt : i < l.length
  ·have hlt' : (i : Int) < l.length := by omega
   have hg : (l.map (V.int .i64))[i]? = some (.int .i64 l[i]) := by rw [List.getElem?_map, List.getElem?_eq_getElem hlt]; rfl
   have b := hb _ (List.getElem_mem hlt)
   have hI := itF_eq b.1 b.2
   have s1 := itoaB_size (n := l[i]) (k := 18) (by omega)
   have s2 : (toldB (l.take i)).size ≤ 2 + 21 * (l.take i).length := toldB_size (l.take i) ⟨#[111, 107]⟩ fun n hn => hb n (List.mem_of_mem_take hn)
   have ht : (l.take i).length ≤ 10 := by rw [List.length_take]; omega
   have a1 : ((ByteArray.size ⟨#[32]⟩ + (itoaB l[i]).size : Nat) : Int) ≤ 9223372036854775807 := by show ((1 + (itoaB l[i]).size : Nat) : Int) ≤ _; omega
   have a2 : (((toldB (l.take i)).size + (⟨#[32]⟩ ++ itoaB l[i] : ByteArray).size : Nat) : Int) ≤ 9223372036854775807 := by rw [ByteArray.size_append]; show ((_ + (1 + (itoaB l[i]).size) : Nat) : Int) ≤ _; omega
   have e1 := bin_add_str a1
   have e2 := bin_add_str a2
   simp (disch := (first | omega | assumption)) only [hlt', idx_nat, hg, hI, e1, e2, go_sem, evP_D, evD_guard, evD_cons, evD_zero, evD_nil]
   refine ⟨⟨i + 1, hlt, ?_⟩, by show l.length - ((i : Int) + 1).toNat < l.length - (i : Int).toNat; omega⟩
   rw [List.take_succ_eq_append_getElem hlt]
   unfold toldB
   rw [List.foldl_append]
   rfl
  ·have he : i = l.length := by omega
   subst he
   have hlt' : ¬ (l.length : Int) < l.length := by omega
   simp (disch := (first | omega | assumption)) only [hlt', List.take_length, go_sem, evP_D, evD_guard, evD_cons, evD_zero, evD_nil]
theorem deskone_sound (n : Int) (h0 : -9223372036854775808 ≤ n) (h1 : n ≤ 9223372036854775807) : SoundAt Tryz.prog DkJ 46 [.int .i64 n, .int .i64 0] (.str (toldB [n])) [] := by
 have hJ := stableDk
 have hT := told_sound [n] (fun x hx => by simp at hx; subst hx; exact ⟨h0, h1⟩) (by simp)
 simp only [List.map_cons, List.map_nil] at hT
 refine evFn (l := [(67, at1 _ (_, [])), (68, at1 _ (_, []))]) (nv := nv0) (fz := fz0) (dr := dr46) (dd := dd46) (lam := []) (ms := ms0) ⟨at1_snd (must_sound hJ), at1_snd hT, trivial⟩ hJ trivial ms0_ok Tryz.func46 rfl rfl (Nat.le_of_ble_eq_true rfl) (Nat.le_of_ble_eq_true rfl) drOk46 ?_
 dsimp only [Tryz.f46, dr46, dd46, Option.getD_some]
 refine ev_start ?_
 simp (disch := omega) only [at1_eq, go_sem, evP_D, evD_guard, evD_cons, evD_zero, evD_nil]
end Go.Proofs.YtcmpjagpggjfiaaGreatDoor
