/-
  Steps of the proof of TopDesk: DkS DkL.
-/
import Derived.Test.YtcmpjagpggjfiaaGreatDoorT19
import Derived.Test.YtcmpjagpggjfiaaGreatDoorT27
import Derived.Test.YtcmpjagpggjfiaaGreatDoorT25
import Derived.Test.YtcmpjagpggjfiaaGreatDoorT26
set_option linter.unusedVariables false
set_option linter.unusedSimpArgs false
section
namespace Go.Dk
open Go
abbrev Ac := ByteArray × Int
def cmA (x y : Ac) : Int := Lib.compareBytes x.1.data.toList y.1.data.toList
def insA : List Ac → Ac → List Ac
 | [], x => [x]
 | y :: s, x => if cmA x y < 0 then x :: y :: s else y :: insA s x
theorem insA_at : ∀ {s : List Ac} {x : Ac} {j : Nat}, j ≤ s.length → (∀ (q : Nat) y, s[q]? = some y → j ≤ q → cmA x y < 0) → (∀ (q : Nat) y, s[q]? = some y → q < j → ¬ cmA x y < 0) → insA s x = s.take j ++ x :: s.drop j
 | [], x, j, hj, _, _ => by simp at hj; subst hj; rfl
 | y :: s, x, 0, _, h1, _ => by rw [insA, if_pos (h1 0 y rfl (Nat.le_refl _))]; rfl
 | y :: s, x, j + 1, hj, h1, h2 => by
  rw [insA, if_neg (h2 0 y rfl (by omega)), insA_at (j := j) (by simpa using hj) (fun q z h hq => h1 (q + 1) z (by simpa using h) (by omega)) fun q z h hq => h2 (q + 1) z (by simpa using h) (by omega)]
  simp
structure OrdA (s : List Ac) (x : Ac) : Prop where
 asc : ∀ (i : Nat) y z, s[i]? = some y → s[i + 1]? = some z → ¬ cmA z y < 0
 up : ∀ (i j : Nat) y z, s[i]? = some y → s[j]? = some z → i ≤ j → cmA x y < 0 → cmA x z < 0
end Go.Dk
namespace Go.Proofs.YtcmpjagpggjfiaaGreatDoor
open Go Go.Ev Go.RowKit Go.Acc Go.Dk
set_option maxHeartbeats 4000000
def cmAF : List V → Option (V × List Ev.Blk)
 | [.agg [.str a, .int .i64 _], .agg [.str b, .int .i64 _]] => some (.int .i64 (Lib.compareBytes a.data.toList b.data.toList), [])
 | _ => none
theorem cmAF_eq (x y : Ac) : cmAF [.agg [.str x.1, .int .i64 x.2], .agg [.str y.1, .int .i64 y.2]] = some (.int .i64 (cmA x y), []) := rfl
theorem setA (l : List Ac) (i : Nat) (x : Ac) : (l.map acV).set i (.agg [.str x.1, .int .i64 x.2]) = (l.set i x).map acV := by rw [List.map_set]; rfl
theorem getA {l : List Ac} {i : Nat} {x : Ac} (h : l[i]? = some x) : (l.map acV)[i]? = some (.agg [.str x.1, .int .i64 x.2]) := by rw [List.getElem?_map, h]; rfl
theorem plainA (l : List Ac) : ((l.map acV).all fun v => V.plain v && V.data v) = true := by
 rw [List.all_eq_true]
 intro v hv
 obtain ⟨x, _, rfl⟩ := List.mem_map.1 hv
 rfl
theorem cmA_snd {J : World → Prop} (hJ : Stable J) : Snd Tryz.prog J 134 cmAF := by
 intro args r bs h
 unfold cmAF at h
 split at h
 ·obtain ⟨rfl, rfl⟩ := some_pair h
  refine evFn (l := [(103, stcF)]) (nv := nv0) (fz := fz0) (dr := dr134) (dd := dd134) (lam := []) (ms := ms0) ⟨stc_snd, trivial⟩ hJ trivial ms0_ok Tryz.func134 rfl rfl (Nat.le_of_ble_eq_true rfl) (Nat.le_of_ble_eq_true rfl) drOk134 ?_
  dsimp only [Tryz.f134, dr134, dd134, Option.getD_some]
  refine ev_start ?_
  simp (disch := omega) only [stcF_eq, go_sem, evP_D, evD_guard, evD_cons, evD_zero, evD_nil]
 ·cases h
def midA (s : List Ac) (x : Ac) (j : Nat) : List Ac := s.take j ++ x :: s.drop j
theorem midA_len (s : List Ac) (x : Ac) (j : Nat) (h : j ≤ s.length) : (midA s x j).length = s.length + 1 := by unfold midA; rw [List.length_append, List.length_cons, List.length_take, List.length_drop]; omega
theorem midA_at {s : List Ac} {x : Ac} {j : Nat} (h : j ≤ s.length) : (midA s x j)[j]? = some x := by
 unfold midA
 rw [List.getElem?_append_right (by rw [List.length_take]; omega), List.length_take, Nat.min_eq_left h, Nat.sub_self]
 rfl
theorem midA_lo {s : List Ac} {x y : Ac} {j i : Nat} (h : j ≤ s.length) (hi : i < j) (hy : s[i]? = some y) : (midA s x j)[i]? = some y := by
 unfold midA
 rw [List.getElem?_append_left (by rw [List.length_take]; omega), List.getElem?_take, if_pos hi, hy]
theorem midA_swap {s : List Ac} {x y : Ac} {j : Nat} (hy : s[j]? = some y) : ((midA s x (j + 1)).set (j + 1) y).set j x = midA s x j := by
 obtain ⟨h, rfl⟩ := List.getElem?_eq_some_iff.1 hy
 unfold midA
 have h1 : (s.take (j + 1)).length = j + 1 := by rw [List.length_take]; omega
 have h2 : (s.take j).length = j := by rw [List.length_take]; omega
 rw [List.set_append_right _ _ (by omega), h1, Nat.sub_self, List.set_cons_zero, List.take_succ_eq_append_getElem h, List.append_assoc, List.set_append_right _ _ (by omega), h2, Nat.sub_self]
 simp only [List.cons_append, List.nil_append, List.set_cons_zero]
 rw [show s.drop j = s[j] :: s.drop (j + 1) from List.drop_eq_getElem_cons h]
set_option maxHeartbeats 4000000 in
theorem insA_lend {J : World → Prop} (hJ : Stable J) (s : List Ac) (x : Ac) (ho : OrdA s x) (hl : s.length ≤ 100) :
  LendAt Tryz.prog J 194 91 2 ((s ++ [x]).map acV) [.int .i64 0, .int .i64 (s.length + 1), .fn 134 []] ((insA s x).map acV) := by
 refine evLend (l := [(134, cmAF)]) (nv := nv0) (fz := fz0) (dr := dr194) (dd := dd194) (lam := []) (ms := ms0) ⟨cmA_snd hJ, trivial⟩ hJ trivial ms0_ok Tryz.func194 rfl rfl (Nat.le_of_ble_eq_true rfl) (Nat.le_of_ble_eq_true rfl) drOk194 rfl ?_ ?_
 rotate_left
 dsimp only [Tryz.f194, dr194, dd194, Option.getD_some]
 refine ev_start ?_
 ·simp (disch := omega) only [go_sem, evP_D, evD_guard, evD_cons, evD_zero, evD_nil]
  refine evQ_loop [0, 1, 2, 3, 8] [1000000] (fun σ => ∃ (i : Nat) (L : List Ac), (0 < i ∧ i ≤ s.length + 1 ∧ (i ≤ s.length → L = s ++ [x]) ∧ (i = s.length + 1 → L = insA s x)) ∧
   σ = ⟨[(0, .vec 1000000), (1, .int .i64 0), (2, .int .i64 (s.length + 1)), (3, .fn 134 []), (8, .int .i64 i)], [(1000000, .vec 91 2 (L.map acV))]⟩)
   (fun σ => s.length + 1 - (match Ev.look 8 σ.env with | some (.int _ n) => n.toNat | _ => 0)) ?_ ?_
  ·simp only [go_sem, evP_D, evD_guard, evD_cons, evD_zero, evD_nil]
   exact ⟨1, s ++ [x], ⟨by omega, by omega, fun _ => rfl, fun h => by
    have : s = [] := List.eq_nil_of_length_eq_zero (by omega)
    subst this
    rfl⟩, rfl⟩
  ·rintro σ ⟨i, L, ⟨hi, hi2, hL1, hL2⟩, rfl⟩
   by_cases hlt : i < s.length + 1
   ·have hlt' : (i : Int) < s.length + 1 := by omega
    have hL := hL1 (by omega)
    subst hL
    simp (disch := (first | omega | assumption)) only [hlt', go_sem, evP_D, evD_guard, evD_cons, evD_zero, evD_nil]
    refine evQ_loop [0, 1, 2, 3, 8, 9] [1000000] (fun σ => ∃ (j : Nat), (j ≤ i ∧ (i < s.length → j = i) ∧ (i = s.length → ∀ (q : Nat) y, s[q]? = some y → j ≤ q → cmA x y < 0)) ∧
     σ = ⟨[(0, .vec 1000000), (1, .int .i64 0), (2, .int .i64 (s.length + 1)), (3, .fn 134 []), (8, .int .i64 i), (9, .int .i64 j)], [(1000000, .vec 91 2 ((if i < s.length then s ++ [x] else midA s x j).map acV))]⟩)
     (fun σ => (match Ev.look 9 σ.env with | some (.int _ n) => n.toNat | _ => 0)) ?_ ?_
    ·simp only [go_sem, evP_D, evD_guard, evD_cons, evD_zero, evD_nil]
     refine ⟨i, ⟨Nat.le_refl _, fun _ => rfl, fun h q y h1 h2 => by have := (List.getElem?_eq_some_iff.1 h1).1; omega⟩, ?_⟩
     by_cases h : i < s.length
     ·rw [if_pos h]
     ·rw [if_neg h]
      have : i = s.length := by omega
      subst this
      unfold midA
      rw [List.take_length, List.drop_length]
    ·rintro σ ⟨j, ⟨hj, hj1, hj2⟩, rfl⟩
     have e3 : (i : Int) + 1 = ((i + 1 : Nat) : Int) := by omega
     by_cases h : i < s.length
     ·-- in their order as yet
      have hji := hj1 h
      subst hji
      rw [if_pos h]
      have hlen : (s ++ [x]).length = s.length + 1 := by simp
      have hja' : (0 : Int) < j := by omega
      have e1 : (j : Int) - 1 = ((j - 1 : Nat) : Int) := by omega
      obtain ⟨y, hy⟩ : ∃ y, s[j - 1]? = some y := ⟨_, List.getElem?_eq_getElem (by omega)⟩
      obtain ⟨z, hz⟩ : ∃ z, s[j]? = some z := ⟨_, List.getElem?_eq_getElem h⟩
      have g1 := getA (l := s ++ [x]) (i := j) (x := z) (by rw [List.getElem?_append_left h, hz])
      have g2 := getA (l := s ++ [x]) (i := j - 1) (x := y) (by rw [List.getElem?_append_left (by omega), hy])
      have hcc := cmAF_eq z y
      have hneg : ¬ cmA z y < 0 := ho.asc (j - 1) y z hy (by rw [show j - 1 + 1 = j by omega]; exact hz)
      simp (disch := (first | omega | assumption)) only [hja', e1, idx_nat, List.length_map, g1, g2, hcc, hneg, go_sem, evP_D, evD_guard, evD_cons, evD_zero, evD_nil]
      refine ⟨⟨j + 1, s ++ [x], ⟨by omega, by omega, fun _ => rfl, fun h => by omega⟩, rfl⟩, ?_⟩
      show s.length + 1 - ((j : Int) + 1).toNat < s.length + 1 - (j : Int).toNat
      omega
     ·have his : i = s.length := by omega
      subst his
      rw [if_neg h]
      have hfin : (∀ (q : Nat) y, s[q]? = some y → q < j → ¬ cmA x y < 0) → midA s x j = insA s x := fun hq => (insA_at hj (hj2 rfl) hq).symm
      by_cases hja : 0 < j
      ·obtain ⟨j, rfl⟩ : ∃ j', j = j' + 1 := ⟨j - 1, by omega⟩
       have hja' : (0 : Int) < ((j + 1 : Nat) : Int) := by omega
       have e1 : ((j + 1 : Nat) : Int) - 1 = (j : Int) := by omega
       have hlen := midA_len s x (j + 1) hj
       obtain ⟨y, hy⟩ : ∃ y, s[j]? = some y := ⟨_, List.getElem?_eq_getElem (by omega)⟩
       have g1 := getA (midA_at (s := s) (x := x) hj)
       have g2 := getA (midA_lo (x := x) hj (Nat.lt_succ_self j) hy)
       have hcc := cmAF_eq x y
       by_cases hneg : cmA x y < 0
       ·have hs := midA_swap (x := x) hy
        have g3 := getA (l := (midA s x (j + 1)).set (j + 1) y) (i := j) (x := y) (by rw [List.getElem?_set_ne (by omega)]; exact midA_lo hj (Nat.lt_succ_self j) hy)
        simp (disch := (first | omega | assumption)) only [hja', e1, idx_nat, List.length_map, g1, g2, g3, hcc, hneg, List.length_set, setA, hs, go_sem, evP_D, evD_guard, evD_cons, evD_zero, evD_nil]
        refine ⟨⟨j, ⟨by omega, fun h => by omega, fun _ q z h1 h2 => ?_⟩, by rw [if_neg h]⟩, ?_⟩
        ·by_cases e : q = j
         ·subst e; rw [hy] at h1; cases h1; exact hneg
         ·exact hj2 rfl q z h1 (by omega)
        ·simp only [Int.toNat_natCast]; omega
       ·have hF := hfin fun q z h1 h2 hq => hneg (ho.up q j z y h1 hy (by omega) hq)
        simp (disch := (first | omega | assumption)) only [hja', e1, idx_nat, List.length_map, g1, g2, hcc, hneg, go_sem, evP_D, evD_guard, evD_cons, evD_zero, evD_nil]
        refine ⟨⟨s.length + 1, midA s x (j + 1), ⟨by omega, by omega, fun h => by omega, fun _ => hF⟩, rfl⟩, ?_⟩
        show s.length + 1 - ((s.length : Int) + 1).toNat < s.length + 1 - (s.length : Int).toNat
        omega
      ·have hj0 : j = 0 := by omega
       subst hj0
       have hF := hfin fun q y h1 h2 => by omega
       have hja' : ¬ (0 : Int) < ((0 : Nat) : Int) := by omega
       simp (disch := (first | omega | assumption)) only [hja', go_sem, evP_D, evD_guard, evD_cons, evD_zero, evD_nil]
       refine ⟨⟨s.length + 1, midA s x 0, ⟨by omega, by omega, fun h => by omega, fun _ => hF⟩, rfl⟩, ?_⟩
       show s.length + 1 - ((s.length : Int) + 1).toNat < s.length + 1 - (s.length : Int).toNat
       omega
   ·have hi' : i = s.length + 1 := by omega
    have hlt' : ¬ (i : Int) < s.length + 1 := by omega
    rw [hL2 hi']
    simp (disch := (first | omega | assumption)) only [hlt', go_sem, evP_D, evD_guard, evD_cons, evD_zero, evD_nil]
 ·intro e he
  obtain ⟨x, _, rfl⟩ := List.mem_map.1 he
  rfl
noncomputable def len1 (T : TypeId) (sz : Nat) (es xs es' : List V) : TypeId → Nat → List V → List V → Option (List V) := fun T' sz' e0 x0 => open Classical in if T' = T ∧ sz' = sz ∧ e0 = es ∧ x0 = xs then some es' else none
theorem len1_eq (T : TypeId) (sz : Nat) (es xs es' : List V) : len1 T sz es xs es' T sz es xs = some es' := by unfold len1; rw [if_pos ⟨rfl, rfl, rfl, rfl⟩]
theorem len1_ok {P : Program} {J : World → Prop} {f : FuncId} {T : TypeId} {sz : Nat} {es xs es' : List V} {l : Lam} (h : LendAt P J f T sz es xs es') (hl : LamOk P J l) : LamOk P J ((f, (false, len1 T sz es xs es')) :: l) := by
 refine ⟨fun T' sz' e0 a0 e1 he => ?_, hl⟩
 unfold len1 at he
 simp only at he
 split at he
 ·rename_i hc
  obtain ⟨rfl, rfl, rfl, rfl⟩ := hc
  simp only [Option.some.injEq] at he
  subst he
  exact h
 ·cases he
theorem stableA_lend {J : World → Prop} (hJ : Stable J) (s : List Ac) (x : Ac) (ho : OrdA s x) (hl : s.length ≤ 18) :
  LendAt Tryz.prog J 170 91 2 ((s ++ [x]).map acV) [.int .i64 (s.length + 1), .fn 134 []] ((insA s x).map acV) := by
 have hI := insA_lend hJ s x ho (by omega)
 have e1 := len1_eq 91 2 ((s ++ [x]).map acV) [.int .i64 0, .int .i64 (s.length + 1), .fn 134 []] ((insA s x).map acV)
 have hp := plainA (insA s x)
 refine evLend (l := []) (nv := nv0) (fz := fz0) (dr := dr170) (dd := dd170) (lam := [(194, false, len1 91 2 ((s ++ [x]).map acV) [.int .i64 0, .int .i64 (s.length + 1), .fn 134 []] ((insA s x).map acV))]) (ms := ms0) trivial hJ (len1_ok hI trivial) ms0_ok Tryz.func170 rfl rfl (Nat.le_of_ble_eq_true rfl) (Nat.le_of_ble_eq_true rfl) drOk170 rfl ?_ ?_
 rotate_left
 dsimp only [Tryz.f170, dr170, dd170, Option.getD_some]
 refine ev_start ?_
 ·simp (disch := omega) only [go_sem, evP_D, evD_guard, evD_cons, evD_zero, evD_nil]
  have h20 : ¬ (20 : Int) ≤ s.length + 1 := by omega
  have h20' : ¬ (20 : Int) < s.length + 1 := by omega
  refine evQ_loop [0, 1, 2, 6, 7, 8] [1000000] (fun σ => σ = ⟨[(0, .vec 1000000), (1, .int .i64 (s.length + 1)), (2, .fn 134 []), (6, .int .i64 20), (7, .int .i64 0), (8, .int .i64 20)], [(1000000, .vec 91 2 ((s ++ [x]).map acV))]⟩) (fun _ => 0) ?_ ?_
  ·simp only [go_sem, evP_D, evD_guard, evD_cons, evD_zero, evD_nil]
  ·rintro σ rfl
   simp (disch := (first | omega | assumption)) only [h20, e1, hp, go_sem, evP_D, evD_guard, evD_cons, evD_zero, evD_nil]
   refine evQ_loop [0, 1, 2, 6, 8] [1000000] (fun σ => σ = ⟨[(0, .vec 1000000), (1, .int .i64 (s.length + 1)), (2, .fn 134 []), (6, .int .i64 20), (8, .int .i64 20)], [(1000000, .vec 91 2 ((insA s x).map acV))]⟩) (fun _ => 0) ?_ ?_
   ·simp only [go_sem, evP_D, evD_guard, evD_cons, evD_zero, evD_nil]
   ·rintro σ rfl
    simp (disch := (first | omega | assumption)) only [h20', go_sem, evP_D, evD_guard, evD_cons, evD_zero, evD_nil]
 ·intro e he
  obtain ⟨x, _, rfl⟩ := List.mem_map.1 he
  rfl
theorem sortA_lend {J : World → Prop} (hJ : Stable J) (s : List Ac) (x : Ac) (ho : OrdA s x) (hl : s.length ≤ 18) :
  LendAt Tryz.prog J 133 91 2 ((s ++ [x]).map acV) [.fn 134 []] ((insA s x).map acV) := by
 have hI := stableA_lend hJ s x ho hl
 have e1 := len1_eq 91 2 ((s ++ [x]).map acV) [.int .i64 (s.length + 1), .fn 134 []] ((insA s x).map acV)
 have hp := plainA (insA s x)
 have hln : ((s ++ [x]).length : Int) = s.length + 1 := by simp
 refine evLend (l := []) (nv := nv0) (fz := fz0) (dr := dr133) (dd := dd133) (lam := [(170, false, len1 91 2 ((s ++ [x]).map acV) [.int .i64 (s.length + 1), .fn 134 []] ((insA s x).map acV))]) (ms := ms0) trivial hJ (len1_ok hI trivial) ms0_ok Tryz.func133 rfl rfl (Nat.le_of_ble_eq_true rfl) (Nat.le_of_ble_eq_true rfl) drOk133 rfl ?_ ?_
 rotate_left
 dsimp only [Tryz.f133, dr133, dd133, Option.getD_some]
 refine ev_start ?_
 ·simp (disch := (first | omega | assumption)) only [hln, e1, hp, go_sem, evP_D, evD_guard, evD_cons, evD_zero, evD_nil]
 ·intro e he
  obtain ⟨x, _, rfl⟩ := List.mem_map.1 he
  rfl
theorem dkcloneA_nil {J : World → Prop} (hJ : Stable J) : SoundAt Tryz.prog J 100 [.zero] .zero [] := by
 refine evFn (l := []) (nv := nv0) (fz := fz0) (dr := dr100) (dd := dd100) (lam := []) (ms := ms0) trivial hJ trivial ms0_ok Tryz.func100 rfl rfl (Nat.le_of_ble_eq_true rfl) (Nat.le_of_ble_eq_true rfl) drOk100 ?_
 dsimp only [Tryz.f100, dr100, dd100, Option.getD_some]
 refine ev_start ?_
 simp (disch := omega) only [go_sem, evP_D, evD_guard, evD_cons, evD_zero, evD_nil]
theorem dkcloneA_sound {J : World → Prop} (hJ : Stable J) (p : Ac) (l : List Ac) (hl : (p :: l).length ≤ 1000) : SoundAt Tryz.prog J 100 [.row 2 ((p :: l).map acV)] (.vec 0) [.vec 91 2 ((p :: l).map acV)] := by
 refine evFn (l := []) (nv := nv0) (fz := fz0) (dr := dr100) (dd := dd100) (lam := []) (ms := ms0) trivial hJ trivial ms0_ok Tryz.func100 rfl rfl (Nat.le_of_ble_eq_true rfl) (Nat.le_of_ble_eq_true rfl) drOk100 ?_
 dsimp only [Tryz.f100, dr100, dd100, Option.getD_some]
 refine ev_start ?_
 have h1 : 0 < l.length + 1 := by omega
 rw [List.length_cons] at hl
 simp (disch := omega) only [h1, List.length_map, List.length_cons, go_sem, evP_D, evD_guard, evD_cons, evD_zero, evD_nil]
theorem cloneP_nil {J : World → Prop} (hJ : Stable J) : SoundAt Tryz.prog J 89 [.zero] .zero [] := by
 refine evFn (l := []) (nv := nv0) (fz := fz0) (dr := dr89) (dd := dd89) (lam := []) (ms := ms0) trivial hJ trivial ms0_ok Tryz.func89 rfl rfl (Nat.le_of_ble_eq_true rfl) (Nat.le_of_ble_eq_true rfl) drOk89 ?_
 dsimp only [Tryz.f89, dr89, dd89, Option.getD_some]
 refine ev_start ?_
 simp (disch := omega) only [go_sem, evP_D, evD_guard, evD_cons, evD_zero, evD_nil]
end Go.Proofs.YtcmpjagpggjfiaaGreatDoor
end
section
namespace Go.Lg
open Go Go.Acc
theorem splitc_no {a : List UInt8} {c : UInt8} (h : c ∉ a) : Lib.split a [c] = [a] := by
 unfold Lib.split
 rw [Lib.count_miss (index_no h)]
 rfl
theorem splitc_at {a b : List UInt8} {c : UInt8} (h : c ∉ a) : Lib.split (a ++ c :: b) [c] = a :: Lib.split b [c] := by
 unfold Lib.split
 have hi := index_at (b := b) h
 have hd : (a ++ c :: b).drop (a.length + [c].length) = b := by
  rw [List.drop_append]
  simp
 rw [Lib.count_hit (by simp) hi, hd, Nat.add_comm, Lib.splitK, hi]
 rw [if_neg (by rw [beq_iff_eq]; omega)]
 have e : ((a.length : Nat) : Int).toNat = a.length := by omega
 rw [e, hd]
 congr 1
 simp
def joinW : List ByteArray → List UInt8
 | [] => []
 | w :: ws => w.data.toList ++ ws.flatMap fun q => 32 :: q.data.toList
def scriptL (l : List (List ByteArray)) : List UInt8 := l.flatMap fun ws => joinW ws ++ [10]
theorem words_cut {ws : List ByteArray} (h0 : ws ≠ []) (h : ∀ w ∈ ws, (32 : UInt8) ∉ w.data.toList) : cutsB 32 ⟨(joinW ws).toArray⟩ = ws := by
 refine map_data_inj ?_
 rw [cutsB_data]
 cases ws with
 | nil => exact absurd rfl h0
 | cons w ws =>
  have := split_pieces (ws.map fun q => q.data.toList) (a := w.data.toList) (h w (by simp)) (fun q hq => by
   obtain ⟨x, hx, rfl⟩ := List.mem_map.1 hq
   exact h x (List.mem_cons_of_mem _ hx))
  rw [List.flatMap_map] at this
  exact this
theorem joinW_no {c : UInt8} (hc : c ≠ 32) {ws : List ByteArray} (h : ∀ w ∈ ws, c ∉ w.data.toList) : c ∉ joinW ws := by
 cases ws with
 | nil => simp [joinW]
 | cons w ws =>
  unfold joinW
  rw [List.mem_append, List.mem_flatMap]
  rintro (h1 | ⟨q, hq, h1⟩)
  ·exact h w (by simp) h1
  ·rcases List.mem_cons.1 h1 with h1 | h1
   ·exact hc h1
   ·exact h q (List.mem_cons_of_mem _ hq) h1
theorem lines_split : ∀ (l : List (List ByteArray)), (∀ ws ∈ l, ∀ w ∈ ws, (10 : UInt8) ∉ w.data.toList) → Lib.split (scriptL l) [10] = l.map joinW ++ [[]]
 | [], _ => splitc_no (by simp [scriptL])
 | ws :: l, h => by
  have e : scriptL (ws :: l) = joinW ws ++ 10 :: scriptL l := by simp [scriptL]
  rw [e, splitc_at (joinW_no (by decide) (h ws (by simp))), lines_split l fun x hx => h x (List.mem_cons_of_mem _ hx)]
  rfl
theorem lines_cut {s : ByteArray} {l : List (List ByteArray)} (hs : s.data.toList = scriptL l) (h : ∀ ws ∈ l, ∀ w ∈ ws, (10 : UInt8) ∉ w.data.toList) : cutsB 10 s = l.map (fun ws => ⟨(joinW ws).toArray⟩) ++ [⟨#[]⟩] := by
 refine map_data_inj ?_
 rw [cutsB_data, hs, lines_split l h]
 simp [Function.comp_def]
theorem itoa_neg {n : Int} (h : 0 < n) : Lib.itoa (-n) = 45 :: Lib.itoa n := by
 unfold Lib.itoa
 rw [if_pos (by omega), if_neg (by omega), Int.natAbs_neg]
 congr 2
 omega
end Go.Lg
end
