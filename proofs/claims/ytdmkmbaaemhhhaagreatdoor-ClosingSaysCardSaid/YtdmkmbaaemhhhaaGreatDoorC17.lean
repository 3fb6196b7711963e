/-
  Books, run by the machine: what an account has: the program's Of, the reference's Sums, Balance.
-/
import Derived.Test.YtdmkmbaaemhhhaaGreatDoorC16
set_option linter.unusedVariables false
set_option linter.unusedSimpArgs false
namespace Go.Acc
open Go
/-! ### sums by codes, in a map -/
def lookM (c : ByteArray) : List (ByteArray × Int) → Option Int
 | [] => none
 | p :: M => if c = p.1 then some p.2 else lookM c M
def putM (c : ByteArray) (v : Int) : List (ByteArray × Int) → List (ByteArray × Int)
 | [] => [(c, v)]
 | p :: M => if c = p.1 then (p.1, v) :: M else p :: putM c v M
def addM (M : List (ByteArray × Int)) (p : ByteArray × Int) : List (ByteArray × Int) := putM p.1 ((lookM p.1 M).getD 0 + p.2) M
def addE (f t : Int) (M : List (ByteArray × Int)) (x : En) : List (ByteArray × Int) := if f ≤ x.2.1 ∧ x.2.1 ≤ t then x.2.2.foldl addM M else M
def sumsM (f t : Int) (E : List En) : List (ByteArray × Int) := E.foldl (addE f t) []
theorem lookM_put (c c' : ByteArray) (v : Int) : ∀ M, lookM c (putM c' v M) = if c = c' then some v else lookM c M
 | [] => by simp only [putM, lookM]
 | p :: M => by
  unfold putM
  by_cases h : c' = p.1
  ·rw [if_pos h]
   simp only [lookM, h]
   split <;> rfl
  ·rw [if_neg h]
   simp only [lookM]
   rw [lookM_put c c' v M]
   by_cases h1 : c = p.1
   ·rw [if_pos h1, if_pos h1, if_neg (fun e => h (by rw [← e]; exact h1))]
   ·rw [if_neg h1, if_neg h1]
theorem lookM_add (c : ByteArray) (M : List (ByteArray × Int)) (p : ByteArray × Int) : (lookM c (addM M p)).getD 0 = (lookM c M).getD 0 + lnW c p := by
 unfold addM
 rw [lookM_put]
 unfold lnW isC
 by_cases h : c = p.1
 ·rw [if_pos h, if_pos (decide_eq_true h.symm), h]; rfl
 ·rw [if_neg h, if_neg (by simpa using fun e : p.1 = c => h e.symm)]; simp
theorem lookM_lines (c : ByteArray) : ∀ (l M : List (ByteArray × Int)), (lookM c (l.foldl addM M)).getD 0 = (lookM c M).getD 0 + ofL c l
 | [], M => by simp [ofL]
 | p :: l, M => by
  rw [List.foldl_cons, lookM_lines c l, lookM_add]
  simp only [ofL, List.map_cons, List.sum_cons]
  omega
theorem lookM_addE (c : ByteArray) (f t : Int) (M : List (ByteArray × Int)) (x : En) : (lookM c (addE f t M x)).getD 0 = (lookM c M).getD 0 + ofX c f t x := by
 unfold addE ofX
 split
 ·exact lookM_lines c _ _
 ·simp
theorem lookM_fold (c : ByteArray) (f t : Int) : ∀ (E : List En) (M : List (ByteArray × Int)), (lookM c (E.foldl (addE f t) M)).getD 0 = (lookM c M).getD 0 + ofB c f t E
 | [], M => by simp [ofB]
 | x :: E, M => by
  rw [List.foldl_cons, lookM_fold c f t E, lookM_addE]
  simp only [ofB, List.map_cons, List.sum_cons]
  omega
theorem lookM_sums (c : ByteArray) (f t : Int) (E : List En) : (lookM c (sumsM f t E)).getD 0 = ofB c f t E := by
 unfold sumsM
 rw [lookM_fold]
 simp [lookM]
theorem sumsM_succ {f t : Int} {E : List En} {k : Nat} {x : En} (h : E[k]? = some x) : sumsM f t (E.take (k + 1)) = addE f t (sumsM f t (E.take k)) x := by
 have hlt : k < E.length := (List.getElem?_eq_some_iff.1 h).1
 have he : E[k] = x := (List.getElem?_eq_some_iff.1 h).2
 unfold sumsM
 rw [List.take_succ_eq_append_getElem hlt, he, List.foldl_append]
 rfl
theorem linesM_succ {l M : List (ByteArray × Int)} {j : Nat} {p : ByteArray × Int} (h : l[j]? = some p) : (l.take (j + 1)).foldl addM M = addM ((l.take j).foldl addM M) p := by
 have hlt : j < l.length := (List.getElem?_eq_some_iff.1 h).1
 have he : l[j] = p := (List.getElem?_eq_some_iff.1 h).2
 rw [List.take_succ_eq_append_getElem hlt, he, List.foldl_append]
 rfl
end Go.Acc
namespace Go.Proofs.YtdmkmbaaemhhhaaGreatDoor
open Go Go.Ev Go.RowKit Go.Acc
set_option maxHeartbeats 4000000
theorem enX_lines {x : En} (h : enX x = 0) (c : ByteArray) (j : Nat) : -12000000000000 ≤ ofL c (x.2.2.take j) ∧ ofL c (x.2.2.take j) ≤ 12000000000000 :=
 ofL_bd c (fun p hp => (enX_ok h).2.2 p (List.mem_of_mem_take hp)) (by rw [List.length_take]; have := (enX_ok h).2.1; omega)
theorem ofB_bdk (c : ByteArray) (f t : Int) {E : List En} (h : ∀ x ∈ E, enX x = 0) (hl : E.length ≤ 60) (k : Nat) : -720000000000000 ≤ ofB c f t (E.take k) ∧ ofB c f t (E.take k) ≤ 720000000000000 :=
 ofB_bd c f t (fun x hx => h x (List.mem_of_mem_take hx)) (by rw [List.length_take]; omega)
set_option maxHeartbeats 4000000 in
theorem of_sound {J : World → Prop} (hJ : Stable J) (A : List (ByteArray × Int)) (E : List En) (s : Int) (c : ByteArray) (f t : Int) (hE : ∀ x ∈ E, enX x = 0) (hl : E.length ≤ 60) : SoundAt Tryz.prog J 49 [bkV A E s, .str c, .int .i64 f, .int .i64 t] (.int .i64 (ofB c f t E)) [] := by
 unfold bkV
 refine evFn (l := []) (nv := nv0) (fz := fz0) (dr := dr49) (dd := dd49) (lam := []) (ms := ms0) trivial hJ trivial ms0_ok Tryz.func49 rfl rfl (Nat.le_of_ble_eq_true rfl) (Nat.le_of_ble_eq_true rfl) drOk49 ?_
 dsimp only [Tryz.f49, dr49, dd49, Option.getD_some]
 refine ev_start ?_
 simp (disch := omega) only [List.length_map, go_sem, evP_D, evD_guard, evD_cons, evD_zero, evD_nil]
 refine evQ_loop [1, 2, 3, 9, 15, 16, 17] [] (fun σ => ∃ (k : Nat), k ≤ E.length ∧ σ = ⟨[(1, .str c), (2, .int .i64 f), (3, .int .i64 t), (9, .int .i64 (ofB c f t (E.take k))), (15, .row 3 (E.map enW)), (16, .int .i64 E.length), (17, .int .i64 k)], []⟩)
  (fun σ => E.length - (match Ev.look 17 σ.env with | some (.int _ n) => n.toNat | _ => 0)) ?_ ?_
 ·simp only [go_sem, evP_D, evD_guard, evD_cons, evD_zero, evD_nil]
  exact ⟨0, Nat.zero_le _, rfl⟩
 ·rintro σ ⟨k, hkl, rfl⟩
  by_cases hlt : k < E.length
  ·have hlt' : (k : Int) < E.length := by omega
   obtain ⟨⟨ky, d, l⟩, hcn⟩ : ∃ p, E[k]? = some p := ⟨_, List.getElem?_eq_getElem hlt⟩
   have hx := hE _ (List.mem_of_getElem? hcn)
   have hll : l.length ≤ 12 := (enX_ok hx).2.1
   have hg := enW_get hcn
   have hsu := ofB_succ (c := c) (f := f) (t := t) hcn
   have hb0 := ofB_bdk c f t hE hl k
   have hms : E.length - ((k : Int) + 1).toNat < E.length - (k : Int).toNat := by
    have e3 : ((k : Int) + 1).toNat = k + 1 := by omega
    rw [e3, Int.toNat_natCast]; exact Nat.sub_lt_sub_left hlt (Nat.lt_succ_self k)
   by_cases h1 : d < f
   ·have e : ofX c f t (ky, d, l) = 0 := if_neg (fun h => by have := h.1; simp only at this; omega)
    rw [e, Int.add_zero] at hsu
    simp (disch := (first | omega | assumption)) only [hlt', idx_nat, List.length_map, hg, h1, go_sem, evP_D, evD_guard, evD_cons, evD_zero, evD_nil]
    exact ⟨⟨k + 1, hlt, by rw [hsu]; rfl⟩, hms⟩
   by_cases h2 : t < d
   ·have e : ofX c f t (ky, d, l) = 0 := if_neg (fun h => by have := h.2; simp only at this; omega)
    rw [e, Int.add_zero] at hsu
    simp (disch := (first | omega | assumption)) only [hlt', idx_nat, List.length_map, hg, h1, h2, go_sem, evP_D, evD_guard, evD_cons, evD_zero, evD_nil]
    exact ⟨⟨k + 1, hlt, by rw [hsu]; rfl⟩, hms⟩
   have e : ofX c f t (ky, d, l) = ofL c l := if_pos ⟨by show f ≤ d; omega, by show d ≤ t; omega⟩
   rw [e] at hsu
   simp (disch := (first | omega | assumption)) only [hlt', idx_nat, List.length_map, hg, h1, h2, go_sem, evP_D, evD_guard, evD_cons, evD_zero, evD_nil]
   refine evQ_loop [1, 2, 3, 9, 15, 16, 17, 32, 33, 34] [] (fun σ => ∃ (j : Nat), j ≤ l.length ∧ σ = ⟨[(1, .str c), (2, .int .i64 f), (3, .int .i64 t), (9, .int .i64 (ofB c f t (E.take k) + ofL c (l.take j))), (15, .row 3 (E.map enW)), (16, .int .i64 E.length), (17, .int .i64 k), (32, .row 2 (l.map acV)), (33, .int .i64 l.length), (34, .int .i64 j)], []⟩)
    (fun σ => l.length - (match Ev.look 34 σ.env with | some (.int _ n) => n.toNat | _ => 0)) ?_ ?_
   ·simp only [go_sem, evP_D, evD_guard, evD_cons, evD_zero, evD_nil]
    exact ⟨0, Nat.zero_le _, by rw [List.take_zero]; simp [ofL]⟩
   ·rintro σ ⟨j, hjl, rfl⟩
    by_cases hjt : j < l.length
    ·have hjt' : (j : Int) < l.length := by omega
     obtain ⟨⟨c', n⟩, hcl⟩ : ∃ p, l[j]? = some p := ⟨_, List.getElem?_eq_getElem hjt⟩
     have hgl := acV_get hcl
     have hsl := ofL_succ (c := c) hcl
     have hb1 := enX_lines hx c j
     have hn := (enX_ok hx).2.2 _ (List.mem_of_getElem? hcl)
     simp only at hb1 hn
     have hmj : l.length - ((j : Int) + 1).toNat < l.length - (j : Int).toNat := by
      have e3 : ((j : Int) + 1).toNat = j + 1 := by omega
      rw [e3, Int.toNat_natCast]; exact Nat.sub_lt_sub_left hjt (Nat.lt_succ_self j)
     by_cases hc : c' = c
     ·have hct := eq_true hc
      have ew : lnW c (c', n) = n := if_pos (decide_eq_true hc)
      rw [ew] at hsl
      simp (disch := (first | omega | assumption)) only [hjt', idx_nat, List.length_map, hgl, bin_eql_str, hct, decide_true, go_sem, evP_D, evD_guard, evD_cons, evD_zero, evD_nil]
      exact ⟨⟨j + 1, hjt, by rw [hsl, Int.add_assoc]; rfl⟩, hmj⟩
     ·have ew : lnW c (c', n) = 0 := if_neg (by simpa [isC] using hc)
      rw [ew, Int.add_zero] at hsl
      simp (disch := (first | omega | assumption)) only [hjt', idx_nat, List.length_map, hgl, bin_eql_str, hc, decide_false, go_sem, evP_D, evD_guard, evD_cons, evD_zero, evD_nil]
      exact ⟨⟨j + 1, hjt, by rw [hsl]; rfl⟩, hmj⟩
    ·have hj' : j = l.length := by omega
     subst hj'
     have hjt' : ¬ ((l.length : Int) < l.length) := by omega
     simp (disch := (first | omega | assumption)) only [hjt', go_sem, evP_D, evD_guard, evD_cons, evD_zero, evD_nil]
     exact ⟨⟨k + 1, hlt, by rw [hsu, List.take_length]; rfl⟩, hms⟩
  ·have hk' : k = E.length := by omega
   subst hk'
   have hlt' : ¬ ((E.length : Int) < E.length) := by omega
   simp (disch := (first | omega | assumption)) only [hlt', List.take_length, go_sem, evP_D, evD_guard, evD_cons, evD_zero, evD_nil]
def mV (M : List (ByteArray × Int)) : List (V × V) := M.map fun p => (.str p.1, .int .i64 p.2)
theorem find_mV (c : ByteArray) : ∀ M : List (ByteArray × Int), findK .str (.str c) (mV M) = some ((lookM c M).map (V.int .i64))
 | [] => rfl
 | p :: M => by
  show (match eqK .str (.str c) (.str p.1) with | some true => _ | some false => _ | none => _) = _
  rw [eqK_strs]
  by_cases h : c = p.1
  ·simp only [decide_eq_true h, lookM, if_pos h]; rfl
  ·simp only [decide_eq_false h, lookM, if_neg h]
   exact find_mV c M
theorem upd_mV (c : ByteArray) (v : Int) : ∀ M : List (ByteArray × Int), updK .str (.str c) (.int .i64 v) (mV M) = some (mV (putM c v M))
 | [] => rfl
 | p :: M => by
  show (match eqK .str (.str c) (.str p.1) with | some true => _ | some false => _ | none => _) = _
  rw [eqK_strs]
  by_cases h : c = p.1
  ·simp only [decide_eq_true h, putM, if_pos h]; rfl
  ·simp only [decide_eq_false h, putM, if_neg h]
   show (updK .str (.str c) (.int .i64 v) (mV M)).map _ = _
   rw [upd_mV c v M]
   rfl
set_option maxHeartbeats 4000000 in
theorem sums_sound {J : World → Prop} (hJ : Stable J) (A : List (ByteArray × Int)) (E : List En) (s : Int) (f t : Int) (hE : ∀ x ∈ E, enX x = 0) (hl : E.length ≤ 60) : SoundAt Tryz.prog J 52 [bkV A E s, .int .i64 f, .int .i64 t] (.vec 0) [.map (mV (sumsM f t E))] := by
 unfold bkV
 refine evFn (l := [(69, withinF)]) (nv := nv0) (fz := fz0) (dr := dr52) (dd := dd52) (lam := []) (ms := ms0) ⟨within_snd hJ, trivial⟩ hJ trivial ms0_ok Tryz.func52 rfl rfl (Nat.le_of_ble_eq_true rfl) (Nat.le_of_ble_eq_true rfl) drOk52 ?_
 dsimp only [Tryz.f52, dr52, dd52, Option.getD_some]
 refine ev_start ?_
 simp (disch := omega) only [List.length_map, go_sem, evP_D, evD_guard, evD_cons, evD_zero, evD_nil]
 refine evQ_loop [1, 2, 7, 14, 15, 16] [96] (fun σ => ∃ (k : Nat), k ≤ E.length ∧ σ = ⟨[(1, .int .i64 f), (2, .int .i64 t), (7, .vec 96), (14, .row 3 (E.map enW)), (15, .int .i64 E.length), (16, .int .i64 k)], [(96, .map (mV (sumsM f t (E.take k))))]⟩)
  (fun σ => E.length - (match Ev.look 16 σ.env with | some (.int _ n) => n.toNat | _ => 0)) ?_ ?_
 ·simp only [go_sem, evP_D, evD_guard, evD_cons, evD_zero, evD_nil]
  exact ⟨0, Nat.zero_le _, rfl⟩
 ·rintro σ ⟨k, hkl, rfl⟩
  by_cases hlt : k < E.length
  ·have hlt' : (k : Int) < E.length := by omega
   obtain ⟨⟨ky, d, l⟩, hcn⟩ : ∃ p, E[k]? = some p := ⟨_, List.getElem?_eq_getElem hlt⟩
   have hx := hE _ (List.mem_of_getElem? hcn)
   have hll : l.length ≤ 12 := (enX_ok hx).2.1
   have hg := enW_get hcn
   have hsu := sumsM_succ (f := f) (t := t) hcn
   have hms : E.length - ((k : Int) + 1).toNat < E.length - (k : Int).toNat := by
    have e3 : ((k : Int) + 1).toNat = k + 1 := by omega
    rw [e3, Int.toNat_natCast]; exact Nat.sub_lt_sub_left hlt (Nat.lt_succ_self k)
   by_cases h1 : f ≤ d ∧ d ≤ t
   case neg =>
    have h1' := decide_eq_false h1
    have e : addE f t (sumsM f t (E.take k)) (ky, d, l) = sumsM f t (E.take k) := if_neg h1
    rw [e] at hsu
    simp (disch := (first | omega | assumption)) only [hlt', idx_nat, List.length_map, hg, withinF_eq, h1', go_sem, evP_D, evD_guard, evD_cons, evD_zero, evD_nil]
    exact ⟨⟨k + 1, hlt, by rw [hsu]; rfl⟩, hms⟩
   have h1' := decide_eq_true h1
   have e : addE f t (sumsM f t (E.take k)) (ky, d, l) = l.foldl addM (sumsM f t (E.take k)) := if_pos h1
   rw [e] at hsu
   simp (disch := (first | omega | assumption)) only [hlt', idx_nat, List.length_map, hg, withinF_eq, h1', go_sem, evP_D, evD_guard, evD_cons, evD_zero, evD_nil]
   refine evQ_loop [1, 2, 7, 14, 15, 16, 26, 27, 28] [96] (fun σ => ∃ (j : Nat), j ≤ l.length ∧ σ = ⟨[(1, .int .i64 f), (2, .int .i64 t), (7, .vec 96), (14, .row 3 (E.map enW)), (15, .int .i64 E.length), (16, .int .i64 k), (26, .row 2 (l.map acV)), (27, .int .i64 l.length), (28, .int .i64 j)], [(96, .map (mV ((l.take j).foldl addM (sumsM f t (E.take k)))))]⟩)
    (fun σ => l.length - (match Ev.look 28 σ.env with | some (.int _ n) => n.toNat | _ => 0)) ?_ ?_
   ·simp only [go_sem, evP_D, evD_guard, evD_cons, evD_zero, evD_nil]
    exact ⟨0, Nat.zero_le _, rfl⟩
   ·rintro σ ⟨j, hjl, rfl⟩
    by_cases hjt : j < l.length
    ·have hjt' : (j : Int) < l.length := by omega
     obtain ⟨⟨c, n⟩, hcl⟩ : ∃ p, l[j]? = some p := ⟨_, List.getElem?_eq_getElem hjt⟩
     have hgl := acV_get hcl
     have hsl := linesM_succ (M := sumsM f t (E.take k)) hcl
     have hn := (enX_ok hx).2.2 _ (List.mem_of_getElem? hcl)
     have hlk := lookM_lines c (l.take j) (sumsM f t (E.take k))
     rw [lookM_sums] at hlk
     have hb0 := ofB_bdk c f t hE hl k
     have hb1 := enX_lines hx c j
     simp only at hb1 hn
     have hmj : l.length - ((j : Int) + 1).toNat < l.length - (j : Int).toNat := by
      have e3 : ((j : Int) + 1).toNat = j + 1 := by omega
      rw [e3, Int.toNat_natCast]; exact Nat.sub_lt_sub_left hjt (Nat.lt_succ_self j)
     generalize (l.take j).foldl addM (sumsM f t (E.take k)) = M at *
     have hfi := find_mV c M
     cases hv : lookM c M with
     | some v =>
      rw [hv] at hfi hlk
      simp only [Option.getD_some] at hlk
      have hup := upd_mV c (v + n) M
      have e2 : addM M (c, n) = putM c (v + n) M := by unfold addM; rw [hv]; rfl
      rw [e2] at hsl
      simp (disch := (first | omega | assumption)) only [hjt', idx_nat, List.length_map, hgl, hfi, hup, Option.map_some, go_sem, evP_D, evD_guard, evD_cons, evD_zero, evD_nil]
      exact ⟨⟨j + 1, hjt, by rw [hsl]; rfl⟩, hmj⟩
     | none =>
      rw [hv] at hfi
      have hup := upd_mV c (0 + n) M
      have e2 : addM M (c, n) = putM c (0 + n) M := by unfold addM; rw [hv]; rfl
      rw [e2] at hsl
      simp (disch := (first | omega | assumption)) only [hjt', idx_nat, List.length_map, hgl, hfi, hup, Option.map_none, go_sem, evP_D, evD_guard, evD_cons, evD_zero, evD_nil]
      exact ⟨⟨j + 1, hjt, by rw [hsl]; rfl⟩, hmj⟩
    ·have hj' : j = l.length := by omega
     subst hj'
     have hjt' : ¬ ((l.length : Int) < l.length) := by omega
     simp (disch := (first | omega | assumption)) only [hjt', go_sem, evP_D, evD_guard, evD_cons, evD_zero, evD_nil]
     exact ⟨⟨k + 1, hlt, by rw [hsu, List.take_length]; rfl⟩, hms⟩
  ·have hk' : k = E.length := by omega
   subst hk'
   have hlt' : ¬ ((E.length : Int) < E.length) := by omega
   simp (disch := (first | omega | assumption)) only [hlt', List.take_length, go_sem, evP_D, evD_guard, evD_cons, evD_zero, evD_nil]
end Go.Proofs.YtdmkmbaaemhhhaaGreatDoor
