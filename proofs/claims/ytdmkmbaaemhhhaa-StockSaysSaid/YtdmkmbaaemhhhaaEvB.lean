/-
  The machine's contracts of functions over rows of ints: roundings, equality, search by a function, parts of a sum.
-/
import Derived.Test.YtdmkmbaaemhhhaaEvA
import Derived.Test.YtdmkmbaaemhhhaaRounded
namespace Go.Proofs.Ytdmkmbaaemhhhaa
open Go Go.Ev Go.RowKit
set_option maxHeartbeats 4000000
set_option linter.unusedSimpArgs false
set_option linter.unusedVariables false

def unI : List V → Option (List Int)
  | [] => some []
  | .int .i64 n :: l => (unI l).map fun r => n :: r
  | _ => none
theorem unI_map : ∀ l : List Int, unI (l.map (V.int .i64)) = some l
  | [] => rfl
  | p :: l => by rw [List.map_cons, unI, unI_map l]; rfl
theorem unI_eq : ∀ {es : List V} {l : List Int}, unI es = some l → es = l.map (V.int .i64)
  | [], l, h => by simp [unI] at h; subst h; rfl
  | e :: es, l, h => by
    unfold unI at h
    split at h
    · rename_i he; cases he
    · rename_i n es' he
      simp only [List.cons.injEq] at he
      obtain ⟨rfl, rfl⟩ := he
      simp only [Option.map_eq_some_iff] at h
      obtain ⟨r, hr, rfl⟩ := h
      rw [unI_eq hr]; rfl
    · cases h
/-- a row of ints, nil too -/
def rowIs : V → Option (List Int)
  | .row 1 es => unI es
  | .zero => some []
  | _ => none
theorem rowIs_row (l : List Int) : rowIs (.row 1 (l.map (V.int .i64))) = some l := unI_map l
theorem rowIs_zero : rowIs .zero = some [] := rfl
theorem rowIs_rel {v : V} {l : List Int} (h : rowIs v = some l) {w : World} {ok : Nat → Prop} {val : Value} (hv : RelD w ok v val) : RelD w ok (.row 1 (l.map (V.int .i64))) val := by
  unfold rowIs at h
  split at h
  · rw [← unI_eq h]; exact hv
  · simp at h; subst h
    cases hv
    exact .nil _ _
  · cases h
def rndF : List V → Option (V × List Blk)
  | [.int .i64 n, .int .i64 d, .int .i64 way] => if -4000000000000000000 ≤ n ∧ n ≤ 4000000000000000000 ∧ 1 ≤ d ∧ d ≤ 4000000000000000000 ∧ 0 ≤ way ∧ way ≤ 3 then some (.int .i64 (Rnd.rnd n d way), []) else none
  | _ => none
theorem rndF_eq {n d way : Int} (h : -4000000000000000000 ≤ n ∧ n ≤ 4000000000000000000 ∧ 1 ≤ d ∧ d ≤ 4000000000000000000 ∧ 0 ≤ way ∧ way ≤ 3) : rndF [.int .i64 n, .int .i64 d, .int .i64 way] = some (.int .i64 (Rnd.rnd n d way), []) := by
  unfold rndF; simp only [h, and_self, if_true]
theorem rounded_snd {J : World → Prop} : Snd Try.prog J 18 rndF := by
  intro args r bs h
  unfold rndF at h
  split at h
  · rename_i n d way
    split at h
    · rename_i hc
      obtain ⟨rfl, rfl⟩ := some_pair h
      refine sound_plain (callOk Try.func18 rfl rfl) rfl rfl fun w _ => (rounded_any n d way w hc.1 hc.2.1 hc.2.2.1 hc.2.2.2.1 hc.2.2.2.2.1 hc.2.2.2.2.2).mono ?_
      rintro e w' ⟨he, k, rfl⟩
      exact ⟨he, below_drewN (.refl _ _) k⟩
    · cases h
  · cases h
def eqIF : List V → Option (V × List Blk)
  | [x, y] => match rowIs x, rowIs y with
    | some xs, some ys => some (.bool (decide (xs = ys)), [])
    | _, _ => none
  | _ => none
theorem eqIF_eq {x y : V} {xs ys : List Int} (hx : rowIs x = some xs) (hy : rowIs y = some ys) : eqIF [x, y] = some (.bool (decide (xs = ys)), []) := by unfold eqIF; simp only [hx, hy]
theorem eqIF_rows (xs ys : List Int) : eqIF [.row 1 (xs.map (V.int .i64)), .row 1 (ys.map (V.int .i64))] = some (.bool (decide (xs = ys)), []) := eqIF_eq (rowIs_row xs) (rowIs_row ys)
theorem eqI_sound {J : World → Prop} (hJ : Stable J) (xs ys : List Int) : SoundAt Try.prog J 10 [.row 1 (xs.map (V.int .i64)), .row 1 (ys.map (V.int .i64))] (.bool (decide (xs = ys))) [] := by
  refine SoundAt.row 0 rfl (callOk Try.func10 rfl rfl) fun hlen => ?_
  simp only [maxLen, List.length_map] at hlen
  refine evFn (l := []) (nv := nv0) (fz := fz0) (dr := dr10) (dd := dd10) (lam := []) (ms := ms0) trivial hJ trivial ms0_ok Try.func10 rfl rfl (Nat.le_of_ble_eq_true rfl) (Nat.le_of_ble_eq_true rfl) drOk10 ?_
  dsimp only [Try.f10, dr10, dd10, Option.getD_some]
  refine ev_start ?_
  by_cases hl : xs.length = ys.length
  · have hl' : (xs.length : Int) = ys.length := by omega
    simp (disch := omega) only [hl', go_sem, evP_D, evD_guard, evD_cons, evD_zero, evD_nil]
    refine evQ_loop [0, 1, 12, 13] [] (fun σ => ∃ k : Nat, (k ≤ ys.length ∧ xs.take k = ys.take k) ∧ σ = ⟨[(0, .row 1 (xs.map (V.int .i64))), (1, .row 1 (ys.map (V.int .i64))), (12, .int .i64 ys.length), (13, .int .i64 k)], []⟩) (fun σ => ys.length - (match Ev.look 13 σ.env with | some (.int _ n) => n.toNat | _ => 0)) ?_ ?_
    · simp only [go_sem, evP_D, evD_guard, evD_cons, evD_zero, evD_nil]
      exact ⟨0, ⟨Nat.zero_le _, rfl⟩, rfl⟩
    · rintro σ ⟨k, ⟨hk, hd⟩, rfl⟩
      by_cases hlt : k < ys.length
      · have hlt' : (k : Int) < ys.length := by omega
        have hg : xs[k]? = some xs[k] := List.getElem?_eq_getElem (by omega)
        have hg2 : ys[k]? = some ys[k] := List.getElem?_eq_getElem hlt
        by_cases he : xs[k] = ys[k]
        · simp (disch := (first | omega | assumption)) only [hlt', idx_nat, List.getElem?_map, hg, hg2, he, go_sem, evP_D, evD_guard, evD_cons, evD_zero, evD_nil]
          exact ⟨⟨k + 1, ⟨hlt, by rw [List.take_succ_eq_append_getElem (by omega), List.take_succ_eq_append_getElem hlt, hd, he]⟩, rfl⟩, by show ys.length - ((k : Int) + 1).toNat < ys.length - (k : Int).toNat; omega⟩
        · have hne : xs ≠ ys := by intro h; subst h; exact he rfl
          simp (disch := (first | omega | assumption)) only [hlt', idx_nat, List.getElem?_map, hg, hg2, he, hne, go_sem, evP_D, evD_guard, evD_cons, evD_zero, evD_nil]
      · have hk' : k = ys.length := by omega
        subst hk'
        have hlt' : ¬ ((ys.length : Int) < ys.length) := by omega
        have he : xs = ys := by rw [← hl, List.take_length, hl, List.take_length] at hd; exact hd
        simp (disch := (first | omega | assumption)) only [hlt', he, go_sem, evP_D, evD_guard, evD_cons, evD_zero, evD_nil]
  · have hl' : ¬ (xs.length : Int) = ys.length := by omega
    have hne : xs ≠ ys := by intro h; subst h; exact hl rfl
    simp (disch := omega) only [hl', hne, go_sem, evP_D, evD_guard, evD_cons, evD_zero, evD_nil]
theorem eqI_snd {J : World → Prop} (hJ : Stable J) : Snd Try.prog J 10 eqIF := by
  intro args r bs h
  unfold eqIF at h
  split at h
  · split at h
    · rename_i x y xs ys hx hy
      obtain ⟨rfl, rfl⟩ := some_pair h
      refine (eqI_sound hJ xs ys).weaken rfl fun w ok j c c' val hc hc' hv => ?_
      match j with
      | 0 => simp at hc hc'; subst hc; subst hc'; exact rowIs_rel hx hv
      | 1 => simp at hc hc'; subst hc; subst hc'; exact rowIs_rel hy hv
      | _ + 2 => simp at hc
    · cases h
  · cases h
def idxOf (p : Int → Bool) (l : List Int) : Int := if l.any p = true then ((l.findIdx p : Nat) : Int) else -1
theorem indexI_sound {J : World → Prop} (hJ : Stable J) (g : FuncId) (cs : List V) (G : List V → Option (V × List Blk)) (hG : Snd Try.prog J g G) (hd : V.dataL cs = true) (p : Int → Bool) (l : List Int) (hp : ∀ n ∈ l, G (.int .i64 n :: cs) = some (.bool (p n), [])) :
    SoundAt Try.prog J 27 [.row 1 (l.map (V.int .i64)), .fn g cs] (.int .i64 (idxOf p l)) [] := by
  refine SoundAt.row 0 rfl (callOk Try.func27 rfl rfl) fun hlen => ?_
  simp only [maxLen, List.length_map] at hlen
  refine evFn (l := [(g, G)]) (nv := nv0) (fz := fz0) (dr := dr27) (dd := dd27) (lam := []) (ms := ms0) ⟨hG, trivial⟩ hJ trivial ms0_ok Try.func27 rfl rfl (Nat.le_of_ble_eq_true rfl) (Nat.le_of_ble_eq_true rfl) drOk27 ?_
  dsimp only [Try.f27, dr27, dd27, Option.getD_some]
  refine ev_start ?_
  simp (disch := omega) only [go_sem, evP_D, evD_guard, evD_cons, evD_zero, evD_nil]
  refine evQ_loop [0, 1, 7, 8] [] (fun σ => ∃ k : Nat, (k ≤ l.length ∧ ∀ i (h : i < l.length), i < k → p l[i] = false) ∧ σ = ⟨[(0, .row 1 (l.map (V.int .i64))), (1, .fn g cs), (7, .int .i64 l.length), (8, .int .i64 k)], []⟩) (fun σ => l.length - (match Ev.look 8 σ.env with | some (.int _ n) => n.toNat | _ => 0)) ?_ ?_
  · simp only [go_sem, evP_D, evD_guard, evD_cons, evD_zero, evD_nil]
    exact ⟨refsInL_data hd, 0, ⟨Nat.zero_le _, fun _ _ h => by omega⟩, rfl⟩
  · rintro σ ⟨k, ⟨hk, hall⟩, rfl⟩
    by_cases hlt : k < l.length
    · have hlt' : (k : Int) < l.length := by omega
      have hg : l[k]? = some l[k] := List.getElem?_eq_getElem hlt
      have hpk := hp l[k] (List.getElem_mem hlt)
      cases hb : p l[k] with
      | true =>
        rw [hb] at hpk
        have hany : l.any p = true := List.any_eq_true.2 ⟨l[k], List.getElem_mem hlt, hb⟩
        have hidx : l.findIdx p = k := (List.findIdx_eq hlt).2 ⟨hb, fun j hj => hall j (by omega) hj⟩
        simp (disch := (first | omega | assumption)) only [hlt', idx_nat, List.getElem?_map, hg, hpk, hd, V.dataL, V.data, idxOf, hany, hidx, go_sem, evP_D, evD_guard, evD_cons, evD_zero, evD_nil]
      | false =>
        rw [hb] at hpk
        simp (disch := (first | omega | assumption)) only [hlt', idx_nat, List.getElem?_map, hg, hpk, hd, refsInL_data hd, scrubL_data hd, V.dataL, V.data, go_sem, evP_D, evD_guard, evD_cons, evD_zero, evD_nil]
        exact ⟨⟨k + 1, ⟨hlt, fun i hi hik => by
          by_cases e : i = k
          · subst e; exact hb
          · exact hall i hi (by omega)⟩, rfl⟩, by show l.length - ((k : Int) + 1).toNat < l.length - (k : Int).toNat; omega⟩
    · have hk' : k = l.length := by omega
      subst hk'
      have hlt' : ¬ ((l.length : Int) < l.length) := by omega
      have hany : l.any p = false := by
        rw [List.any_eq_false]
        intro x hx
        obtain ⟨i, hi, rfl⟩ := List.mem_iff_getElem.1 hx
        simp [hall i hi hi]
      simp (disch := (first | omega | assumption)) only [hlt', idxOf, hany, go_sem, evP_D, evD_guard, evD_cons, evD_zero, evD_nil]
theorem containsI_sound {J : World → Prop} (hJ : Stable J) (g : FuncId) (cs : List V) (G : List V → Option (V × List Blk)) (hG : Snd Try.prog J g G) (hd : V.dataL cs = true) (p : Int → Bool) (l : List Int) (hp : ∀ n ∈ l, G (.int .i64 n :: cs) = some (.bool (p n), [])) :
    SoundAt Try.prog J 22 [.row 1 (l.map (V.int .i64)), .fn g cs] (.bool (l.any p)) [] := by
  have hS : Snd Try.prog J 27 (fun args => open Classical in if args = [.row 1 (l.map (V.int .i64)), .fn g cs] then some (.int .i64 (idxOf p l), []) else none) := by
    intro args r bs h
    simp only at h
    split at h
    · rename_i ha
      obtain ⟨rfl, rfl⟩ := some_pair h
      rw [ha]
      exact indexI_sound hJ g cs G hG hd p l hp
    · cases h
  refine evFn (l := [(27, _)]) (nv := nv0) (fz := fz0) (dr := dr22) (dd := dd22) (lam := []) (ms := ms0) ⟨hS, trivial⟩ hJ trivial ms0_ok Try.func22 rfl rfl (Nat.le_of_ble_eq_true rfl) (Nat.le_of_ble_eq_true rfl) drOk22 ?_
  dsimp only [Try.f22, dr22, dd22, Option.getD_some]
  refine ev_start ?_
  cases hb : l.any p with
  | true =>
    have h1 : 0 ≤ idxOf p l := by unfold idxOf; rw [if_pos hb]; omega
    simp (disch := omega) only [h1, hd, V.dataL, V.data, go_sem, evP_D, evD_guard, evD_cons, evD_zero, evD_nil]
  | false =>
    have h1 : idxOf p l = -1 := by unfold idxOf; rw [if_neg (by simp [hb])]
    have h2 : ¬ (0 ≤ (-1 : Int)) := by omega
    simp (disch := omega) only [h1, h2, hd, V.dataL, V.data, go_sem, evP_D, evD_guard, evD_cons, evD_zero, evD_nil]
/-- the steps of a sum -/
def steps (F : Int → Int) (n : Nat) : List Int := (List.range n).map fun k : Nat => F ((k : Int) + 1) - F (k : Int)
theorem steps_succ (F : Int → Int) (k : Nat) : steps F (k + 1) = steps F k ++ [F ((k : Int) + 1) - F (k : Int)] := by
  simp [steps, List.range_succ]
theorem steps_len (F : Int → Int) (k : Nat) : (steps F k).length = k := by simp [steps]
end Go.Proofs.Ytdmkmbaaemhhhaa
