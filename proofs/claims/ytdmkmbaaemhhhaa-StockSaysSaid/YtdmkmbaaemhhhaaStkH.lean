/-
  What pieces cost that go, run by the machine: rows of lots alike; the law but for stock.Fifo.
-/
import Derived.Test.YtdmkmbaaemhhhaaStkG
namespace Go.Proofs.Ytdmkmbaaemhhhaa
open Go Go.Ev Go.RowKit Go.Stk
set_option maxHeartbeats 4000000
set_option linter.unusedSimpArgs false
set_option linter.unusedVariables false

theorem lotV_eq (a b : Int) : lotV (a, b) = .agg [.int .i64 a, .int .i64 b] := rfl
def unL : List V → Option (List Lt)
  | [] => some []
  | .agg [.int .i64 a, .int .i64 b] :: l => (unL l).map fun r => (a, b) :: r
  | _ => none
theorem unL_map : ∀ l : List Lt, unL (l.map lotV) = some l
  | [] => rfl
  | p :: l => by rw [List.map_cons, lotV, unL, unL_map l]; rfl
theorem unL_eq : ∀ {es : List V} {l : List Lt}, unL es = some l → es = l.map lotV
  | [], l, h => by simp [unL] at h; subst h; rfl
  | e :: es, l, h => by
    unfold unL at h
    split at h
    · rename_i he; cases he
    · rename_i a b es' he
      simp only [List.cons.injEq] at he
      obtain ⟨rfl, rfl⟩ := he
      simp only [Option.map_eq_some_iff] at h
      obtain ⟨r, hr, rfl⟩ := h
      rw [unL_eq hr]; rfl
    · cases h
def rowLs : V → Option (List Lt)
  | .row 2 es => unL es
  | .zero => some []
  | _ => none
theorem rowLs_row (l : List Lt) : rowLs (.row 2 (l.map lotV)) = some l := unL_map l
theorem rowLs_rel {v : V} {l : List Lt} (h : rowLs v = some l) {w : World} {ok : Nat → Prop} {val : Value} (hv : RelD w ok v val) : RelD w ok (.row 2 (l.map lotV)) val := by
  unfold rowLs at h
  split at h
  · rw [← unL_eq h]; exact hv
  · simp at h; subst h
    cases hv
    exact .nil _ _
  · cases h
def eqLF : List V → Option (V × List Blk)
  | [x, y] => match rowLs x, rowLs y with
    | some xs, some ys => some (.bool (decide (xs = ys)), [])
    | _, _ => none
  | _ => none
theorem eqLF_eq {x y : V} {xs ys : List Lt} (hx : rowLs x = some xs) (hy : rowLs y = some ys) : eqLF [x, y] = some (.bool (decide (xs = ys)), []) := by unfold eqLF; simp only [hx, hy]
theorem eqLF_rows (xs ys : List Lt) : eqLF [.row 2 (xs.map lotV), .row 2 (ys.map lotV)] = some (.bool (decide (xs = ys)), []) := eqLF_eq (rowLs_row xs) (rowLs_row ys)
theorem eqL_sound {J : World → Prop} (hJ : Stable J) (xs ys : List Lt) : SoundAt Try.prog J 11 [.row 2 (xs.map lotV), .row 2 (ys.map lotV)] (.bool (decide (xs = ys))) [] := by
  refine SoundAt.row 0 rfl (callOk Try.func11 rfl rfl) fun hlen => ?_
  simp only [maxLen, List.length_map] at hlen
  refine evFn (l := []) (nv := nv0) (fz := fz0) (dr := dr11) (dd := dd11) (lam := []) (ms := ms0) trivial hJ trivial ms0_ok Try.func11 rfl rfl (Nat.le_of_ble_eq_true rfl) (Nat.le_of_ble_eq_true rfl) drOk11 ?_
  dsimp only [Try.f11, dr11, dd11, Option.getD_some]
  refine ev_start ?_
  by_cases hl : xs.length = ys.length
  · have hl' : (xs.length : Int) = ys.length := by omega
    simp (disch := omega) only [hl', go_sem, evP_D, evD_guard, evD_cons, evD_zero, evD_nil]
    refine evQ_loop [0, 1, 12, 13] [] (fun σ => ∃ k : Nat, (k ≤ ys.length ∧ xs.take k = ys.take k) ∧ σ = ⟨[(0, .row 2 (xs.map lotV)), (1, .row 2 (ys.map lotV)), (12, .int .i64 ys.length), (13, .int .i64 k)], []⟩) (fun σ => ys.length - (match Ev.look 13 σ.env with | some (.int _ n) => n.toNat | _ => 0)) ?_ ?_
    · simp only [go_sem, evP_D, evD_guard, evD_cons, evD_zero, evD_nil]
      exact ⟨0, ⟨Nat.zero_le _, rfl⟩, rfl⟩
    · rintro σ ⟨k, ⟨hk, hd⟩, rfl⟩
      by_cases hlt : k < ys.length
      · have hlt' : (k : Int) < ys.length := by omega
        have hg : xs[k]? = some xs[k] := List.getElem?_eq_getElem (by omega)
        have hg2 : ys[k]? = some ys[k] := List.getElem?_eq_getElem hlt
        by_cases he : xs[k] = ys[k]
        · have hd2 : xs.take (k + 1) = ys.take (k + 1) := by rw [List.take_succ_eq_append_getElem (by omega), List.take_succ_eq_append_getElem hlt, hd, he]
          rw [he] at hg
          generalize ys[k] = q at hg hg2
          obtain ⟨a, b⟩ := q
          simp (disch := (first | omega | assumption)) only [hlt', idx_nat, List.getElem?_map, hg, hg2, lotV_eq, go_sem, evP_D, evD_guard, evD_cons, evD_zero, evD_nil]
          exact ⟨⟨k + 1, ⟨hlt, hd2⟩, rfl⟩, by show ys.length - ((k : Int) + 1).toNat < ys.length - (k : Int).toNat; omega⟩
        · have hne : xs ≠ ys := by intro h; subst h; exact he rfl
          generalize xs[k] = p at hg he
          generalize ys[k] = q at hg2 he
          obtain ⟨a, b⟩ := p
          obtain ⟨a', b'⟩ := q
          by_cases ha : a = a'
          · by_cases hb : b = b'
            · subst ha; subst hb; exact absurd rfl he
            · simp (disch := (first | omega | assumption)) only [hlt', idx_nat, List.getElem?_map, hg, hg2, lotV_eq, ha, hb, hne, go_sem, evP_D, evD_guard, evD_cons, evD_zero, evD_nil]
          · simp (disch := (first | omega | assumption)) only [hlt', idx_nat, List.getElem?_map, hg, hg2, lotV_eq, ha, hne, go_sem, evP_D, evD_guard, evD_cons, evD_zero, evD_nil]
      · have hk' : k = ys.length := by omega
        subst hk'
        have hlt' : ¬ ((ys.length : Int) < ys.length) := by omega
        have he : xs = ys := by rw [← hl, List.take_length, hl, List.take_length] at hd; exact hd
        simp (disch := (first | omega | assumption)) only [hlt', he, go_sem, evP_D, evD_guard, evD_cons, evD_zero, evD_nil]
  · have hl' : ¬ (xs.length : Int) = ys.length := by omega
    have hne : xs ≠ ys := by intro h; subst h; exact hl rfl
    simp (disch := omega) only [hl', hne, go_sem, evP_D, evD_guard, evD_cons, evD_zero, evD_nil]
theorem eqL_snd {J : World → Prop} (hJ : Stable J) : Snd Try.prog J 11 eqLF := by
  intro args r bs h
  unfold eqLF at h
  split at h
  · split at h
    · rename_i x y xs ys hx hy
      obtain ⟨rfl, rfl⟩ := some_pair h
      refine (eqL_sound hJ xs ys).weaken rfl fun w ok j c c' val hc hc' hv => ?_
      match j with
      | 0 => simp at hc hc'; subst hc; subst hc'; exact rowLs_rel hx hv
      | 1 => simp at hc hc'; subst hc; subst hc'; exact rowLs_rel hy hv
      | _ + 2 => simp at hc
    · cases h
  · cases h
def sfR : Option (List Int × List Lt) → V × List Blk
  | none => (.tup [.zero, .zero, .int .i64 8], [])
  | some (out, s) => (.tup [.vec 0, .vec 1, .int .i64 0], [.vec 3 1 (out.map (V.int .i64)), .vec 29 2 (s.map lotV)])
theorem sfR_none : sfR none = (.tup [.zero, .zero, .int .i64 8], []) := rfl
theorem sfR_some (out : List Int) (s : List Lt) : sfR (some (out, s)) = (.tup [.vec 0, .vec 1, .int .i64 0], [.vec 3 1 (out.map (V.int .i64)), .vec 29 2 (s.map lotV)]) := rfl
def sfV (l : List Mv) : V × List Blk := if lookE l = 0 then sfR (fifoG l [] []) else (.tup [.zero, .zero, .int .i64 (lookE l)], [])
theorem plainL (l : List Lt) : ((l.map lotV).all fun v => V.plain v && V.data v) = true := by
  rw [List.all_eq_true]
  intro v hv
  obtain ⟨n, _, rfl⟩ := List.mem_map.1 hv
  rfl
set_option maxHeartbeats 8000000 in
set_option maxRecDepth 8000 in
/-- the law, but for stock.Fifo -/
theorem stock_law {J : World → Prop} (hJ : Stable J) (l : List Mv) (hF : SoundAt Try.prog J 5 [.row 2 (l.map mvV)] (sfV l).1 (sfV l).2) : SoundAt Try.prog J 3 [.row 2 (l.map mvV)] (.bool true) [] := by
  refine SoundAt.row 0 rfl (callOk Try.func3 rfl rfl) fun hlen => ?_
  simp only [maxLen, List.length_map] at hlen
  have hM := smean_sound hJ l
  have hV := rmoves_sound hJ l
  by_cases he : lookE l = 0
  case neg =>
    have e1 : sfV l = (.tup [.zero, .zero, .int .i64 (lookE l)], []) := if_neg he
    have e2 : smV l = (.tup [.zero, .agg [.int .i64 0, .int .i64 0], .int .i64 (lookE l)], []) := if_neg he
    have e3 : movE l = lookE l := if_pos he
    rw [e1] at hF
    rw [e2] at hM
    rw [e3] at hV
    generalize lookE l = E at *
    refine evFn (l := [(5, at1 _ (_, [])), (6, at1 _ (_, [])), (7, at1 _ (_, []))]) (nv := nv0) (fz := fz0) (dr := dr3) (dd := dd3) (lam := []) (ms := ms0) ⟨at1_snd hF, at1_snd hM, at1_snd hV, trivial⟩ hJ trivial ms0_ok Try.func3 rfl rfl (Nat.le_of_ble_eq_true rfl) (Nat.le_of_ble_eq_true rfl) drOk3 ?_
    dsimp only [Try.f3, dr3, dd3, Option.getD_some]
    refine ev_start ?_
    simp (disch := omega) only [at1_eq, he, go_sem, evP_D, evD_guard, evD_cons, evD_zero, evD_nil]
  have e1 : sfV l = sfR (fifoG l [] []) := if_pos he
  have e2 : smV l = smR (meanG l (0, 0) []) := if_pos he
  obtain ⟨h40, hm⟩ := look_0 he
  have hne : ∀ m ∈ l, m.1 ≠ 0 := fun m h => (mvE_ok (mvsE_ok hm m h)).1
  have h3 : ¬ lookE l ≠ 0 := by simp [he]
  cases hs : sumE 0 l with
  | false =>
    have e3 : movE l = 8 := by unfold movE; rw [if_neg h3, hs]; rfl
    rw [e1, fifo_short (S := []) (out := []) hne hs (fun p hp => by simp at hp), sfR_none] at hF
    rw [e2, mean_short (s := (0, 0)) (out := []) (mvsE_ok hm) hs (Int.le_refl _), smR_none] at hM
    rw [e3] at hV
    refine evFn (l := [(5, at1 _ (_, [])), (6, at1 _ (_, [])), (7, at1 _ (_, []))]) (nv := nv0) (fz := fz0) (dr := dr3) (dd := dd3) (lam := []) (ms := ms0) ⟨at1_snd hF, at1_snd hM, at1_snd hV, trivial⟩ hJ trivial ms0_ok Try.func3 rfl rfl (Nat.le_of_ble_eq_true rfl) (Nat.le_of_ble_eq_true rfl) drOk3 ?_
    dsimp only [Try.f3, dr3, dd3, Option.getD_some]
    refine ev_start ?_
    simp (disch := omega) only [at1_eq, go_sem, evP_D, evD_guard, evD_cons, evD_zero, evD_nil]
  | true =>
    have e3 : movE l = 0 := by unfold movE; rw [if_neg h3, hs]; rfl
    have hP := rfifo_sound hJ l he
    have hQ := rmean_sound hJ l he hs
    rw [e1, fifo_law hne hs, sfR_some] at hF
    rw [e2, mean_same (s := (0, 0)) (out := []) (mvsE_ok hm) hs (Int.le_refl _) (Int.le_refl _)] at hM
    rw [e3] at hV
    generalize (rfifoG l [] 0 0 []).1 = o1 at *
    generalize lotsG (rfifoG l [] 0 0 []).2 = o2 at *
    generalize rmeanG l (0, 0) [] = R at *
    obtain ⟨o3, a, c⟩ := R
    rw [smR_some] at hM
    simp only at hQ
    have q1 := eqIF_rows o1 o1
    have q2 := eqLF_rows o2 o2
    have q3 := eqIF_rows o3 o3
    rw [decide_eq_true rfl] at q1 q2 q3
    refine evFn (l := [(5, at1 _ (_, _)), (6, at1 _ (_, _)), (7, at1 _ (_, [])), (8, at1 _ (_, _)), (9, at1 _ (_, _)), (10, eqIF), (11, eqLF)]) (nv := nv0) (fz := fz0) (dr := dr3) (dd := dd3) (lam := []) (ms := ms0) ⟨at1_snd hF, at1_snd hM, at1_snd hV, at1_snd hP, at1_snd hQ, eqI_snd hJ, eqL_snd hJ, trivial⟩ hJ trivial ms0_ok Try.func3 rfl rfl (Nat.le_of_ble_eq_true rfl) (Nat.le_of_ble_eq_true rfl) drOk3 ?_
    dsimp only [Try.f3, dr3, dd3, Option.getD_some]
    refine ev_start ?_
    simp (disch := omega) only [at1_eq, plainI, plainL, q1, q2, q3, go_sem, evP_D, evD_guard, evD_cons, evD_zero, evD_nil]
end Go.Proofs.Ytdmkmbaaemhhhaa
