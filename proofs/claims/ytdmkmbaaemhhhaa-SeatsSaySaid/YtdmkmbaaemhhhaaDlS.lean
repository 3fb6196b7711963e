/-
  SeatsSay's law, run by the machine.
-/
import Derived.Test.YtdmkmbaaemhhhaaDlF
namespace Go.Dl
theorem quo_same {x S : Int} (_ : 0 ≤ x) (hS : 0 < S) : (x - x.tmod S).tdiv S = x.tdiv S := by
  have h := Int.mul_tdiv_add_tmod x S
  have e : x - x.tmod S = S * x.tdiv S := by omega
  rw [e, Int.mul_tdiv_cancel_left _ (by omega)]
end Go.Dl
namespace Go.Proofs.Ytdmkmbaaemhhhaa
open Go Go.Ev Go.RowKit Go.Dl
set_option maxHeartbeats 4000000
set_option linter.unusedSimpArgs false
set_option linter.unusedVariables false

set_option maxHeartbeats 8000000 in
set_option maxRecDepth 8000 in
theorem seats_law {J : World → Prop} (hJ : Stable J) (way n : Int) (l : List Int) : SoundAt Try.prog J 4 [.int .i64 way, .int .i64 n, .row 1 (l.map (V.int .i64))] (.bool true) [] := by
  refine SoundAt.row 2 rfl (callOk Try.func4 rfl rfl) fun hlen => ?_
  simp only [maxLen, List.length_map] at hlen
  have hD := deal_sound hJ way n l
  have hQ := quotas_sound hJ n l
  have hV := rvotes_sound hJ n l
  by_cases he : lkE n l = 0
  case neg =>
    have eQ : quV n l = (.tup [.zero, .int .i64 (lkE n l)], []) := by unfold quV; rw [if_neg he]
    rw [eQ] at hQ
    by_cases hw : way < 0 ∨ 2 < way
    · have eD : dlV way n l = (.tup [.zero, .int .i64 1], []) := by unfold dlV; rw [if_pos hw]
      rw [eD] at hD
      generalize lkE n l = q at *
      rcases hw with w0 | w1
      · skip
        refine evFn (l := [(12, at1 _ (_, [])), (13, at1 _ (_, [])), (14, at1 _ (_, []))]) (nv := nv0) (fz := fz0) (dr := dr4) (dd := dd4) (lam := []) (ms := ms0) ⟨at1_snd hD, at1_snd hQ, at1_snd hV, trivial⟩ hJ trivial ms0_ok Try.func4 rfl rfl (Nat.le_of_ble_eq_true rfl) (Nat.le_of_ble_eq_true rfl) drOk4 ?_
        dsimp only [Try.f4, dr4, dd4, Option.getD_some]
        refine ev_start ?_
        simp (disch := omega) only [at1_eq, w0, he, go_sem, evP_D, evD_guard, evD_cons, evD_zero, evD_nil]
      · have w0 : ¬ way < 0 := by omega
        refine evFn (l := [(12, at1 _ (_, [])), (13, at1 _ (_, [])), (14, at1 _ (_, []))]) (nv := nv0) (fz := fz0) (dr := dr4) (dd := dd4) (lam := []) (ms := ms0) ⟨at1_snd hD, at1_snd hQ, at1_snd hV, trivial⟩ hJ trivial ms0_ok Try.func4 rfl rfl (Nat.le_of_ble_eq_true rfl) (Nat.le_of_ble_eq_true rfl) drOk4 ?_
        dsimp only [Try.f4, dr4, dd4, Option.getD_some]
        refine ev_start ?_
        simp (disch := omega) only [at1_eq, w0, w1, he, go_sem, evP_D, evD_guard, evD_cons, evD_zero, evD_nil]
    · have eD : dlV way n l = (.tup [.zero, .int .i64 (lkE n l)], []) := by unfold dlV; rw [if_neg hw, if_neg he]
      rw [eD] at hD
      have w0 : ¬ way < 0 := by omega
      have w1 : ¬ 2 < way := by omega
      generalize lkE n l = q at *
      refine evFn (l := [(12, at1 _ (_, [])), (13, at1 _ (_, [])), (14, at1 _ (_, []))]) (nv := nv0) (fz := fz0) (dr := dr4) (dd := dd4) (lam := []) (ms := ms0) ⟨at1_snd hD, at1_snd hQ, at1_snd hV, trivial⟩ hJ trivial ms0_ok Try.func4 rfl rfl (Nat.le_of_ble_eq_true rfl) (Nat.le_of_ble_eq_true rfl) drOk4 ?_
      dsimp only [Try.f4, dr4, dd4, Option.getD_some]
      refine ev_start ?_
      simp (disch := omega) only [at1_eq, w0, w1, he, go_sem, evP_D, evD_guard, evD_cons, evD_zero, evD_nil]
  have eQ : quV n l = (.tup [.vec 0, .int .i64 0], [.vec 3 1 ((quoG n l).map (V.int .i64))]) := by unfold quV; rw [if_pos he]
  rw [eQ] at hQ
  obtain ⟨h1, h2, h3, h4, h5, hex⟩ := lk_0 he
  have ho := okV_all h2
  have hs := vsum_bd ho
  have hSp : 0 < vsum l l.length := by have := hs l.length; omega
  obtain ⟨N, rfl⟩ : ∃ N : Nat, n = N := ⟨n.toNat, by omega⟩
  have hq : quoG N l = (List.range l.length).map fun i => ((N : Int) * vt l i - ((N : Int) * vt l i).tmod (vsum l l.length)).tdiv (vsum l l.length) := by
    unfold quoG
    refine List.map_congr_left fun i _ => ?_
    exact (quo_same (mul_bd h3 h4 (ho i).1 (ho i).2).1 hSp).symm
  rw [he] at hV
  obtain ⟨Q, hQd⟩ : ∃ Q, Q = quoG N l := ⟨_, rfl⟩
  rw [← hQd] at hQ
  have hE := eqIF_rows Q Q
  rw [decide_eq_true rfl] at hE
  have hlast : (List.range l.length).map (fun i => ((N : Int) * vt l i - ((N : Int) * vt l i).tmod (vsum l l.length)).tdiv (vsum l l.length)) = Q := by rw [hQd, hq]
  obtain ⟨S, hS⟩ : ∃ S, S = vsum l l.length := ⟨_, rfl⟩
  rw [← hS] at hlast hSp h5
  have hSb := hs l.length
  rw [← hS] at hSb
  clear eQ hq hQd
  obtain ⟨O, hO⟩ : ∃ O, O = dealG way l N := ⟨_, rfl⟩
  have hE2 := eqIF_rows O O
  rw [decide_eq_true rfl] at hE2
  obtain ⟨F, hF, hFs⟩ : ∃ F, (0 ≤ way → way ≤ 2 → F [.int .i64 way, .int .i64 N, .row 1 (l.map (V.int .i64))] = some (.vec 0, [.vec 3 1 (O.map (V.int .i64))])) ∧ Snd Try.prog J 15 F := by
    by_cases hw : 0 ≤ way ∧ way ≤ 2
    · exact ⟨_, fun _ _ => at1_eq _ _, at1_snd (hO ▸ rdeal_sound hJ way N l he hw.1 hw.2)⟩
    · exact ⟨fun _ => none, fun a b => absurd ⟨a, b⟩ hw, fun _ _ _ h => by cases h⟩
  have hcase : ((way < 0) = True ∧ ((2 : Int) < way) = False ∧ dlV way N l = (.tup [.zero, .int .i64 1], [])) ∨ ((way < 0) = False ∧ ((2 : Int) < way) = True ∧ dlV way N l = (.tup [.zero, .int .i64 1], [])) ∨
      ((way < 0) = False ∧ ((2 : Int) < way) = False ∧ dlV way N l = (.tup [.vec 0, .int .i64 0], [.vec 3 1 (O.map (V.int .i64))])) := by
    by_cases w0 : way < 0
    · exact .inl ⟨eq_true w0, eq_false (by omega), by unfold dlV; rw [if_pos (.inl w0)]⟩
    · by_cases w1 : 2 < way
      · exact .inr (.inl ⟨eq_false w0, eq_true w1, by unfold dlV; rw [if_pos (.inr w1)]⟩)
      · exact .inr (.inr ⟨eq_false w0, eq_false w1, by unfold dlV; rw [if_neg (by omega), if_pos he, hO]; rfl⟩)
  clear hO
  have hD' : SoundAt Try.prog J 12 [.int .i64 way, .int .i64 N, .row 1 (l.map (V.int .i64))] (dlV way N l).1 (dlV way N l).2 := hD
  generalize dlV way N l = DL at *
  refine evFn (l := [(12, at1 [.int .i64 way, .int .i64 N, .row 1 (l.map (V.int .i64))] (DL.1, DL.2)), (13, at1 _ (_, _)), (14, at1 _ (_, [])), (15, F), (10, eqIF)]) (nv := (nvL [(16, (3, 1))])) (fz := fz0) (dr := dr4) (dd := dd4) (lam := []) (ms := ms0) ⟨at1_snd hD', at1_snd hQ, at1_snd hV, hFs, eqI_snd hJ, trivial⟩ hJ trivial ms0_ok Try.func4 rfl rfl (Nat.le_of_ble_eq_true rfl) (Nat.le_of_ble_eq_true rfl) drOk4 ?_
  dsimp only [Try.f4, dr4, dd4, Option.getD_some]
  refine ev_start ?_
  clear hD hD' hQ hV hFs
  rcases hcase with ⟨w0, w1, rfl⟩ | ⟨w0, w1, rfl⟩ | ⟨w0, w1, rfl⟩
  all_goals
    have v0 : way < 0 ∨ 2 < way ∨ (0 ≤ way ∧ way ≤ 2) := by omega
    simp (disch := (first | omega | (simp only [eq_iff_iff, iff_false, iff_true] at w0 w1; omega))) only [at1_eq, w0, w1, hF, hE2, plainI, List.length_map, go_sem, evP_D, evD_guard, evD_cons, evD_zero, evD_nil]
    refine evQ_loop [1, 2, 9, 10, 13, 73, 74, 75] [232] (fun σ => ∃ (k : Nat), k ≤ l.length ∧ σ = ⟨[(1, .int .i64 N), (2, .row 1 (l.map (V.int .i64))), (9, .vec 232), (10, .int .i64 0), (13, .int .i64 (vsum l k)), (73, .row 1 (l.map (V.int .i64))), (74, .int .i64 l.length), (75, .int .i64 k)], [(232, .vec 3 1 (Q.map (V.int .i64)))]⟩)
      (fun σ => l.length - (match Ev.look 75 σ.env with | some (.int _ n) => n.toNat | _ => 0)) ?_ ?_
    · simp only [go_sem, evP_D, evD_guard, evD_cons, evD_zero, evD_nil]
      exact ⟨0, Nat.zero_le _, rfl⟩
    · rintro σ ⟨k, hk, rfl⟩
      by_cases hlt : k < l.length
      · have hlt' : (k : Int) < l.length := by omega
        have hg : l[k]? = some (vt l k) := vt_some hlt
        have hsk := hs k
        have hvk := ho k
        simp (disch := (first | omega | assumption)) only [hlt', idx_nat, List.length_map, List.getElem?_map, hg, go_sem, evP_D, evD_guard, evD_cons, evD_zero, evD_nil]
        exact ⟨⟨k + 1, hlt, rfl⟩, by
          have e3 : ((k : Int) + 1).toNat = k + 1 := by omega
          rw [e3, Int.toNat_natCast]; omega⟩
      have hk' : k = l.length := by omega
      subst hk'
      have hlt' : ¬ ((l.length : Int) < l.length) := by omega
      rw [← hS]
      simp (disch := (first | omega | assumption)) only [hlt', List.length_map, go_sem, evP_D, evD_guard, evD_cons, evD_zero, evD_nil]
      refine evQ_loop [1, 9, 10, 13, 16, 83, 84, 85] [128, 232] (fun σ => ∃ (k : Nat), k ≤ l.length ∧ σ = ⟨[(1, .int .i64 N), (9, .vec 232), (10, .int .i64 0), (13, .int .i64 S), (16, .vec 128), (83, .row 1 (l.map (V.int .i64))), (84, .int .i64 l.length), (85, .int .i64 k)],
        [(232, .vec 3 1 (Q.map (V.int .i64))), (128, .vec 3 1 (((List.range k).map fun i => ((N : Int) * vt l i - ((N : Int) * vt l i).tmod S).tdiv S).map (V.int .i64)))]⟩)
        (fun σ => l.length - (match Ev.look 85 σ.env with | some (.int _ n) => n.toNat | _ => 0)) ?_ ?_
      · simp only [go_sem, evP_D, evD_guard, evD_cons, evD_zero, evD_nil]
        exact ⟨0, Nat.zero_le _, rfl⟩
      · rintro σ ⟨k, hk, rfl⟩
        by_cases hlt : k < l.length
        · have hlt' : (k : Int) < l.length := by omega
          have hg : l[k]? = some (vt l k) := vt_some hlt
          have hvk := ho k
          have hm := mul_bd h3 h4 hvk.1 hvk.2
          have hr0 : 0 ≤ ((N : Int) * vt l k).tmod S := Int.tmod_nonneg _ hm.1
          have hr1 : ((N : Int) * vt l k).tmod S ≤ (N : Int) * vt l k := by
            have q1 := Int.mul_tdiv_add_tmod ((N : Int) * vt l k) S
            have q2 := Int.mul_nonneg (Int.le_of_lt hSp) (Int.tdiv_nonneg hm.1 (Int.le_of_lt hSp))
            omega
          have hrs : (List.range (k + 1)).map (fun i => ((N : Int) * vt l i - ((N : Int) * vt l i).tmod S).tdiv S) = (List.range k).map (fun i => ((N : Int) * vt l i - ((N : Int) * vt l i).tmod S).tdiv S) ++ [((N : Int) * vt l k - ((N : Int) * vt l k).tmod S).tdiv S] := by
            rw [List.range_succ, List.map_append]; rfl
          have htd : 0 ≤ ((N : Int) * vt l k - ((N : Int) * vt l k).tmod S).tdiv S ∧ ((N : Int) * vt l k - ((N : Int) * vt l k).tmod S).tdiv S ≤ 1000000000 := by
            rw [Int.tdiv_eq_ediv_of_nonneg (by omega)]
            refine ⟨Int.ediv_nonneg (by omega) (by omega), ?_⟩
            exact Int.le_trans (Int.ediv_le_self _ (by omega)) (by omega)
          have hms : l.length - ((k : Int) + 1).toNat < l.length - (k : Int).toNat := by
            have e3 : ((k : Int) + 1).toNat = k + 1 := by omega
            rw [e3, Int.toNat_natCast]; omega
          simp (disch := (first | omega | assumption)) only [hlt', idx_nat, List.length_map, List.length_range, List.getElem?_map, hg, h5, go_sem, evP_D, evD_guard, evD_cons, evD_zero, evD_nil]
          exact ⟨⟨k + 1, hlt, by rw [hrs, List.map_append]; rfl⟩, hms⟩
        · have hk' : k = l.length := by omega
          subst hk'
          have hlt' : ¬ ((l.length : Int) < l.length) := by omega
          rw [hlast]
          simp (disch := (first | omega | assumption)) only [hlt', hE, plainI, go_sem, evP_D, evD_guard, evD_cons, evD_zero, evD_nil]
end Go.Proofs.Ytdmkmbaaemhhhaa
