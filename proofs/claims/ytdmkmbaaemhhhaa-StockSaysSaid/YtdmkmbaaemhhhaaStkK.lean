/-
  What pieces cost that go, run by the machine: stock.Fifo answers as its plain law does; StockSays' law.
-/
import Derived.Test.YtdmkmbaaemhhhaaStkJ
namespace Go.Proofs.Ytdmkmbaaemhhhaa
open Go Go.Ev Go.RowKit Go.Stk
set_option maxHeartbeats 4000000
set_option linter.unusedSimpArgs false
set_option linter.unusedVariables false

set_option maxHeartbeats 8000000 in
theorem fifo_nil {J : World → Prop} (hJ : Stable J) (l : List Mv) (he : lookE l = 0) (h0 : 0 < l.length → ¬ 0 < (mvG l 0).1) : SoundAt Try.prog J 5 [.row 2 (l.map mvV)] (sfR (fifoG l [] [])).1 (sfR (fifoG l [] [])).2 := by
  refine SoundAt.row 0 rfl (callOk Try.func5 rfl rfl) fun hlen => ?_
  simp only [maxLen, List.length_map] at hlen
  have hL := slook_sound hJ l
  rw [he] at hL
  obtain ⟨h40, hm⟩ := look_0 he
  obtain ⟨F, hF, sF⟩ := famN (P := Try.prog) (J := J) (f := 17) (fun _ : { n : Int // 0 < n } => [Blk.box .zero]) (fun n => [.ptr 1000000 0, .int .i64 n.1]) (fun _ => (.tup [.int .i64 0, .bool false], [.box .zero])) (fun _ _ _ _ => rfl) (fun n => take_nil hJ n.1 n.2)
  refine evFn (l := [(16, at1 _ (_, []))]) (nv := (nvL [(7, (3, 1))])) (fz := fz0) (dr := dr5) (dd := dd5) (lam := []) (ms := ⟨[(17, F)], lnL [(38, [48])], []⟩) ⟨at1_snd hL, trivial⟩ hJ trivial ⟨⟨sF, trivial⟩, trivial⟩ Try.func5 rfl rfl (Nat.le_of_ble_eq_true rfl) (Nat.le_of_ble_eq_true rfl) drOk5 ?_
  dsimp only [Try.f5, dr5, dd5, Option.getD_some]
  refine ev_start ?_
  simp (disch := omega) only [at1_eq, List.length_map, go_sem, evP_D, evD_guard, evD_cons, evD_zero, evD_nil]
  refine evQ_loop [6, 7, 17, 18, 19] [48, 56] (fun σ => ∃ k : Nat, k = 0 ∧ σ = ⟨[(6, .ptr 48 0), (7, .vec 56), (17, .row 2 (l.map mvV)), (18, .int .i64 l.length), (19, .int .i64 k)], [(48, .box .zero), (56, .vec 3 1 [])]⟩) (fun σ => 0) ?_ ?_
  · simp only [go_sem, evP_D, evD_guard, evD_cons, evD_zero, evD_nil]
    exact ⟨0, rfl, rfl⟩
  · rintro σ ⟨k, hk0, rfl⟩
    by_cases hlt : k < l.length
    · have hlt' : (k : Int) < l.length := by omega
      have hg := mv_get hlt
      have hok := mvE_ok (mvs_at hm hlt)
      have hd : fifoG (l.drop k) [] [] = fifoG l [] [] := by rw [hk0, List.drop_zero]
      rw [mv_drop hlt] at hd
      have hx0 := h0 (by omega)
      rw [← hk0] at hx0
      generalize fifoG l [] [] = R at *
      unfold fifoG at hd
      generalize mvG l k = m at *
      obtain ⟨x, y⟩ := m
      simp only at hok hd hx0
      rw [if_neg hx0, takeG, if_neg (by omega)] at hd
      simp only at hd
      subst hd
      have hgv := mvV_get hg
      have hFx := hF ⟨0 - x, by omega⟩
      simp only at hFx
      simp (disch := (first | omega | assumption)) only [hlt', idx_nat, List.length_map, hgv, hx0, hFx, Nat.sub_self, List.getElem?_cons_zero, sfR_none, go_sem, evP_D, evD_guard, evD_cons, evD_zero, evD_nil]
    · have hk' : k = l.length := by omega
      have hl : l = [] := List.eq_nil_of_length_eq_zero (by omega)
      subst hl
      have hd : fifoG [] [] [] = some ([], []) := rfl
      rw [hd, sfR_some]
      have hlt' : ¬ ((k : Int) < 0) := by omega
      simp (disch := (first | omega | assumption)) only [hlt', List.map_nil, go_sem, evP_D, evD_guard, evD_cons, evD_zero, evD_nil]
set_option maxHeartbeats 8000000 in
/-- stock.Fifo, whatever is handed in -/
theorem fifo_sound {J : World → Prop} (hJ : Stable J) (l : List Mv) : SoundAt Try.prog J 5 [.row 2 (l.map mvV)] (sfV l).1 (sfV l).2 := by
  by_cases he : lookE l = 0
  · have e : sfV l = sfR (fifoG l [] []) := if_pos he
    rw [e]
    by_cases h0 : 0 < l.length ∧ 0 < (mvG l 0).1
    · exact fifo_buy hJ l he h0.1 h0.2
    · exact fifo_nil hJ l he fun h h' => h0 ⟨h, h'⟩
  · have e : sfV l = (.tup [.zero, .zero, .int .i64 (lookE l)], []) := if_neg he
    rw [e]
    refine SoundAt.row 0 rfl (callOk Try.func5 rfl rfl) fun hlen => ?_
    simp only [maxLen, List.length_map] at hlen
    have hL := slook_sound hJ l
    generalize lookE l = E at *
    refine evFn (l := [(16, at1 _ (_, []))]) (nv := nv0) (fz := fz0) (dr := dr5) (dd := dd5) (lam := []) (ms := ms0) ⟨at1_snd hL, trivial⟩ hJ trivial ms0_ok Try.func5 rfl rfl (Nat.le_of_ble_eq_true rfl) (Nat.le_of_ble_eq_true rfl) drOk5 ?_
    dsimp only [Try.f5, dr5, dd5, Option.getD_some]
    refine ev_start ?_
    simp (disch := omega) only [at1_eq, he, go_sem, evP_D, evD_guard, evD_cons, evD_zero, evD_nil]
/-- the law -/
theorem stocks_law {J : World → Prop} (hJ : Stable J) (l : List Mv) : SoundAt Try.prog J 3 [.row 2 (l.map mvV)] (.bool true) [] := stock_law hJ l (fifo_sound hJ l)
end Go.Proofs.Ytdmkmbaaemhhhaa
