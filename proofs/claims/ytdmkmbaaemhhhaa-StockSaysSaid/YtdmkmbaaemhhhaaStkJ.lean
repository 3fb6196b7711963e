/-
  What pieces cost that go, run by the machine: first in, first out.
-/
import Derived.Test.YtdmkmbaaemhhhaaStkI
namespace Go.Stk
theorem takeG_ok : ∀ {S : List Lt} {n x : Int} {S' : List Lt} {x' : Int}, ltsOk S → takeG S n x = some (S', x') → ltsOk S' ∧ S'.length ≤ S.length
  | [], n, x, S', x', _, h => by
    unfold takeG at h
    split at h
    · simp only [Option.some.injEq, Prod.mk.injEq] at h
      obtain ⟨rfl, rfl⟩ := h
      exact ⟨fun p hp => (by simp at hp), Nat.le_refl _⟩
    · cases h
  | p :: r, n, x, S', x', hS, h => by
    have hp := hS p (by simp)
    have hr : ltsOk r := fun y hy => hS y (List.mem_cons_of_mem _ hy)
    unfold takeG at h
    split at h
    · simp only [Option.some.injEq, Prod.mk.injEq] at h
      obtain ⟨rfl, rfl⟩ := h
      exact ⟨hS, Nat.le_refl _⟩
    · rename_i hn
      split at h
      · have := takeG_ok hr h
        exact ⟨this.1, by rw [List.length_cons]; omega⟩
      · rename_i hc
        simp only [Option.some.injEq, Prod.mk.injEq] at h
        obtain ⟨rfl, rfl⟩ := h
        have hb := part_bd hp.1 hp.2.1 hp.2.2.1 hp.2.2.2 (n := n) (by omega) (by omega)
        refine ⟨fun y hy => ?_, by simp⟩
        rw [List.mem_cons] at hy
        rcases hy with rfl | hy
        · exact ⟨by show 0 < p.1 - n; omega, by show p.1 - n ≤ 1000000; omega, by show 0 ≤ p.2 - _; omega, by show p.2 - _ ≤ 1000000000000; omega⟩
        · exact hr y hy
end Go.Stk
namespace Go.Proofs.Ytdmkmbaaemhhhaa
open Go Go.Ev Go.RowKit Go.Stk
set_option maxHeartbeats 4000000
set_option linter.unusedSimpArgs false
set_option linter.unusedVariables false

theorem famN {P : Program} {J : World → Prop} {f : FuncId} {ι : Type} (k : ι → List Blk) (a : ι → List V) (r : ι → V × List Blk) (hi : ∀ i j, k i = k j → a i = a j → r i = r j) (h : ∀ i, MutAt P J f (k i) (a i) (r i).1 (r i).2) :
    ∃ F : List Blk → List V → Option (V × List Blk), (∀ i, F (k i) (a i) = some (r i)) ∧ Mu P J f F := by
  refine ⟨fun ks xs => open Classical in if h : ∃ i, k i = ks ∧ a i = xs then some (r h.choose) else none, fun i => ?_, fun ks xs r' ks' h' => ?_⟩
  · have hx : ∃ j, k j = k i ∧ a j = a i := ⟨i, rfl, rfl⟩
    simp only [dif_pos hx]
    rw [hi _ _ hx.choose_spec.1 hx.choose_spec.2]
  · by_cases hx : ∃ i, k i = ks ∧ a i = xs
    · simp only [dif_pos hx] at h'
      have e := Option.some.inj h'
      have := h hx.choose
      rw [hx.choose_spec.1, hx.choose_spec.2, e] at this
      exact this
    · simp only [dif_neg hx] at h'
      cases h'
theorem lotV_inj {l l' : List Lt} (h : l.map lotV = l'.map lotV) : l = l' := by
  have := unL_map l
  rw [h, unL_map] at this
  exact (Option.some.inj this).symm
theorem loneL (l : List Lt) : ((l.map lotV).all fun v => V.lone v && V.data v) = true := by
  rw [List.all_eq_true]
  intro v hv
  obtain ⟨n, _, rfl⟩ := List.mem_map.1 hv
  rfl
/-- the variable that holds the shelf -/
def bxV : Bool → V → V
  | true, v => .agg [v]
  | false, v => v
theorem bxV_inj {a b : Bool} {l1 k1 l2 k2 : Nat} (h : bxV a (.sub 1000000 2 l1 k1) = bxV b (.sub 1000000 2 l2 k2)) : a = b ∧ l1 = l2 := by
  cases a <;> cases b <;> simp [bxV] at h <;> simp [h]
theorem take_fam {J : World → Prop} (hJ : Stable J) : ∃ F : List Blk → List V → Option (V × List Blk), (∀ (g : Bool) (E : List Lt) (lo : Nat) (n : Int), E.length ≤ 40 → lo ≤ E.length → ltsOk E → n ≤ 1000000 →
    F [.vec 29 2 (E.map lotV), .box (bxV g (.sub 1000000 2 lo (E.length - lo)))] [.ptr 1000001 0, .int .i64 n] = some (.tup [.int .i64 (tkX (takeG (E.drop lo) n 0)), .bool (tkB (takeG (E.drop lo) n 0))],
      [.vec 29 2 ((tkE E (takeG (E.drop lo) n 0)).map lotV), .box (bxV g (.sub 1000000 2 (E.length - tkK (takeG (E.drop lo) n 0)) (tkK (takeG (E.drop lo) n 0))))])) ∧ Mu Try.prog J 17 F := by
  obtain ⟨F, h1, h2⟩ := famN (P := Try.prog) (J := J) (f := 17) (fun q : { q : Bool × List Lt × Nat × Int // q.2.1.length ≤ 40 ∧ q.2.2.1 ≤ q.2.1.length ∧ ltsOk q.2.1 ∧ q.2.2.2 ≤ 1000000 } => [Blk.vec 29 2 (q.1.2.1.map lotV), .box (bxV q.1.1 (.sub 1000000 2 q.1.2.2.1 (q.1.2.1.length - q.1.2.2.1)))]) (fun q => [.ptr 1000001 0, .int .i64 q.1.2.2.2])
    (fun q => (.tup [.int .i64 (tkX (takeG (q.1.2.1.drop q.1.2.2.1) q.1.2.2.2 0)), .bool (tkB (takeG (q.1.2.1.drop q.1.2.2.1) q.1.2.2.2 0))],
      [.vec 29 2 ((tkE q.1.2.1 (takeG (q.1.2.1.drop q.1.2.2.1) q.1.2.2.2 0)).map lotV), .box (bxV q.1.1 (.sub 1000000 2 (q.1.2.1.length - tkK (takeG (q.1.2.1.drop q.1.2.2.1) q.1.2.2.2 0)) (tkK (takeG (q.1.2.1.drop q.1.2.2.1) q.1.2.2.2 0))))])) (fun i j e1 e2 => by
      obtain ⟨⟨g, E, lo, n⟩, _⟩ := i
      obtain ⟨⟨g', E', lo', n'⟩, _⟩ := j
      simp only [List.cons.injEq, Blk.vec.injEq, Blk.box.injEq, V.int.injEq, true_and, and_true] at e1 e2
      obtain ⟨e1, e3⟩ := e1
      have := lotV_inj e1
      subst this
      obtain ⟨rfl, rfl⟩ := bxV_inj e3
      subst e2
      rfl) fun q => by
      obtain ⟨⟨g, E, lo, n⟩, a1, a2, a3, a4⟩ := q
      cases g with
      | true => exact take_mut hJ E lo n a1 a2 a3 a4
      | false => exact take_mut0 hJ E lo n a1 a2 a3 a4
  exact ⟨F, fun g E lo n a1 a2 a3 a4 => h1 ⟨(g, E, lo, n), a1, a2, a3, a4⟩, h2⟩
/-- nothing is taken from a nil shelf -/
theorem take_nil {J : World → Prop} (hJ : Stable J) (n : Int) (hn : 0 < n) : MutAt Try.prog J 17 [.box .zero] [.ptr 1000000 0, .int .i64 n] (.tup [.int .i64 0, .bool false]) [.box .zero] := by
  refine evMut (l := []) (nv := nv0) (fz := fz0) (dr := dr17) (dd := dd17) (lam := []) (ms := ms0) trivial hJ trivial ms0_ok Try.func17 rfl rfl (Nat.le_of_ble_eq_true rfl) (Nat.le_of_ble_eq_true rfl) drOk17 rfl rfl ?_ ?_
  rotate_left
  dsimp only [Try.f17, dr17, dd17, Option.getD_some]
  refine ev_start ?_
  · simp (disch := omega) only [go_sem, evP_D, evD_guard, evD_cons, evD_zero, evD_nil]
    refine evQ_loop [0, 1, 6] [1000000] (fun σ => σ = ⟨[(0, .ptr 1000000 0), (1, .int .i64 n), (6, .int .i64 0)], [(1000000, .box .zero)]⟩) (fun σ => 0) ?_ ?_
    · simp only [go_sem, evP_D, evD_guard, evD_cons, evD_zero, evD_nil]
    · rintro σ rfl
      simp (disch := (first | omega | assumption)) only [hn, go_sem, evP_D, evD_guard, evD_cons, evD_zero, evD_nil]
  · intro k hk
    simp only [List.mem_cons, List.not_mem_nil, or_false] at hk
    subst hk
    rfl
set_option maxHeartbeats 8000000 in
theorem fifo_buy {J : World → Prop} (hJ : Stable J) (l : List Mv) (he : lookE l = 0) (h0 : 0 < l.length) (hx0 : 0 < (mvG l 0).1) : SoundAt Try.prog J 5 [.row 2 (l.map mvV)] (sfR (fifoG l [] [])).1 (sfR (fifoG l [] [])).2 := by
  refine SoundAt.row 0 rfl (callOk Try.func5 rfl rfl) fun hlen => ?_
  simp only [maxLen, List.length_map] at hlen
  have hL := slook_sound hJ l
  obtain ⟨R, hR⟩ : ∃ R, R = fifoG l [] [] := ⟨_, rfl⟩
  rw [← hR]
  rw [he] at hL
  obtain ⟨h40, hm⟩ := look_0 he
  obtain ⟨F, hF, sF⟩ := take_fam hJ
  refine evFn (l := [(16, at1 _ (_, []))]) (nv := (nvL [(7, (3, 1))])) (fz := fz0) (dr := dr5) (dd := dd5) (lam := []) (ms := ⟨[(17, F)], lnL [(38, [264, 48])], []⟩) ⟨at1_snd hL, trivial⟩ hJ trivial ⟨⟨sF, trivial⟩, trivial⟩ Try.func5 rfl rfl (Nat.le_of_ble_eq_true rfl) (Nat.le_of_ble_eq_true rfl) drOk5 ?_
  dsimp only [Try.f5, dr5, dd5, Option.getD_some]
  refine ev_start ?_
  simp (disch := omega) only [at1_eq, List.length_map, go_sem, evP_D, evD_guard, evD_cons, evD_zero, evD_nil]
  refine evQ_loop [6, 7, 17, 18, 19] [48, 56, 264] (fun σ => (∃ k : Nat, k = 0 ∧ σ = ⟨[(6, .ptr 48 0), (7, .vec 56), (17, .row 2 (l.map mvV)), (18, .int .i64 l.length), (19, .int .i64 k)], [(48, .box .zero), (56, .vec 3 1 [])]⟩) ∨
    ∃ (k : Nat) (out : List Int) (g : Bool) (E : List Lt) (lo : Nat), (k ≤ l.length ∧ out.length ≤ k ∧ ltsOk E ∧ E.length ≤ k ∧ lo ≤ E.length ∧ fifoG (l.drop k) (E.drop lo) out = R) ∧
      σ = ⟨[(6, .ptr 48 0), (7, .vec 56), (17, .row 2 (l.map mvV)), (18, .int .i64 l.length), (19, .int .i64 k)], [(48, .box (bxV g (.sub 264 2 lo (E.length - lo)))), (56, .vec 3 1 (out.map (V.int .i64))), (264, .vec 29 2 (E.map lotV))]⟩)
    (fun σ => l.length - (match Ev.look 19 σ.env with | some (.int _ n) => n.toNat | _ => 0)) ?_ ?_
  · simp only [go_sem, evP_D, evD_guard, evD_cons, evD_zero, evD_nil]
    exact .inl ⟨0, rfl, rfl⟩
  · rintro σ (⟨k, hk0, rfl⟩ | ⟨k, out, g, E, lo, ⟨hk, ho, hE, hEl, hlo, hd⟩, rfl⟩)
    · have hlt : k < l.length := by omega
      have hlt' : (k : Int) < l.length := by omega
      have hg := mv_get hlt
      have hms := sub_ms hlt
      have hok := mvE_ok (mvs_at hm hlt)
      have hd : fifoG (l.drop k) [] [] = R := by rw [hk0, List.drop_zero]; exact hR.symm
      rw [mv_drop hlt] at hd
      rw [← hk0] at hx0
      unfold fifoG at hd
      generalize mvG l k = m at *
      obtain ⟨x, y⟩ := m
      simp only at hok hd hx0
      rw [if_pos hx0] at hd
      have hgv := mvV_get hg
      simp (disch := (first | omega | assumption)) only [hlt', idx_nat, List.length_map, hgv, hx0, go_sem, evP_D, evD_guard, evD_cons, evD_zero, evD_nil]
      exact ⟨.inr ⟨k + 1, [], false, [(x, y)], 0, ⟨hlt, by simp, fun p hp => by (simp at hp; subst hp; exact ⟨hx0, by omega, by omega, by omega⟩), by simp, by simp, hd⟩, rfl⟩, hms⟩
    · by_cases hlt : k < l.length
      case neg =>
        have hk' : k = l.length := by omega
        subst hk'
        have hlt' : ¬ ((l.length : Int) < l.length) := by omega
        rw [List.drop_length] at hd
        have hd' : some (out, E.drop lo) = R := hd
        subst hd'
        have hdt : ((E.map lotV).drop lo).take (E.length - lo) = (E.drop lo).map lotV := by rw [← List.map_drop, List.take_of_length_le (by simp)]
        have hee : lo + (E.length - lo) = E.length := by omega
        cases g <;>
        · simp (disch := (first | omega | assumption)) only [hlt', bxV, hee, hdt, sfR_some, List.length_map, go_sem, evP_D, evD_guard, evD_cons, evD_zero, evD_nil]
          exact ⟨by rw [List.length_drop]; omega, by rw [List.length_drop]; omega⟩
      have hlt' : (k : Int) < l.length := by omega
      have hg := mv_get hlt
      have hms := sub_ms hlt
      have hok := mvE_ok (mvs_at hm hlt)
      rw [mv_drop hlt] at hd
      unfold fifoG at hd
      generalize mvG l k = m at *
      obtain ⟨x, y⟩ := m
      simp only at hok hd
      have hgv := mvV_get hg
      have hee : lo + (E.length - lo) = E.length := by omega
      by_cases h1 : 0 < x
      · rw [if_pos h1] at hd
        have hlot : 0 < x ∧ x ≤ 1000000 ∧ 0 ≤ y ∧ y ≤ 1000000000000 := ⟨h1, by omega, by omega, by omega⟩
        have hA : ltsOk (E ++ [(x, y)]) := fun p hp => by
          rw [List.mem_append] at hp
          rcases hp with hp | hp
          · exact hE p hp
          · simp at hp; subst hp; exact hlot
        have hB : ltsOk (E.drop lo ++ [(x, y)]) := fun p hp => by
          rw [List.mem_append] at hp
          rcases hp with hp | hp
          · exact hE p (List.mem_of_mem_drop hp)
          · simp at hp; subst hp; exact hlot
        have hdA : (E ++ [(x, y)]).drop lo = E.drop lo ++ [(x, y)] := List.drop_append_of_le_length hlo
        have hlA : (E ++ [(x, y)]).length - lo = E.length - lo + 1 := by rw [List.length_append]; simp; omega
        have hlB : (E.drop lo ++ [(x, y)]).length - 0 = E.length - lo + 1 := by rw [List.length_append, List.length_drop]; simp
        cases g <;>
        · simp (disch := (first | omega | assumption)) only [hlt', idx_nat, List.length_map, hgv, h1, bxV, hee, go_sem, evP_D, evD_guard, evD_cons, evD_zero, evD_nil]
          refine ⟨⟨.inr ⟨k + 1, out, true, E ++ [(x, y)], lo, ⟨hlt, by omega, hA, by rw [List.length_append]; simp; omega, by rw [List.length_append]; omega, by rw [hdA]; exact hd⟩, ?_⟩, hms⟩, .inr ⟨k + 1, out, true, E.drop lo ++ [(x, y)], 0, ⟨hlt, by omega, hB, by rw [List.length_append, List.length_drop]; simp; omega, by omega, by rw [List.drop_zero]; exact hd⟩, ?_⟩, hms⟩
          · rw [hlA, List.map_append]; rfl
          · rw [hlB, List.map_append, List.map_drop]; rfl
      · rw [if_neg h1, show -x = 0 - x by omega] at hd
        have hFx := hF g E lo (0 - x) (by omega) hlo hE (by omega)
        have hdE : ltsOk (E.drop lo) := fun p hp => hE p (List.mem_of_mem_drop hp)
        cases hT : takeG (E.drop lo) (0 - x) 0 with
        | none =>
          rw [hT] at hd hFx
          simp only at hd
          subst hd
          cases g <;>
          · simp only [bxV, tkX, tkB, tkE, tkK] at hFx
            simp (disch := (first | omega | assumption)) only [hlt', idx_nat, List.length_map, hgv, h1, bxV, hFx, loneL, Nat.sub_self, List.getElem?_cons_zero, sfR_none, go_sem, evP_D, evD_guard, evD_cons, evD_zero, evD_nil]
        | some q =>
          obtain ⟨S', c⟩ := q
          rw [hT] at hd hFx
          simp only at hd
          obtain ⟨t1, t2⟩ := takeG_ok hdE hT
          rw [List.length_drop] at t2
          have hle : (E.take (E.length - S'.length) ++ S').length = E.length := by rw [List.length_append, List.length_take]; omega
          have hdr : (E.take (E.length - S'.length) ++ S').drop (E.length - S'.length) = S' := List.drop_left' (by rw [List.length_take]; omega)
          have hok' : ltsOk (E.take (E.length - S'.length) ++ S') := fun p hp => by
            rw [List.mem_append] at hp
            rcases hp with hp | hp
            · exact hE p (List.mem_of_mem_take hp)
            · exact t1 p hp
          have hkk : E.length - (E.length - S'.length) = S'.length := by omega
          have fin : ∀ g : Bool, ∃ (k' : Nat) (out' : List Int) (g' : Bool) (E' : List Lt) (lo' : Nat), (k' ≤ l.length ∧ out'.length ≤ k' ∧ ltsOk E' ∧ E'.length ≤ k' ∧ lo' ≤ E'.length ∧ fifoG (l.drop k') (E'.drop lo') out' = R) ∧
              (k' = k + 1 ∧ out' = out ++ [c] ∧ g' = g ∧ E' = E.take (E.length - S'.length) ++ S' ∧ lo' = E.length - S'.length) := fun g =>
            ⟨k + 1, out ++ [c], g, E.take (E.length - S'.length) ++ S', E.length - S'.length, ⟨hlt, by simp; omega, hok', by omega, by omega, by rw [hdr]; exact hd⟩, rfl, rfl, rfl, rfl, rfl⟩
          cases g with
          | false =>
            obtain ⟨k', out', g', E', lo', hh, rfl, rfl, rfl, rfl, rfl⟩ := fin false
            simp only [bxV, tkX, tkB, tkE, tkK] at hFx
            simp (disch := (first | omega | assumption)) only [hlt', idx_nat, List.length_map, hgv, h1, bxV, hFx, loneL, Nat.sub_self, List.getElem?_cons_zero, go_sem, evP_D, evD_guard, evD_cons, evD_zero, evD_nil]
            exact ⟨.inr ⟨_, _, false, _, _, hh, by rw [hle, hkk]; simp only [List.map_append, List.map_cons, List.map_nil]; rfl⟩, hms⟩
          | true =>
            obtain ⟨k', out', g', E', lo', hh, rfl, rfl, rfl, rfl, rfl⟩ := fin true
            simp only [bxV, tkX, tkB, tkE, tkK] at hFx
            simp (disch := (first | omega | assumption)) only [hlt', idx_nat, List.length_map, hgv, h1, bxV, hFx, loneL, Nat.sub_self, List.getElem?_cons_zero, go_sem, evP_D, evD_guard, evD_cons, evD_zero, evD_nil]
            exact ⟨.inr ⟨_, _, true, _, _, hh, by rw [hle, hkk]; simp only [List.map_append, List.map_cons, List.map_nil]; rfl⟩, hms⟩
end Go.Proofs.Ytdmkmbaaemhhhaa
