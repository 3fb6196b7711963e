/-
  Steps of the proof of ClosingSays: BkJ BookTellsW.
-/
import Derived.Test.YtdmkmbaaemhhhaaGreatDoorC18
import Derived.Test.YtdmkmbaaemhhhaaGreatDoorC14
set_option linter.unusedVariables false
set_option linter.unusedSimpArgs false
section
namespace Go.Proofs.YtdmkmbaaemhhhaaGreatDoor
open Go Go.Ev Go.RowKit Go.Acc
set_option maxHeartbeats 4000000
def unEn : List V → Option (List En)
 | [] => some []
 | .agg [.str k, .int .i64 d, .row 2 es] :: r => match unAc es, unEn r with
  | some l, some E => some ((k, d, l) :: E)
  | _, _ => none
 | _ => none
theorem unEn_map : ∀ E : List En, unEn (E.map enW) = some E
 | [] => rfl
 | (k, d, l) :: E => by simp only [List.map_cons, enW, unEn, unAc_map]; rw [show unEn (List.map enW E) = some E from unEn_map E]
theorem unEn_eq : ∀ {es : List V} {E : List En}, unEn es = some E → es = E.map enW
 | [], E, h => by simp only [unEn, Option.some.injEq] at h; subst h; rfl
 | v :: es, E, h => by
  unfold unEn at h
  split at h
  ·rename_i heq; cases heq
  ·rename_i k d fs r heq
   cases heq
   split at h
   ·rename_i l E' h1 h2
    simp only [Option.some.injEq] at h
    subst h
    rw [unEn_eq h2, unAc_eq h1]
    rfl
   ·cases h
  ·cases h
def rowEn : V → Option (List En)
 | .row 3 es => unEn es
 | .zero => some []
 | _ => none
theorem rowEn_row (E : List En) : rowEn (.row 3 (E.map enW)) = some E := unEn_map E
theorem rowEn_rel {L : V} {E : List En} (h : rowEn L = some E) {w : World} {ok : Nat → Prop} {val : Value} (hv : RelD w ok L val) : RelD w ok (.row 3 (E.map enW)) val := by
 unfold rowEn at h
 split at h
 ·rw [← unEn_eq h]; exact hv
 ·simp only [Option.some.injEq] at h
  subst h
  cases hv
  exact .nil _ _
 ·cases h
theorem eqA_sound {J : World → Prop} (hJ : Stable J) (xs : List (ByteArray × Int)) : SoundAt Tryz.prog J 86 [.row 2 (xs.map acV), .row 2 (xs.map acV)] (.bool true) [] := by
 refine SoundAt.row 0 rfl (callOk Tryz.func86 rfl rfl) fun hx => ?_
 simp only [maxLen, List.length_map] at hx
 refine evFn (l := []) (nv := nv0) (fz := fz0) (dr := dr86) (dd := dd86) (lam := []) (ms := ms0) trivial hJ trivial ms0_ok Tryz.func86 rfl rfl (Nat.le_of_ble_eq_true rfl) (Nat.le_of_ble_eq_true rfl) drOk86 ?_
 dsimp only [Tryz.f86, dr86, dd86, Option.getD_some]
 refine ev_start ?_
 simp (disch := omega) only [go_sem, evP_D, evD_guard, evD_cons, evD_zero, evD_nil]
 refine evQ_loop [0, 1, 12, 13] [] (fun σ => ∃ k : Nat, k ≤ xs.length ∧ σ = ⟨[(0, .row 2 (xs.map acV)), (1, .row 2 (xs.map acV)), (12, .int .i64 xs.length), (13, .int .i64 k)], []⟩) (fun σ => xs.length - (match Ev.look 13 σ.env with | some (.int _ n) => n.toNat | _ => 0)) ?_ ?_
 ·simp only [go_sem, evP_D, evD_guard, evD_cons, evD_zero, evD_nil]
  exact ⟨0, Nat.zero_le _, rfl⟩
 ·rintro σ ⟨k, hk, rfl⟩
  by_cases hlt : k < xs.length
  ·have hlt' : (k : Int) < xs.length := by omega
   obtain ⟨⟨c, n⟩, hcn⟩ : ∃ p, xs[k]? = some p := ⟨_, List.getElem?_eq_getElem hlt⟩
   have g1 := acV_get hcn
   simp (disch := (first | omega | assumption)) only [hlt', idx_nat, List.length_map, g1, str_eq, decide_true, go_sem, evP_D, evD_guard, evD_cons, evD_zero, evD_nil]
   exact ⟨⟨k + 1, hlt, rfl⟩, by
    have e3 : ((k : Int) + 1).toNat = k + 1 := by omega
    rw [e3, Int.toNat_natCast]; exact Nat.sub_lt_sub_left hlt (Nat.lt_succ_self k)⟩
  ·have hlt' : ¬ ((k : Int) < xs.length) := by omega
   simp (disch := (first | omega | assumption)) only [hlt', go_sem, evP_D, evD_guard, evD_cons, evD_zero, evD_nil]
def eqAF : List V → Option (V × List Ev.Blk)
 | [x, y] => match rowAc x, rowAc y with
  | some xs, some ys => if xs = ys then some (.bool true, []) else none
  | _, _ => none
 | _ => none
theorem eqAF_eq {x y : V} {l : List (ByteArray × Int)} (hx : rowAc x = some l) (hy : rowAc y = some l) : eqAF [x, y] = some (.bool true, []) := by
 simp only [eqAF, hx, hy, if_true]
theorem eqA_snd {J : World → Prop} (hJ : Stable J) : Snd Tryz.prog J 86 eqAF := by
 intro args r bs h
 unfold eqAF at h
 split at h
 ·rename_i x y
  split at h
  ·rename_i xs ys hx hy
   split at h
   ·rename_i hxy
    subst hxy
    obtain ⟨rfl, rfl⟩ := some_pair h
    exact sound_by (eqA_sound hJ xs) rfl fun w ok j c v hc hv => by
     match j with
     | 0 => simp at hc; subst hc; exact ⟨_, rfl, rowAc_rel hx hv⟩
     | 1 => simp at hc; subst hc; exact ⟨_, rfl, rowAc_rel hy hv⟩
     | j + 2 => simp at hc
   ·cases h
  ·cases h
 ·cases h
theorem eqF_sound {J : World → Prop} (hJ : Stable J) (E : List En) : SoundAt Tryz.prog J 87 [.row 3 (E.map enW), .row 3 (E.map enW), .fn 13 []] (.bool true) [] := by
 refine SoundAt.row 0 rfl (callOk Tryz.func87 rfl rfl) fun hx => ?_
 simp only [maxLen, List.length_map] at hx
 refine evFn (l := [(13, sameF)]) (nv := nv0) (fz := fz0) (dr := dr87) (dd := dd87) (lam := []) (ms := ms0) ⟨same_snd hJ, trivial⟩ hJ trivial ms0_ok Tryz.func87 rfl rfl (Nat.le_of_ble_eq_true rfl) (Nat.le_of_ble_eq_true rfl) drOk87 ?_
 dsimp only [Tryz.f87, dr87, dd87, Option.getD_some]
 refine ev_start ?_
 simp (disch := omega) only [go_sem, evP_D, evD_guard, evD_cons, evD_zero, evD_nil]
 refine evQ_loop [1, 2, 15, 16, 17] [] (fun σ => ∃ k : Nat, k ≤ E.length ∧ σ = ⟨[(1, .row 3 (E.map enW)), (2, .fn 13 []), (15, .row 3 (E.map enW)), (16, .int .i64 E.length), (17, .int .i64 k)], []⟩) (fun σ => E.length - (match Ev.look 17 σ.env with | some (.int _ n) => n.toNat | _ => 0)) ?_ ?_
 ·simp only [go_sem, evP_D, evD_guard, evD_cons, evD_zero, evD_nil]
  exact ⟨0, Nat.zero_le _, rfl⟩
 ·rintro σ ⟨k, hk, rfl⟩
  by_cases hlt : k < E.length
  ·have hlt' : (k : Int) < E.length := by omega
   obtain ⟨⟨c, d, l⟩, hcn⟩ : ∃ p, E[k]? = some p := ⟨_, List.getElem?_eq_getElem hlt⟩
   have g1 := enW_get hcn
   have hS := sameF_eq (k := c) (d := d) (rowAc_row l) (rowAc_row l)
   simp (disch := (first | omega | assumption)) only [hlt', idx_nat, List.length_map, g1, hS, go_sem, evP_D, evD_guard, evD_cons, evD_zero, evD_nil]
   exact ⟨⟨k + 1, hlt, rfl⟩, by
    have e3 : ((k : Int) + 1).toNat = k + 1 := by omega
    rw [e3, Int.toNat_natCast]; exact Nat.sub_lt_sub_left hlt (Nat.lt_succ_self k)⟩
  ·have hlt' : ¬ ((k : Int) < E.length) := by omega
   simp (disch := (first | omega | assumption)) only [hlt', go_sem, evP_D, evD_guard, evD_cons, evD_zero, evD_nil]
noncomputable def eqFF : List V → Option (V × List Ev.Blk)
 | [x, y, .fn f []] => match rowEn x, rowEn y with
  | some xs, some ys => if xs = ys ∧ f = 13 then some (.bool true, []) else none
  | _, _ => none
 | _ => none
theorem eqFF_eq {x y : V} {E : List En} (hx : rowEn x = some E) (hy : rowEn y = some E) : eqFF [x, y, .fn 13 []] = some (.bool true, []) := by
 simp only [eqFF, hx, hy, and_self, if_true]
theorem eqF_snd {J : World → Prop} (hJ : Stable J) : Snd Tryz.prog J 87 eqFF := by
 intro args r bs h
 unfold eqFF at h
 split at h
 ·rename_i x y f
  split at h
  ·rename_i xs ys hx hy
   split at h
   ·rename_i hxy
    obtain ⟨rfl, rfl⟩ := hxy
    obtain ⟨rfl, rfl⟩ := some_pair h
    exact sound_by (eqF_sound hJ xs) rfl fun w ok j c v hc hv => by
     match j with
     | 0 => simp at hc; subst hc; exact ⟨_, rfl, rowEn_rel hx hv⟩
     | 1 => simp at hc; subst hc; exact ⟨_, rfl, rowEn_rel hy hv⟩
     | 2 => simp at hc; subst hc; exact ⟨_, rfl, hv⟩
     | j + 3 => simp at hc
   ·cases h
  ·cases h
 ·cases h
noncomputable def sbF : List V → Option (V × List Ev.Blk)
 | [.agg [x, y, .int .i64 s], .agg [x', y', .int .i64 s']] => open Classical in if (s = s' ∧ (∃ A, rowAc x = some A ∧ rowAc x' = some A)) ∧ ∃ E, rowEn y = some E ∧ rowEn y' = some E then some (.bool true, []) else none
 | _ => none
theorem sbF_eq {x x' y y' : V} {s : Int} {A : List (ByteArray × Int)} {E : List En} (h1 : rowAc x = some A) (h2 : rowAc x' = some A) (h3 : rowEn y = some E) (h4 : rowEn y' = some E) : sbF [.agg [x, y, .int .i64 s], .agg [x', y', .int .i64 s]] = some (.bool true, []) := by
 simp only [sbF]
 exact if_pos ⟨⟨rfl, A, h1, h2⟩, E, h3, h4⟩
theorem rowAc_data {x : V} {A : List (ByteArray × Int)} (h : rowAc x = some A) : V.data x = true := by
 unfold rowAc at h
 split at h
 ·rfl
 ·rfl
 ·cases h
theorem rowEn_data {x : V} {E : List En} (h : rowEn x = some E) : V.data x = true := by
 unfold rowEn at h
 split at h
 ·rfl
 ·rfl
 ·cases h
theorem sb_snd {J : World → Prop} (hJ : Stable J) : Snd Tryz.prog J 42 sbF := by
 intro args r bs h
 unfold sbF at h
 split at h
 ·rename_i x y s x' y' s'
  split at h
  ·rename_i hc
   obtain ⟨⟨rfl, A, h1, h2⟩, E, h3, h4⟩ := hc
   obtain ⟨rfl, rfl⟩ := some_pair h
   have hS : SoundAt Tryz.prog J 42 [bkV A E s, bkV A E s] (.bool true) [] := by
    unfold bkV
    refine evFn (l := [(86, eqAF), (87, eqFF)]) (nv := nv0) (fz := fz0) (dr := dr42) (dd := dd42) (lam := []) (ms := ms0) ⟨eqA_snd hJ, eqF_snd hJ, trivial⟩ hJ trivial ms0_ok Tryz.func42 rfl rfl (Nat.le_of_ble_eq_true rfl) (Nat.le_of_ble_eq_true rfl) drOk42 ?_
    dsimp only [Tryz.f42, dr42, dd42, Option.getD_some]
    refine ev_start ?_
    have ha := eqAF_eq (rowAc_row A) (rowAc_row A)
    have he := eqFF_eq (rowEn_row E) (rowEn_row E)
    simp (disch := omega) only [ha, he, go_sem, evP_D, evD_guard, evD_cons, evD_zero, evD_nil]
   have key : ∀ (x y : V), rowAc x = some A → rowEn y = some E → ∀ (w : World) (ok : Nat → Prop) v, RelD w ok (.agg [x, y, .int .i64 s]) v → RelD w ok (bkV A E s) v := by
    intro x y hx hy w ok v hv
    cases hv with
    | agg cs vs hl h1 hh =>
     refine .agg _ vs (by simpa using hl) h1 fun j c v hc hv => ?_
     match j with
     | 0 => simp at hc; subst hc; exact rowAc_rel hx (hh 0 x v rfl hv)
     | 1 => simp at hc; subst hc; exact rowEn_rel hy (hh 1 y v rfl hv)
     | 2 => exact hh 2 c v hc hv
     | j + 3 => simp at hc
   exact sound_by hS rfl fun w ok j c v hc hv => by
    match j with
    | 0 => simp at hc; subst hc; exact ⟨_, rfl, key x y h1 h3 _ _ _ hv⟩
    | 1 => simp at hc; subst hc; exact ⟨_, rfl, key x' y' h2 h4 _ _ _ hv⟩
    | j + 2 => simp at hc
  ·cases h
 ·cases h
noncomputable def toldF : List V → Option (V × List Ev.Blk)
 | [.agg [x, y, .int .i64 s], .int .i64 e, .agg [x', y', .int .i64 s'], .int .i64 e'] => open Classical in if (e = e' ∧ s = s' ∧ (∃ A, rowAc x = some A ∧ rowAc x' = some A)) ∧ ∃ E, rowEn y = some E ∧ rowEn y' = some E then some (.bool true, []) else none
 | _ => none
theorem toldF_eq {x x' y y' : V} {s e : Int} {A : List (ByteArray × Int)} {E : List En} (h1 : rowAc x = some A) (h2 : rowAc x' = some A) (h3 : rowEn y = some E) (h4 : rowEn y' = some E) : toldF [.agg [x, y, .int .i64 s], .int .i64 e, .agg [x', y', .int .i64 s], .int .i64 e] = some (.bool true, []) := by
 simp only [toldF]
 exact if_pos ⟨⟨rfl, rfl, A, h1, h2⟩, E, h3, h4⟩
theorem told_snd {J : World → Prop} (hJ : Stable J) : Snd Tryz.prog J 12 toldF := by
 intro args r bs h
 unfold toldF at h
 split at h
 ·rename_i x y s e x' y' s' e'
  split at h
  ·rename_i hc
   obtain ⟨⟨rfl, rfl, A, h1, h2⟩, E, h3, h4⟩ := hc
   obtain ⟨rfl, rfl⟩ := some_pair h
   have hs := sbF_eq (s := s) h1 h2 h3 h4
   have d1 := rowAc_data h1
   have d2 := rowAc_data h2
   have d3 := rowEn_data h3
   have d4 := rowEn_data h4
   unfold rowAc at h1 h2
   unfold rowEn at h3 h4
   refine evFn (l := [(42, sbF)]) (nv := nv0) (fz := fz0) (dr := dr12) (dd := dd12) (lam := []) (ms := ms0) ⟨sb_snd hJ, trivial⟩ hJ trivial ms0_ok Tryz.func12 rfl rfl (Nat.le_of_ble_eq_true rfl) (Nat.le_of_ble_eq_true rfl) drOk12 ?_
   dsimp only [Tryz.f12, dr12, dd12, Option.getD_some]
   refine ev_start ?_
   split at h1 <;> split at h2 <;> split at h3 <;> split at h4 <;> first | (cases h1; done) | (cases h2; done) | (cases h3; done) | (cases h4; done) | simp (disch := omega) only [hs, go_sem, evP_D, evD_guard, evD_cons, evD_zero, evD_nil]
  ·cases h
 ·cases h
end Go.Proofs.YtdmkmbaaemhhhaaGreatDoor
end
section
namespace Go.Proofs.YtdmkmbaaemhhhaaGreatDoor
open Go Go.Ev Go.RowKit Go.Acc
set_option maxRecDepth 100000 in
theorem ty_acct {m : Nat} {c : V} (h : TyV Tryz.prog (m + 2) 78 c) : ∃ p, c = acV p ∧ True := by
 obtain ⟨cs, rfl, hl, hf⟩ := ty_struct h Tryz.underlying78
 have hc : Tryz.prog.cellsOf 78 = 2 := by kernel_rfl
 rw [hc] at hl
 match cs, hl, hf with
 | [a, b], _, hf =>
  have h0 := hf _ (by simp only [List.mem_toArray]; exact List.mem_cons_self)
  have h1 := hf _ (by simp only [List.mem_toArray]; exact List.mem_cons_of_mem _ List.mem_cons_self)
  have c0 : Tryz.prog.cellsOf 9 = 1 := by kernel_rfl
  have c1 : Tryz.prog.cellsOf 3 = 1 := by kernel_rfl
  simp only [c0, c1, List.drop_zero, List.take_succ_cons, List.take_zero, List.drop_succ_cons] at h0 h1
  obtain ⟨s, rfl, _⟩ := tyC_strs h0 Tryz.underlying9
  obtain ⟨n, rfl⟩ := tyC_ints h1 Tryz.underlying3
  exact ⟨(s, n), rfl, trivial⟩
set_option maxRecDepth 100000 in
theorem ty_book {m : Nat} {c : V} (h : TyV Tryz.prog (m + 6) 25 c) : ∃ (A : List (ByteArray × Int)) (E : List En) (s : Int), c = bkV A E s ∧ okEn E := by
 obtain ⟨cs, rfl, hl, hf⟩ := ty_struct h Tryz.underlying25
 have hc : Tryz.prog.cellsOf 25 = 3 := by kernel_rfl
 rw [hc] at hl
 match cs, hl, hf with
 | [a, b, d], _, hf =>
  have h0 := hf _ (by simp only [List.mem_toArray]; exact List.mem_cons_self)
  have h1 := hf _ (by simp only [List.mem_toArray]; exact List.mem_cons_of_mem _ List.mem_cons_self)
  have h2 := hf _ (by simp only [List.mem_toArray]; exact List.mem_cons_of_mem _ (List.mem_cons_of_mem _ List.mem_cons_self))
  have c0 : Tryz.prog.cellsOf 22 = 1 := by kernel_rfl
  have c1 : Tryz.prog.cellsOf 23 = 1 := by kernel_rfl
  have c2 : Tryz.prog.cellsOf 3 = 1 := by kernel_rfl
  have c3 : Tryz.prog.cellsOf 78 = 2 := by kernel_rfl
  have c4 : Tryz.prog.cellsOf 28 = 3 := by kernel_rfl
  simp only [c0, c1, c2, List.drop_zero, List.take_succ_cons, List.take_zero, List.drop_succ_cons] at h0 h1 h2
  obtain ⟨ac, rfl, ha, has⟩ := tyC_slices h0 Tryz.underlying22
  obtain ⟨es, rfl, he, hes⟩ := tyC_slices h1 Tryz.underlying23
  obtain ⟨s, rfl⟩ := tyC_ints h2 Tryz.underlying3
  obtain ⟨A, rfl, _⟩ := map_of_all (f := acV) (p := fun _ => True) fun x hx => ty_acct (m := m + 2) (has x hx)
  obtain ⟨E, rfl, hE⟩ := map_of_all (f := enW) (p := fun x : En => x.1.size ≤ maxLen ∧ x.2.2.length ≤ maxLen) fun x hx => by
   obtain ⟨k, d, l, rfl, hk, hl⟩ := ty_entry (m := m) (hes x hx)
   exact ⟨(k, d, l), rfl, hk, hl⟩
  rw [c3, c4]
  exact ⟨A, E, s, rfl, by simpa using he, hE⟩
end Go.Proofs.YtdmkmbaaemhhhaaGreatDoor
end
