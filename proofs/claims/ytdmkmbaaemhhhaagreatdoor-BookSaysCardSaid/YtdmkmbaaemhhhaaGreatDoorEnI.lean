/-
  Entries, run by the machine: what is turned.
-/
import Derived.Test.YtdmkmbaaemhhhaaGreatDoorEnH
namespace Go.Acc
open Go
theorem lnE_ok : ∀ (l : List (ByteArray × Int)) (seen : List ByteArray), lnE seen l = 0 → ∀ x ∈ l, -1000000000000 ≤ x.2 ∧ x.2 ≤ 1000000000000
  | [], _, _ => by simp
  | (c, n) :: l, seen, h => by
    unfold lnE at h
    by_cases h1 : codeOk c = false
    · rw [if_pos h1] at h; omega
    rw [if_neg h1] at h
    by_cases h2 : ¬ ((-1000000000000 ≤ n ∧ n ≤ 1000000000000) ∧ n ≠ 0)
    · rw [if_pos h2] at h; omega
    rw [if_neg h2] at h
    by_cases h3 : hasC c seen = true
    · rw [if_pos h3] at h; omega
    rw [if_neg h3] at h
    intro x hx
    rcases List.mem_cons.1 hx with rfl | hx
    · exact (Decidable.not_not.1 h2).1
    · exact lnE_ok l _ h x hx
theorem lnChk_ok {l : List (ByteArray × Int)} (h : lnChk l = 0) : 2 ≤ l.length ∧ l.length ≤ 12 ∧ ∀ x ∈ l, -1000000000000 ≤ x.2 ∧ x.2 ≤ 1000000000000 := by
  unfold lnChk at h
  by_cases h1 : 12 < l.length
  · rw [if_pos h1] at h; omega
  rw [if_neg h1] at h
  by_cases h2 : lnE [] l = 0
  · rw [if_neg (fun hh => hh h2)] at h
    by_cases h3 : l.length < 2 ∨ lnSum l l.length ≠ 0
    · rw [if_pos h3] at h; omega
    · exact ⟨by omega, by omega, lnE_ok l [] h2⟩
  · rw [if_pos h2] at h; exact absurd h h2
theorem enE_ok {key : ByteArray} {day : Int} {l : List (ByteArray × Int)} (h : enE key day l = 0) : lnChk l = 0 := by
  unfold enE at h
  by_cases h1 : keyOk' key = false
  · rw [if_pos h1] at h; omega
  rw [if_neg h1] at h
  by_cases h2 : ¬ (0 ≤ day ∧ day ≤ 292193)
  · rw [if_pos h2] at h; omega
  rw [if_neg h2] at h
  exact h
end Go.Acc
namespace Go.Proofs.YtdmkmbaaemhhhaaGreatDoor
open Go Go.Ev Go.RowKit Go.Acc
set_option maxHeartbeats 4000000
set_option linter.unusedSimpArgs false
set_option linter.unusedVariables false

theorem turnL_step {l : List (ByteArray × Int)} {k : Nat} {c : ByteArray} {n : Int} (h : l[k]? = some (c, n)) : turnL (l.take (k + 1)) = turnL (l.take k) ++ [(c, 0 - n)] := by
  obtain ⟨hk, he⟩ := List.getElem?_eq_some_iff.1 h
  unfold turnL
  rw [List.take_succ_eq_append_getElem hk, he, List.map_append]
  rfl
set_option maxHeartbeats 4000000 in
theorem turned_sound {J : World → Prop} (hJ : Stable J) (key : ByteArray) (day : Int) (l : List (ByteArray × Int)) (k : ByteArray) (d : Int) (he : enE key day l = 0) (hk : keyOk' k = true) (hd : 0 ≤ d ∧ d ≤ 292193) :
    SoundAt Tryz.prog J 51 [enV key day (.row 2 (l.map acV)), .str k, .int .i64 d] (.tup [enV k d (.vec 0), .int .i64 0]) [.vec 61 2 ((turnL l).map acV)] := by
  have hd' : (decide (0 ≤ d ∧ d ≤ 292193)) = true := decide_eq_true hd
  obtain ⟨h2, h12, hnn⟩ := lnChk_ok (enE_ok he)
  unfold enV
  refine evFn (l := [(29, echeckF), (74, keyF), (47, dayF)]) (nv := nv0) (fz := fz0) (dr := dr51) (dd := dd51) (lam := []) (ms := ms0) ⟨echeck_snd hJ, key_snd hJ, is_snd hJ, trivial⟩ hJ trivial ms0_ok Tryz.func51 rfl rfl (Nat.le_of_ble_eq_true rfl) (Nat.le_of_ble_eq_true rfl) drOk51 ?_
  dsimp only [Tryz.f51, dr51, dd51, Option.getD_some]
  refine ev_start ?_
  simp (disch := omega) only [echeckF_eq, keyF_eq, dayF_eq, he, hk, hd', go_sem, evP_D, evD_guard, evD_cons, evD_zero, evD_nil]
  refine evQ_loop [6, 9, 30, 31, 32] [48, 72, 352] (fun σ => ∃ j : Nat, j ≤ l.length ∧ ((j = 0 ∧ σ = ⟨[(6, .ptr 48 0), (9, .ptr 72 0), (30, .row 2 (l.map acV)), (31, .int .i64 l.length), (32, .int .i64 j)], [(48, .box (.agg [.str ByteArray.empty, .int .i64 0, .zero])), (72, .box (.agg [.str k, .int .i64 d, .zero]))]⟩) ∨
      (0 < j ∧ σ = ⟨[(6, .ptr 48 0), (9, .ptr 72 0), (30, .row 2 (l.map acV)), (31, .int .i64 l.length), (32, .int .i64 j)], [(48, .box (.agg [.str ByteArray.empty, .int .i64 0, .zero])), (72, .box (.agg [.str k, .int .i64 d, .vec 352])), (352, .vec 61 2 ((turnL (l.take j)).map acV))]⟩)))
    (fun σ => l.length - (match Ev.look 32 σ.env with | some (.int _ n) => n.toNat | _ => 0)) ?_ ?_
  · simp only [go_sem, evP_D, evD_guard, evD_cons, evD_zero, evD_nil]
    exact ⟨0, Nat.zero_le _, .inl ⟨rfl, rfl⟩⟩
  · rintro σ ⟨j, hj, hσ⟩
    by_cases hlt : j < l.length
    · have hlt' : (j : Int) < l.length := by omega
      obtain ⟨⟨c, n⟩, hcn⟩ : ∃ p, l[j]? = some p := ⟨_, List.getElem?_eq_getElem hlt⟩
      have hg := acV_get hcn
      have hn := hnn (c, n) (List.mem_of_getElem? hcn)
      simp only at hn
      have hst := turnL_step hcn
      have hms : l.length - ((j : Int) + 1).toNat < l.length - (j : Int).toNat := by
        have e3 : ((j : Int) + 1).toNat = j + 1 := by omega
        rw [e3, Int.toNat_natCast]; exact Nat.sub_lt_sub_left hlt (Nat.lt_succ_self j)
      have hlen2 : (turnL (l.take j)).length ≤ l.length := by unfold turnL; rw [List.length_map]; exact List.length_take_le' _ _
      rcases hσ with ⟨hj0, rfl⟩ | ⟨hj0, rfl⟩
      · subst hj0
        have z0 : ((0 : Nat) : Int) = 0 := rfl
        have hi0 := idx_nat l.length 0 hlt
        rw [z0] at hlt' hi0 hms ⊢
        simp (disch := (first | omega | assumption)) only [hlt', hi0, List.length_map, hg, go_sem, evP_D, evD_guard, evD_cons, evD_zero, evD_nil]
        exact ⟨⟨1, hlt, .inr ⟨by omega, by rw [hst]; rfl⟩⟩, hms⟩
      · simp (disch := (first | omega | assumption)) only [hlt', idx_nat, List.length_map, hg, go_sem, evP_D, evD_guard, evD_cons, evD_zero, evD_nil]
        exact ⟨⟨j + 1, hlt, .inr ⟨by omega, by rw [hst, List.map_append]; rfl⟩⟩, hms⟩
    · have hj' : j = l.length := by omega
      subst hj'
      have hlt' : ¬ ((l.length : Int) < l.length) := by omega
      rcases hσ with ⟨hj0, rfl⟩ | ⟨hj0, rfl⟩
      · omega
      · simp (disch := (first | omega | assumption)) only [hlt', List.take_length, go_sem, evP_D, evD_guard, evD_cons, evD_zero, evD_nil]
theorem rturned_bad {J : World → Prop} (hJ : Stable J) (key : ByteArray) (day : Int) (l : List (ByteArray × Int)) (k : ByteArray) (d : Int) (e : Int) (hsz : k.size ≤ maxLen) (he : (if keyOk' k = false then 3 else if ¬ (0 ≤ d ∧ d ≤ 292193) then 1 else 0) = e) (h0 : e ≠ 0) :
    SoundAt Tryz.prog J 53 [enV key day (.row 2 (l.map acV)), .str k, .int .i64 d] (.tup [ozV, .int .i64 e]) [] := by
  unfold enV ozV
  refine evFn (l := [(57, at1 [.str k] (.bool (keyOk' k), [])), (39, dayF)]) (nv := nv0) (fz := fz0) (dr := dr53) (dd := dd53) (lam := []) (ms := ms0) ⟨at1_snd (rkey_sound hJ k hsz), day_snd hJ, trivial⟩ hJ trivial ms0_ok Tryz.func53 rfl rfl (Nat.le_of_ble_eq_true rfl) (Nat.le_of_ble_eq_true rfl) drOk53 ?_
  dsimp only [Tryz.f53, dr53, dd53, Option.getD_some]
  refine ev_start ?_
  cases hk : keyOk' k with
  | false =>
    rw [if_pos hk] at he
    subst he
    simp (disch := omega) only [at1_eq, hk, go_sem, evP_D, evD_guard, evD_cons, evD_zero, evD_nil]
  | true =>
    rw [if_neg (by rw [hk]; simp)] at he
    by_cases hd : 0 ≤ d ∧ d ≤ 292193
    · rw [if_neg (fun h => h hd)] at he; exact absurd he.symm h0
    · rw [if_pos hd] at he
      subst he
      have hd' : (decide (0 ≤ d ∧ d ≤ 292193)) = false := decide_eq_false hd
      simp (disch := omega) only [at1_eq, dayF_eq, hk, hd', go_sem, evP_D, evD_guard, evD_cons, evD_zero, evD_nil]
set_option maxHeartbeats 4000000 in
theorem rturned_sound {J : World → Prop} (hJ : Stable J) (key : ByteArray) (day : Int) (l : List (ByteArray × Int)) (k : ByteArray) (d : Int) (he : enE key day l = 0) (hk : keyOk' k = true) (hd : 0 ≤ d ∧ d ≤ 292193) (hsz : k.size ≤ maxLen) :
    SoundAt Tryz.prog J 53 [enV key day (.row 2 (l.map acV)), .str k, .int .i64 d] (.tup [enV k d (.vec 0), .int .i64 0]) [.vec 61 2 ((turnL l).map acV)] := by
  have hd' : (decide (0 ≤ d ∧ d ≤ 292193)) = true := decide_eq_true hd
  obtain ⟨h2, h12, hnn⟩ := lnChk_ok (enE_ok he)
  unfold enV
  refine evFn (l := [(57, at1 [.str k] (.bool (keyOk' k), [])), (39, dayF)]) (nv := nv0) (fz := fz0) (dr := dr53) (dd := dd53) (lam := []) (ms := ms0) ⟨at1_snd (rkey_sound hJ k hsz), day_snd hJ, trivial⟩ hJ trivial ms0_ok Tryz.func53 rfl rfl (Nat.le_of_ble_eq_true rfl) (Nat.le_of_ble_eq_true rfl) drOk53 ?_
  dsimp only [Tryz.f53, dr53, dd53, Option.getD_some]
  refine ev_start ?_
  simp (disch := omega) only [at1_eq, dayF_eq, hk, hd', go_sem, evP_D, evD_guard, evD_cons, evD_zero, evD_nil]
  refine evQ_loop [6, 8, 23, 24, 25] [48, 64, 304] (fun σ => ∃ j : Nat, j ≤ l.length ∧ ((j = 0 ∧ σ = ⟨[(6, .ptr 48 0), (8, .ptr 64 0), (23, .row 2 (l.map acV)), (24, .int .i64 l.length), (25, .int .i64 j)], [(48, .box (.agg [.str ByteArray.empty, .int .i64 0, .zero])), (64, .box (.agg [.str k, .int .i64 d, .zero]))]⟩) ∨
      (0 < j ∧ σ = ⟨[(6, .ptr 48 0), (8, .ptr 64 0), (23, .row 2 (l.map acV)), (24, .int .i64 l.length), (25, .int .i64 j)], [(48, .box (.agg [.str ByteArray.empty, .int .i64 0, .zero])), (64, .box (.agg [.str k, .int .i64 d, .vec 304])), (304, .vec 61 2 ((turnL (l.take j)).map acV))]⟩)))
    (fun σ => l.length - (match Ev.look 25 σ.env with | some (.int _ n) => n.toNat | _ => 0)) ?_ ?_
  · simp only [go_sem, evP_D, evD_guard, evD_cons, evD_zero, evD_nil]
    exact ⟨0, Nat.zero_le _, .inl ⟨rfl, rfl⟩⟩
  · rintro σ ⟨j, hj, hσ⟩
    by_cases hlt : j < l.length
    · have hlt' : (j : Int) < l.length := by omega
      obtain ⟨⟨c, n⟩, hcn⟩ : ∃ p, l[j]? = some p := ⟨_, List.getElem?_eq_getElem hlt⟩
      have hg := acV_get hcn
      have hn := hnn (c, n) (List.mem_of_getElem? hcn)
      simp only at hn
      have hst := turnL_step hcn
      have hms : l.length - ((j : Int) + 1).toNat < l.length - (j : Int).toNat := by
        have e3 : ((j : Int) + 1).toNat = j + 1 := by omega
        rw [e3, Int.toNat_natCast]; exact Nat.sub_lt_sub_left hlt (Nat.lt_succ_self j)
      have hlen2 : (turnL (l.take j)).length ≤ l.length := by unfold turnL; rw [List.length_map]; exact List.length_take_le' _ _
      rcases hσ with ⟨hj0, rfl⟩ | ⟨hj0, rfl⟩
      · subst hj0
        have z0 : ((0 : Nat) : Int) = 0 := rfl
        have hi0 := idx_nat l.length 0 hlt
        rw [z0] at hlt' hi0 hms ⊢
        simp (disch := (first | omega | assumption)) only [hlt', hi0, List.length_map, hg, go_sem, evP_D, evD_guard, evD_cons, evD_zero, evD_nil]
        exact ⟨⟨1, hlt, .inr ⟨by omega, by rw [hst]; rfl⟩⟩, hms⟩
      · simp (disch := (first | omega | assumption)) only [hlt', idx_nat, List.length_map, hg, go_sem, evP_D, evD_guard, evD_cons, evD_zero, evD_nil]
        exact ⟨⟨j + 1, hlt, .inr ⟨by omega, by rw [hst, List.map_append]; rfl⟩⟩, hms⟩
    · have hj' : j = l.length := by omega
      subst hj'
      have hlt' : ¬ ((l.length : Int) < l.length) := by omega
      rcases hσ with ⟨hj0, rfl⟩ | ⟨hj0, rfl⟩
      · omega
      · simp (disch := (first | omega | assumption)) only [hlt', List.take_length, go_sem, evP_D, evD_guard, evD_cons, evD_zero, evD_nil]
end Go.Proofs.YtdmkmbaaemhhhaaGreatDoor
