/-
  Steps of the proof of LogReplays: LgR LgU LogReplaysW.
-/
import Derived.Test.YtdmkmbaaemhhhaaGreatDoorP32
import Derived.Test.YtdmkmbaaemhhhaaGreatDoorP27
import Derived.Test.YtdmkmbaaemhhhaaGreatDoorP47
import Derived.Test.YtdmkmbaaemhhhaaGreatDoorP21
set_option linter.unusedVariables false
set_option linter.unusedSimpArgs false
section
namespace Go.Lg
open Go Go.Acc
theorem lgR_form (rd : ByteArray → Int) (t : ByteArray) : lgR rd t = (none, 0, 8) ∨ (∃ e : Int, e ≠ 0 ∧ e ≠ 8 ∧ lgR rd t = (none, 0, e)) ∨ ∃ x, lgR rd t = (some x, nlAt t + 1, 0) ∧ enX x = 0 ∧ 0 ≤ nlAt t := by
 unfold lgR
 split
 ·exact .inl rfl
 ·rename_i hn
  split
  ·exact .inr (.inl ⟨3, by omega, by omega, rfl⟩)
  ·split
   ·exact .inr (.inl ⟨3, by omega, by omega, rfl⟩)
   ·split
    ·split
     ·rename_i hx
      exact .inr (.inr ⟨_, rfl, hx.1, by omega⟩)
     ·exact .inr (.inl ⟨3, by omega, by omega, rfl⟩)
    ·exact .inr (.inl ⟨7, by omega, by omega, rfl⟩)
theorem nl_empty : nlAt ByteArray.empty = -1 := by rfl
theorem lgR_empty (rd : ByteArray → Int) : lgR rd ByteArray.empty = (none, 0, 8) := by
 unfold lgR
 rw [if_pos (by rw [nl_empty]; omega)]
noncomputable def repG (A : List (ByteArray × Int)) (s : Int) : Nat → List En → ByteArray → Int → Int × List En × Int
 | 0, E, _, n => (0, E, n)
 | f + 1, E, t, n => if (lgR rd1 t).2.2 = 8 then (0, E, n) else match (lgR rd1 t).1 with
  | none => ((lgR rd1 t).2.2, [], 0)
  | some x => if postE A E s x = 0 then repG A s f (postB E x) (t.extract (lgR rd1 t).2.1.toNat t.size) (n + 1) else (postE A E s x, [], 0)
theorem repG_short {A : List (ByteArray × Int)} {s : Int} {f : Nat} {E : List En} {t : ByteArray} {n : Int} (h : lgR rd1 t = (none, 0, 8)) : repG A s f E t n = (0, E, n) := by
 cases f with
 | zero => rfl
 | succ f => unfold repG; rw [h]; rfl
theorem repG_bad {A : List (ByteArray × Int)} {s : Int} {f : Nat} {E : List En} {t : ByteArray} {n e : Int} (he : e ≠ 8) (h : lgR rd1 t = (none, 0, e)) : repG A s (f + 1) E t n = (e, [], 0) := by
 unfold repG; rw [h]; exact if_neg he
theorem repG_some {A : List (ByteArray × Int)} {s : Int} {f : Nat} {E : List En} {t : ByteArray} {n u : Int} {x : En} (h : lgR rd1 t = (some x, u, 0)) : repG A s (f + 1) E t n = if postE A E s x = 0 then repG A s f (postB E x) (t.extract u.toNat t.size) (n + 1) else (postE A E s x, [], 0) := by
 conv => lhs; unfold repG
 rw [h]
 exact if_neg (show ¬ (0 : Int) = 8 by decide)
theorem empty_of {t : ByteArray} (h : t.size = 0) : t = ByteArray.empty := by
 refine ba_ext ?_
 have := Lib.size_eq t
 rw [h] at this
 rw [List.eq_nil_of_length_eq_zero this.symm]
 rfl
end Go.Lg
namespace Go.Proofs.YtdmkmbaaemhhhaaGreatDoor
open Go Go.Ev Go.RowKit Go.Acc Go.Lg
set_option maxHeartbeats 4000000
theorem lgV_some (x : En) (u e : Int) : lgV (some x, u, e) = .tup [enW x, .int .i64 u, .int .i64 e] := rfl
theorem lgV_none (u e : Int) : lgV (none, u, e) = .tup [.agg [.str ByteArray.empty, .int .i64 0, .zero], .int .i64 u, .int .i64 e] := rfl
noncomputable def repE (A : List (ByteArray × Int)) (E : List En) (s : Int) (t : ByteArray) : Int × List En × Int := if 20000 < t.size then (2, [], 0) else repG A s t.size E t 0
def repV (A : List (ByteArray × Int)) (s : Int) (r : Int × List En × Int) : V := .tup [if r.1 = 0 then bkV A r.2.1 s else zbV, .int .i64 r.2.2, .int .i64 r.1]
theorem repV_ok (A : List (ByteArray × Int)) (s : Int) (E : List En) (n : Int) : repV A s (0, E, n) = .tup [.agg [.row 2 (A.map acV), .row 3 (E.map enW), .int .i64 s], .int .i64 n, .int .i64 0] := rfl
theorem repV_bad (A : List (ByteArray × Int)) (s : Int) {e : Int} (h : e ≠ 0) : repV A s (e, [], 0) = .tup [.agg [.zero, .zero, .int .i64 0], .int .i64 0, .int .i64 e] := by unfold repV; rw [if_neg h]; rfl
noncomputable def rdF : List V → Option (V × List Ev.Blk)
 | [.str s] => if s.size ≤ 67108864 then some (lgV (lgR rd1 s), []) else none
 | _ => none
theorem rdF_eq {s : ByteArray} (h : s.size ≤ 67108864) : rdF [.str s] = some (lgV (lgR rd1 s), []) := if_pos h
theorem rd_snd : Snd Tryz.prog LgJ 23 rdF := by
 intro args r bs h
 unfold rdF at h
 split at h
 ·split at h
  ·rename_i s hs
   obtain ⟨rfl, rfl⟩ := some_pair h
   exact read_sound s hs
  ·cases h
 ·cases h
theorem rrd_snd : Snd Tryz.prog LgJ 24 rdF := by
 intro args r bs h
 unfold rdF at h
 split at h
 ·split at h
  ·rename_i s hs
   obtain ⟨rfl, rfl⟩ := some_pair h
   have := rparse_sound s hs
   rwa [lgR_same (rd := rd2) (rd' := rd1) (fun n h0 h1 => rd2_itoa h0 h1) (fun n h0 h1 => rd1_itoa (by omega) (by omega)) s] at this
  ·cases h
 ·cases h
set_option maxRecDepth 20000 in
set_option maxHeartbeats 16000000 in
theorem replay_sound (A : List (ByteArray × Int)) (E : List En) (s : Int) (t : ByteArray) (hE : E.length ≤ maxLen) (ht : t.size ≤ maxLen) : SoundAt Tryz.prog LgJ 27 [bkV A E s, .str t] (if bkChk A E s = 0 then repV A s (repE A E s t) else .tup [zbV, .int .i64 0, .int .i64 (bkChk A E s)]) [] := by
 have hJ := stableLg
 have hB := bcheck_sound hJ A E s hE
 unfold bkV at hB ⊢
 by_cases hz : bkChk A E s = 0
 case neg =>
  rw [if_neg hz]
  unfold zbV
  refine evFn (l := [(11, at1 _ (_, []))]) (nv := nv0) (fz := fz0) (dr := dr27) (dd := dd27) (lam := []) (ms := ms0) ⟨at1_snd hB, trivial⟩ hJ trivial ms0_ok Tryz.func27 rfl rfl (Nat.le_of_ble_eq_true rfl) (Nat.le_of_ble_eq_true rfl) drOk27 ?_
  dsimp only [Tryz.f27, dr27, dd27, Option.getD_some]
  refine ev_start ?_
  simp (disch := omega) only [at1_eq, hz, go_sem, evP_D, evD_guard, evD_cons, evD_zero, evD_nil]
 rw [if_pos hz]
 rw [hz] at hB
 by_cases hlg : 20000 < t.size
 ·have e : repE A E s t = (2, [], 0) := if_pos hlg
  have hlg' : (20000 : Int) < t.size := by omega
  rw [e]
  rw [repV_bad A s (by omega)]
  refine evFn (l := [(11, at1 _ (_, []))]) (nv := nv0) (fz := fz0) (dr := dr27) (dd := dd27) (lam := []) (ms := ms0) ⟨at1_snd hB, trivial⟩ hJ trivial ms0_ok Tryz.func27 rfl rfl (Nat.le_of_ble_eq_true rfl) (Nat.le_of_ble_eq_true rfl) drOk27 ?_
  dsimp only [Tryz.f27, dr27, dd27, Option.getD_some]
  refine ev_start ?_
  simp (disch := omega) only [at1_eq, hlg', go_sem, evP_D, evD_guard, evD_cons, evD_zero, evD_nil]
 have hlg' : ¬ (20000 : Int) < t.size := by omega
 have e : repE A E s t = repG A s t.size E t 0 := if_neg hlg
 have hk := bkChk_ok hz
 have hC := copied_sound hJ A E s (acChk_len hk.1) (fun x hx => (enX_ok (hk.2.2.2 x hx).1).2.1) hk.2.2.1
 unfold bkV at hC
 obtain ⟨PF, hPF, hPFs⟩ := post_ex hJ A s
 rw [e]
 obtain ⟨R, hR⟩ : ∃ R, R = repG A s t.size E t 0 := ⟨_, rfl⟩
 rw [← hR]
 obtain ⟨RV, hRV⟩ : ∃ RV, RV = repV A s R := ⟨_, rfl⟩
 rw [← hRV]
 refine evFn (l := [(11, at1 _ (_, [])), (32, at1 _ (_, [])), (23, rdF), (8, PF)]) (nv := nv0) (fz := fz0) (dr := dr27) (dd := dd27) (lam := []) (ms := ms0) ⟨at1_snd hB, at1_snd hC, rd_snd, hPFs, trivial⟩ hJ trivial ms0_ok Tryz.func27 rfl rfl (Nat.le_of_ble_eq_true rfl) (Nat.le_of_ble_eq_true rfl) drOk27 ?_
 dsimp only [Tryz.f27, dr27, dd27, Option.getD_some]
 refine ev_start ?_
 simp (disch := omega) only [at1_eq, hlg', go_sem, evP_D, evD_guard, evD_cons, evD_zero, evD_nil]
 refine evQ_loop [1, 4, 8, 9] [32, 64] (fun σ => ∃ (u : ByteArray) (E' : List En) (n : Int) (f : Nat), (u.size ≤ f ∧ 0 ≤ n ∧ n + u.size ≤ 20000 ∧ bkChk A E' s = 0 ∧ repG A s f E' u n = R) ∧ σ = ⟨[(1, .str u), (4, .ptr 32 0), (8, .ptr 64 0), (9, .int .i64 n)], [(32, .box (.agg [.zero, .zero, .int .i64 0])), (64, .box (.agg [.row 2 (A.map acV), .row 3 (E'.map enW), .int .i64 s]))]⟩)
  (fun σ => (match Ev.look 1 σ.env with | some (.str u) => u.size | _ => 0)) ?_ ?_
 ·simp only [go_sem, evP_D, evD_guard, evD_cons, evD_zero, evD_nil]
  exact ⟨t, E, 0, t.size, ⟨Nat.le_refl _, Int.le_refl _, by omega, hz, hR.symm⟩, rfl⟩
 ·rintro σ ⟨u, E', n, f, ⟨huf, hn0, hn1, hz', hrun⟩, rfl⟩
  have hq := neq_str u ByteArray.empty
  have em : (⟨#[]⟩ : ByteArray) = ByteArray.empty := rfl
  by_cases hu : u = ByteArray.empty
  ·rw [decide_eq_true hu] at hq
   have hL := lgR_empty rd1
   rw [← hu] at hL
   rw [repG_short hL] at hrun
   subst hrun
   rw [repV_ok] at hRV
   subst hRV
   simp (disch := (first | omega | assumption)) only [em, hq, go_sem, evP_D, evD_guard, evD_cons, evD_zero, evD_nil]
  rw [decide_eq_false hu] at hq
  have hus : 0 < u.size := by
   rcases Nat.eq_zero_or_pos u.size with h | h
   ·exact absurd (empty_of h) hu
   ·exact h
  obtain ⟨f, rfl⟩ : ∃ g, f = g + 1 := ⟨f - 1, by omega⟩
  have hRd := rdF_eq (s := u) (by omega)
  rcases lgR_form rd1 u with hf | ⟨e, he0, he8, hf⟩ | ⟨x, hf, hx, hnl⟩
  ·rw [repG_short hf] at hrun
   subst hrun
   rw [repV_ok] at hRV
   subst hRV
   rw [hf, lgV_none] at hRd
   simp (disch := (first | omega | assumption)) only [em, hq, hRd, go_sem, evP_D, evD_guard, evD_cons, evD_zero, evD_nil]
  ·rw [repG_bad he8 hf] at hrun
   subst hrun
   rw [repV_bad A s he0] at hRV
   subst hRV
   rw [hf, lgV_none] at hRd
   simp (disch := (first | omega | assumption)) only [em, hq, hRd, he0, he8, go_sem, evP_D, evD_guard, evD_cons, evD_zero, evD_nil]
  ·rw [repG_some hf] at hrun
   rw [hf, lgV_some] at hRd
   obtain ⟨xk, xd, xl⟩ := x
   have hlt := nl_lt hnl
   obtain ⟨p, hp⟩ : ∃ p : Nat, nlAt u + 1 = p := ⟨(nlAt u + 1).toNat, by omega⟩
   rw [hp] at hRd hrun
   have p0 : (0 : Int) ≤ p := by omega
   have p1 : (p : Int) ≤ u.size := by omega
   have p2 : (p : Int).toNat = p := by omega
   have p3 : 0 < p := by omega
   rw [p2] at hrun
   have hEl := (bkChk_iff.1 hz').2.2.1
   have hP := hPF E' (xk, xd, xl) (by simp only [maxLen]; omega)
   unfold posR at hP
   rw [enW_mk] at hP hRd
   by_cases h0 : postE A E' s (xk, xd, xl) = 0
   ·rw [if_pos h0] at hrun
    rw [h0, if_pos rfl] at hP
    unfold bkV at hP
    have hz2 := (postE_ok h0).2.2
    have hes : (u.extract p u.size).size = u.size - p := by rw [ByteArray.size_extract]; omega
    simp (disch := (first | omega | assumption)) only [em, hq, hRd, hP, p0, p1, p2, and_self, Int.le_refl, go_sem, evP_D, evD_guard, evD_cons, evD_zero, evD_nil]
    refine ⟨⟨u.extract p u.size, _, n + 1, f, ⟨by omega, by omega, by omega, hz2, hrun⟩, rfl⟩, ?_⟩
    rw [hes]
    omega
   ·rw [if_neg h0] at hrun
    rw [if_neg h0] at hP
    unfold zbV at hP
    subst hrun
    rw [repV_bad A s h0] at hRV
    subst hRV
    generalize postE A E' s (xk, xd, xl) = q at *
    simp (disch := (first | omega | assumption)) only [em, hq, hRd, hP, h0, go_sem, evP_D, evD_guard, evD_cons, evD_zero, evD_nil]
theorem rpost_ex2 {J : World → Prop} (hJ : Stable J) (A : List (ByteArray × Int)) (s : Int) : ∃ F : List V → Option (V × List Ev.Blk), (∀ (E : List En) (x : En), bkChk A E s = 0 → x.1.size ≤ maxLen → x.2.2.length ≤ maxLen → F [.agg [.row 2 (A.map acV), .row 3 (E.map enW), .int .i64 s], enW x] = some (posR A E s x, [])) ∧ Snd Tryz.prog J 14 F := by
 obtain ⟨F, h1, h2⟩ := fam_ex (P := Tryz.prog) (J := J) (f := 14) (fun x : { x : List En × En // bkChk A x.1 s = 0 ∧ x.2.1.size ≤ maxLen ∧ x.2.2.2.length ≤ maxLen } => [bkV A x.1.1 s, enW x.1.2]) (fun x => (posR A x.1.1 s x.1.2, [])) (fun i j h => by
  simp only [List.cons.injEq, bkV, V.agg.injEq, V.row.injEq, true_and, and_true] at h
  rw [enW_inj h.1, enW_inj1 h.2]) fun x => rpost_sound hJ A x.1.1 s x.1.2 x.2.1 x.2.2.1 x.2.2.2
 exact ⟨F, fun E x hz hk hl => h1 ⟨(E, x), hz, hk, hl⟩, h2⟩
set_option maxRecDepth 20000 in
set_option maxHeartbeats 16000000 in
theorem rreplay_sound (A : List (ByteArray × Int)) (E : List En) (s : Int) (t : ByteArray) (hz : bkChk A E s = 0) (ht : t.size ≤ maxLen) : SoundAt Tryz.prog LgJ 28 [bkV A E s, .str t] (repV A s (repE A E s t)) [] := by
 have hJ := stableLg
 by_cases hlg : 20000 < t.size
 ·have e : repE A E s t = (2, [], 0) := if_pos hlg
  have hlg' : (20000 : Int) < t.size := by omega
  rw [e]
  rw [repV_bad A s (by omega)]
  unfold bkV
  refine evFn (l := []) (nv := nv0) (fz := fz0) (dr := dr28) (dd := dd28) (lam := []) (ms := ms0) trivial hJ trivial ms0_ok Tryz.func28 rfl rfl (Nat.le_of_ble_eq_true rfl) (Nat.le_of_ble_eq_true rfl) drOk28 ?_
  dsimp only [Tryz.f28, dr28, dd28, Option.getD_some]
  refine ev_start ?_
  simp (disch := omega) only [hlg', go_sem, evP_D, evD_guard, evD_cons, evD_zero, evD_nil]
 have hlg' : ¬ (20000 : Int) < t.size := by omega
 have e : repE A E s t = repG A s t.size E t 0 := if_neg hlg
 obtain ⟨PF, hPF, hPFs⟩ := rpost_ex2 hJ A s
 rw [e]
 obtain ⟨R, hR⟩ : ∃ R, R = repG A s t.size E t 0 := ⟨_, rfl⟩
 rw [← hR]
 obtain ⟨RV, hRV⟩ : ∃ RV, RV = repV A s R := ⟨_, rfl⟩
 rw [← hRV]
 unfold bkV
 refine evFn (l := [(24, rdF), (14, PF)]) (nv := nv0) (fz := fz0) (dr := dr28) (dd := dd28) (lam := []) (ms := ms0) ⟨rrd_snd, hPFs, trivial⟩ hJ trivial ms0_ok Tryz.func28 rfl rfl (Nat.le_of_ble_eq_true rfl) (Nat.le_of_ble_eq_true rfl) drOk28 ?_
 dsimp only [Tryz.f28, dr28, dd28, Option.getD_some]
 refine ev_start ?_
 simp (disch := omega) only [hlg', go_sem, evP_D, evD_guard, evD_cons, evD_zero, evD_nil]
 refine evQ_loop [1, 2, 4, 7] [16, 32] (fun σ => ∃ (u : ByteArray) (E' : List En) (n : Int) (f : Nat), (u.size ≤ f ∧ 0 ≤ n ∧ n + u.size ≤ 20000 ∧ bkChk A E' s = 0 ∧ repG A s f E' u n = R) ∧ σ = ⟨[(1, .str u), (2, .ptr 16 0), (4, .ptr 32 0), (7, .int .i64 n)], [(16, .box (.agg [.row 2 (A.map acV), .row 3 (E'.map enW), .int .i64 s])), (32, .box (.agg [.zero, .zero, .int .i64 0]))]⟩)
  (fun σ => (match Ev.look 1 σ.env with | some (.str u) => u.size | _ => 0)) ?_ ?_
 ·simp only [go_sem, evP_D, evD_guard, evD_cons, evD_zero, evD_nil]
  exact ⟨t, E, 0, t.size, ⟨Nat.le_refl _, Int.le_refl _, by omega, hz, hR.symm⟩, rfl⟩
 ·rintro σ ⟨u, E', n, f, ⟨huf, hn0, hn1, hz', hrun⟩, rfl⟩
  have em : (⟨#[]⟩ : ByteArray) = ByteArray.empty := rfl
  have hq : binV .eql (.str u) (.str ByteArray.empty) = some (.bool (decide (u = ByteArray.empty))) := by rw [← str_beq]; rfl
  have hRd := rdF_eq (s := u) (by omega)
  by_cases hu : u = ByteArray.empty
  ·rw [decide_eq_true hu] at hq
   have hL := lgR_empty rd1
   rw [← hu] at hL
   rw [repG_short hL] at hrun
   subst hrun
   rw [repV_ok] at hRV
   subst hRV
   rw [hL, lgV_none] at hRd
   simp (disch := (first | omega | assumption)) only [em, hq, hRd, go_sem, evP_D, evD_guard, evD_cons, evD_zero, evD_nil]
  rw [decide_eq_false hu] at hq
  have hus : 0 < u.size := by
   rcases Nat.eq_zero_or_pos u.size with h | h
   ·exact absurd (empty_of h) hu
   ·exact h
  obtain ⟨f, rfl⟩ : ∃ g, f = g + 1 := ⟨f - 1, by omega⟩
  rcases lgR_form rd1 u with hf | ⟨e, he0, he8, hf⟩ | ⟨x, hf, hx, hnl⟩
  ·rw [repG_short hf] at hrun
   subst hrun
   rw [repV_ok] at hRV
   subst hRV
   rw [hf, lgV_none] at hRd
   simp (disch := (first | omega | assumption)) only [em, hq, hRd, go_sem, evP_D, evD_guard, evD_cons, evD_zero, evD_nil]
  ·rw [repG_bad he8 hf] at hrun
   subst hrun
   rw [repV_bad A s he0] at hRV
   subst hRV
   rw [hf, lgV_none] at hRd
   simp (disch := (first | omega | assumption)) only [em, hq, hRd, he0, he8, go_sem, evP_D, evD_guard, evD_cons, evD_zero, evD_nil]
  ·rw [repG_some hf] at hrun
   rw [hf, lgV_some] at hRd
   have hkz := key_size (enX_key hx)
   have hll := (enX_ok hx).2.1
   obtain ⟨xk, xd, xl⟩ := x
   have hlt := nl_lt hnl
   obtain ⟨p, hp⟩ : ∃ p : Nat, nlAt u + 1 = p := ⟨(nlAt u + 1).toNat, by omega⟩
   rw [hp] at hRd hrun
   have p0 : (0 : Int) ≤ p := by omega
   have p1 : (p : Int) ≤ u.size := by omega
   have p2 : (p : Int).toNat = p := by omega
   have p3 : 0 < p := by omega
   rw [p2] at hrun
   have hP := hPF E' (xk, xd, xl) hz' (Nat.le_trans hkz (by simp only [maxLen]; omega)) (Nat.le_trans hll (by simp only [maxLen]; omega))
   unfold posR at hP
   rw [enW_mk] at hP hRd
   by_cases h0 : postE A E' s (xk, xd, xl) = 0
   ·rw [if_pos h0] at hrun
    rw [h0, if_pos rfl] at hP
    unfold bkV at hP
    have hz2 := (postE_ok h0).2.2
    have hes : (u.extract p u.size).size = u.size - p := by rw [ByteArray.size_extract]; omega
    simp (disch := (first | omega | assumption)) only [em, hq, hRd, hP, p0, p1, p2, and_self, Int.le_refl, go_sem, evP_D, evD_guard, evD_cons, evD_zero, evD_nil]
    refine ⟨⟨u.extract p u.size, _, n + 1, f, ⟨by omega, by omega, by omega, hz2, hrun⟩, rfl⟩, ?_⟩
    rw [hes]
    omega
   ·rw [if_neg h0] at hrun
    rw [if_neg h0] at hP
    unfold zbV at hP
    subst hrun
    rw [repV_bad A s h0] at hRV
    subst hRV
    generalize postE A E' s (xk, xd, xl) = q at *
    simp (disch := (first | omega | assumption)) only [em, hq, hRd, hP, h0, go_sem, evP_D, evD_guard, evD_cons, evD_zero, evD_nil]
end Go.Proofs.YtdmkmbaaemhhhaaGreatDoor
end
section
namespace Go.Proofs.YtdmkmbaaemhhhaaGreatDoor
open Go Go.Ev Go.RowKit Go.Acc Go.Lg
set_option maxHeartbeats 4000000
set_option maxRecDepth 20000 in
set_option maxHeartbeats 8000000 in
theorem replay2 : SoundAt Tryz.prog LgJ 27 [.agg [.zero, .zero, .int .i64 (-2)], .str ⟨#[]⟩] (.tup [.agg [.zero, .zero, .int .i64 0], .int .i64 0, .int .i64 1]) [] := by
 have hJ := stableLg
 have hC := bcheck2 hJ
 refine evFn (l := [(11, at1 _ (_, []))]) (nv := nv0) (fz := fz0) (dr := dr27) (dd := dd27) (lam := []) (ms := ms0) ⟨at1_snd hC, trivial⟩ hJ trivial ms0_ok Tryz.func27 rfl rfl (Nat.le_of_ble_eq_true rfl) (Nat.le_of_ble_eq_true rfl) drOk27 ?_
 dsimp only [Tryz.f27, dr27, dd27, Option.getD_some]
 refine ev_start ?_
 simp (disch := omega) only [at1_eq, go_sem, evP_D, evD_guard, evD_cons, evD_zero, evD_nil]
theorem lr_ne2 (A : List (ByteArray × Int)) (E : List En) (s : Int) (t : ByteArray) : [V.agg [.zero, .zero, .int .i64 (-2)], .str ⟨#[]⟩] ≠ [.agg [.row 2 (A.map acV), .row 3 (E.map enW), .int .i64 s], .str t] := by
 intro h
 simp at h
set_option maxRecDepth 20000 in
set_option maxHeartbeats 16000000 in
theorem replays_law (A : List (ByteArray × Int)) (E : List En) (s : Int) (t : ByteArray) (hE : okEn E) (ht : t.size ≤ maxLen) :
  SoundAt Tryz.prog LgJ 7 [bkV A E s, .str t] (.bool true) [] := by
 have hJ := stableLg
 have hR := replay_sound A E s t hE.1 ht
 have hR2 := replay2
 have hB := rbook_sound hJ A E s hE
 have hne := lr_ne2 A E s t
 have tz : ∀ e, toldF [.agg [.zero, .zero, .int .i64 0], .int .i64 e, .agg [.zero, .zero, .int .i64 0], .int .i64 e] = some (.bool true, []) := fun e => toldF_eq (x := .zero) (x' := .zero) (y := .zero) (y' := .zero) (s := 0) (e := e) (A := []) (E := []) rfl rfl rfl rfl
 by_cases hz : bkChk A E s = 0
 case neg =>
  rw [if_neg hz] at hR
  unfold zbV at hR
  unfold bkV at hR hB ⊢
  generalize bkChk A E s = q at *
  have t1 := tz q
  have c1 := at2_l [V.agg [.row 2 (A.map acV), .row 3 (E.map enW), .int .i64 s], .str t] (.tup [.agg [.zero, .zero, .int .i64 0], .int .i64 0, .int .i64 q], []) [V.agg [.zero, .zero, .int .i64 (-2)], .str ⟨#[]⟩] (.tup [.agg [.zero, .zero, .int .i64 0], .int .i64 0, .int .i64 1], [])
  have c2 := at2_r (r := (.tup [.agg [.zero, .zero, .int .i64 0], .int .i64 0, .int .i64 q], [])) (q := (.tup [.agg [.zero, .zero, .int .i64 0], .int .i64 0, .int .i64 1], [])) hne
  refine evFn (l := [(27, at2 _ (.tup [.agg [.zero, .zero, .int .i64 0], .int .i64 0, .int .i64 q], []) _ (.tup [.agg [.zero, .zero, .int .i64 0], .int .i64 0, .int .i64 1], [])), (10, at1 _ (_, [])), (12, toldF)]) (nv := nv0) (fz := fz0) (dr := dr7) (dd := dd7) (lam := []) (ms := ms0) ⟨at2_snd hR hR2, at1_snd hB, told_snd hJ, trivial⟩ hJ trivial ms0_ok Tryz.func7 rfl rfl (Nat.le_of_ble_eq_true rfl) (Nat.le_of_ble_eq_true rfl) drOk7 ?_
  dsimp only [Tryz.f7, dr7, dd7, Option.getD_some]
  refine ev_start ?_
  simp (disch := omega) only [at1_eq, c1, c2, hz, t1, go_sem, evPd, evDg, evDc, evDz, evDn]
 have hRR := rreplay_sound A E s t hz ht
 rw [hz] at hB
 rw [if_pos hz] at hR
 generalize repE A E s t = r at *
 obtain ⟨e, E', n⟩ := r
 by_cases h0 : e = 0
 ·subst h0
  rw [repV_ok] at hR hRR
  have t1 := toldF_eq (s := s) (e := 0) (rowAc_row A) (rowAc_row A) (rowEn_row E') (rowEn_row E')
  unfold bkV at hR hB hRR ⊢
  have c1 := at2_l [V.agg [.row 2 (A.map acV), .row 3 (E.map enW), .int .i64 s], .str t] (.tup [.agg [.row 2 (A.map acV), .row 3 (E'.map enW), .int .i64 s], .int .i64 n, .int .i64 0], []) [V.agg [.zero, .zero, .int .i64 (-2)], .str ⟨#[]⟩] (.tup [.agg [.zero, .zero, .int .i64 0], .int .i64 0, .int .i64 1], [])
  have c2 := at2_r (r := (.tup [.agg [.row 2 (A.map acV), .row 3 (E'.map enW), .int .i64 s], .int .i64 n, .int .i64 0], [])) (q := (.tup [.agg [.zero, .zero, .int .i64 0], .int .i64 0, .int .i64 1], [])) hne
  refine evFn (l := [(27, at2 _ (.tup [.agg [.row 2 (A.map acV), .row 3 (E'.map enW), .int .i64 s], .int .i64 n, .int .i64 0], []) _ (.tup [.agg [.zero, .zero, .int .i64 0], .int .i64 0, .int .i64 1], [])), (10, at1 _ (_, [])), (28, at1 _ (_, [])), (12, toldF)]) (nv := nv0) (fz := fz0) (dr := dr7) (dd := dd7) (lam := []) (ms := ms0) ⟨at2_snd hR hR2, at1_snd hB, at1_snd hRR, told_snd hJ, trivial⟩ hJ trivial ms0_ok Tryz.func7 rfl rfl (Nat.le_of_ble_eq_true rfl) (Nat.le_of_ble_eq_true rfl) drOk7 ?_
  dsimp only [Tryz.f7, dr7, dd7, Option.getD_some]
  refine ev_start ?_
  simp (disch := omega) only [at1_eq, c1, c2, t1, go_sem, evPd, evDg, evDc, evDz, evDn]
 ·have hv : repV A s (e, E', n) = .tup [.agg [.zero, .zero, .int .i64 0], .int .i64 n, .int .i64 e] := by unfold repV; rw [if_neg h0]; rfl
  rw [hv] at hR hRR
  have t1 := tz e
  unfold bkV at hR hB hRR ⊢
  have c1 := at2_l [V.agg [.row 2 (A.map acV), .row 3 (E.map enW), .int .i64 s], .str t] (.tup [.agg [.zero, .zero, .int .i64 0], .int .i64 n, .int .i64 e], []) [V.agg [.zero, .zero, .int .i64 (-2)], .str ⟨#[]⟩] (.tup [.agg [.zero, .zero, .int .i64 0], .int .i64 0, .int .i64 1], [])
  have c2 := at2_r (r := (.tup [.agg [.zero, .zero, .int .i64 0], .int .i64 n, .int .i64 e], [])) (q := (.tup [.agg [.zero, .zero, .int .i64 0], .int .i64 0, .int .i64 1], [])) hne
  refine evFn (l := [(27, at2 _ (.tup [.agg [.zero, .zero, .int .i64 0], .int .i64 n, .int .i64 e], []) _ (.tup [.agg [.zero, .zero, .int .i64 0], .int .i64 0, .int .i64 1], [])), (10, at1 _ (_, [])), (28, at1 _ (_, [])), (12, toldF)]) (nv := nv0) (fz := fz0) (dr := dr7) (dd := dd7) (lam := []) (ms := ms0) ⟨at2_snd hR hR2, at1_snd hB, at1_snd hRR, told_snd hJ, trivial⟩ hJ trivial ms0_ok Tryz.func7 rfl rfl (Nat.le_of_ble_eq_true rfl) (Nat.le_of_ble_eq_true rfl) drOk7 ?_
  dsimp only [Tryz.f7, dr7, dd7, Option.getD_some]
  refine ev_start ?_
  simp (disch := omega) only [at1_eq, c1, c2, t1, go_sem, evPd, evDg, evDc, evDz, evDn]
end Go.Proofs.YtdmkmbaaemhhhaaGreatDoor
end
section
namespace Go.Proofs.YtdmkmbaaemhhhaaGreatDoor
open Go Go.Ev Go.RowKit Go.Acc
set_option maxRecDepth 100000 in
theorem walkLogReplays (c0 : V) (h0 : TyV Tryz.prog 9 25 c0) (c1 : V) (h1 : TyV Tryz.prog 9 9 c1) :
  SoundAt Tryz.prog LgJ 7 [c0, c1] (.bool true) [] := by
 obtain ⟨A, E, s, rfl, hE⟩ := ty_book (m := 3) h0
 obtain ⟨c, rfl, hc⟩ := ty_str (m := 8) h1 Tryz.underlying9
 exact replays_law A E s c hE hc
end Go.Proofs.YtdmkmbaaemhhhaaGreatDoor
end
