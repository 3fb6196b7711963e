/-
  Steps of the proof of LogSays: LgS LogSaysW.
-/
import Derived.Test.YtdmkmbaaemhhhaaGreatDoorL28
import Derived.Test.YtdmkmbaaemhhhaaGreatDoorL19
set_option linter.unusedVariables false
set_option linter.unusedSimpArgs false
section
namespace Go.Proofs.YtdmkmbaaemhhhaaGreatDoor
open Go Go.Ev Go.RowKit Go.Acc Go.Lg
set_option maxHeartbeats 4000000
set_option maxRecDepth 20000 in
set_option maxHeartbeats 16000000 in
theorem logsays_sound (x : En) (s : ByteArray) (hk : x.1.size ≤ maxLen) (hl : x.2.2.length ≤ maxLen) (hs : s.size ≤ 67108864) : SoundAt Tryz.prog LgJ 5 [enW x, .str s] (.bool true) [] := by
 have hJ := stableLg
 obtain ⟨k, d, l⟩ := x
 have hW := write_sound (k, d, l)
 have hE := rezF_row (key := k) (day := d) (l := l) hk hl
 have hRd := read_sound s hs
 have hPa := rparse_sound s hs
 rw [lgR_same (rd := rd2) (rd' := rd1) (fun n h0 h1 => rd2_itoa h0 h1) (fun n h0 h1 => rd1_itoa (by omega) (by omega)) s] at hPa
 generalize lgR rd1 s = R at *
 obtain ⟨o, n, er⟩ := R
 obtain ⟨Y, hY, hYY⟩ : ∃ Y, lgV (o, n, er) = .tup [Y, .int .i64 n, .int .i64 er] ∧ sameF [Y, Y] = some (.bool true, []) ∧ ∃ k2 d2 L2, Y = .agg [.str k2, .int .i64 d2, L2] ∧ (L2 = .zero ∨ ∃ l2 : List (ByteArray × Int), L2 = .row 2 (l2.map acV)) := by
  cases o with
  | none => exact ⟨_, rfl, sameF_eq (k := ByteArray.empty) (d := 0) (L := .zero) (M := .zero) (l := []) rfl rfl, _, _, _, rfl, .inl rfl⟩
  | some e =>
   obtain ⟨k2, d2, l2⟩ := e
   exact ⟨_, rfl, sameF_eq (rowAc_row l2) (rowAc_row l2), _, _, _, rfl, .inr ⟨l2, rfl⟩⟩
 rw [hY] at hRd hPa
 clear hY
 obtain ⟨hS, k2, d2, L2, rfl, hL2⟩ := hYY
 rw [enW_mk] at hW ⊢
 have hx0 : enE k d l = enX (k, d, l) := rfl
 rw [hx0] at hE
 generalize hLL : l.map acV = LL at *
 by_cases hx : enX (k, d, l) = 0
 ·have hT := txF_eq hx
  rw [if_pos hx] at hW
  rw [hLL] at hT
  rw [hx] at hE
  have hq := neq_str (txtB (k, d, l)) (txtB (k, d, l))
  rw [decide_eq_true rfl] at hq
  generalize txtB (k, d, l) = T at *
  rcases hL2 with rfl | ⟨l2, rfl⟩
  all_goals
   refine evFn (l := [(20, at1 _ (_, [])), (21, rezF), (22, txF), (23, at1 _ (_, [])), (24, at1 _ (_, [])), (13, sameF)]) (nv := nv0) (fz := fz0) (dr := dr5) (dd := dd5) (lam := []) (ms := ms0) ⟨at1_snd hW, rez_snd hJ, tx_snd hJ, at1_snd hRd, at1_snd hPa, same_snd hJ, trivial⟩ hJ trivial ms0_ok Tryz.func5 rfl rfl (Nat.le_of_ble_eq_true rfl) (Nat.le_of_ble_eq_true rfl) drOk5 ?_
   dsimp only [Tryz.f5, dr5, dd5, Option.getD_some]
   refine ev_start ?_
   simp (disch := omega) only [at1_eq, hE, hT, hq, hS, go_sem, evP_D, evD_guard, evD_cons, evD_zero, evD_nil]
 ·rw [if_neg hx] at hW
  have hq := neq_str ByteArray.empty ByteArray.empty
  rw [decide_eq_true rfl] at hq
  have hxx : ¬ enX (k, d, l) ≠ enX (k, d, l) := fun h => h rfl
  have em : (⟨#[]⟩ : ByteArray) = ByteArray.empty := rfl
  generalize enX (k, d, l) = xx at *
  rcases hL2 with rfl | ⟨l2, rfl⟩
  all_goals
   refine evFn (l := [(20, at1 _ (_, [])), (21, rezF), (23, at1 _ (_, [])), (24, at1 _ (_, [])), (13, sameF)]) (nv := nv0) (fz := fz0) (dr := dr5) (dd := dd5) (lam := []) (ms := ms0) ⟨at1_snd hW, rez_snd hJ, at1_snd hRd, at1_snd hPa, same_snd hJ, trivial⟩ hJ trivial ms0_ok Tryz.func5 rfl rfl (Nat.le_of_ble_eq_true rfl) (Nat.le_of_ble_eq_true rfl) drOk5 ?_
   dsimp only [Tryz.f5, dr5, dd5, Option.getD_some]
   refine ev_start ?_
   simp (disch := omega) only [at1_eq, hE, hx, em, hq, hS, go_sem, evP_D, evD_guard, evD_cons, evD_zero, evD_nil]
end Go.Proofs.YtdmkmbaaemhhhaaGreatDoor
end
section
namespace Go.Proofs.YtdmkmbaaemhhhaaGreatDoor
open Go Go.Ev Go.RowKit Go.Acc
set_option maxRecDepth 100000 in
theorem walkLogSays (c0 : V) (h0 : TyV Tryz.prog 9 28 c0) (c1 : V) (h1 : TyV Tryz.prog 9 9 c1) (hs : ∀ s, c1 = .str s → s.size ≤ 67108864) :
  SoundAt Tryz.prog LgJ 5 [c0, c1] (.bool true) [] := by
 obtain ⟨k, d, l, rfl, hk, hl⟩ := ty_entry (m := 5) h0
 obtain ⟨c, rfl, _⟩ := ty_str (m := 8) h1 Tryz.underlying9
 exact logsays_sound (k, d, l) c hk hl (hs c rfl)
end Go.Proofs.YtdmkmbaaemhhhaaGreatDoor
end
