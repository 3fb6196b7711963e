/-
  Profit and Sheet, run by the machine.
-/
import Derived.Test.YtcmpjagpggjfiaaGreatDoorT21
set_option linter.unusedVariables false
set_option linter.unusedSimpArgs false
namespace Go.Proofs.YtcmpjagpggjfiaaGreatDoor
open Go Go.Ev Go.RowKit Go.Acc
set_option maxHeartbeats 4000000
theorem tlook_zero {A : List (ByteArray × Int)} {E : List En} {s day : Int} (hz : tlookE A E s day = 0) : bkChk A E s = 0 ∧ 0 ≤ day ∧ day ≤ 292193 := by
 unfold tlookE at hz
 by_cases h : bkChk A E s = 0
 ·rw [if_neg (fun hh => hh h)] at hz
  by_cases hd : 0 ≤ day ∧ day ≤ 292193
  ·exact ⟨h, hd⟩
  ·rw [if_neg hd] at hz; omega
 ·rw [if_pos h] at hz; exact absurd hz h
def profE (A : List (ByteArray × Int)) (E : List En) (s f t : Int) : Int := if tlookE A E s f ≠ 0 then tlookE A E s f else if (0 ≤ t ∧ t ≤ 292193) ∧ f ≤ t then 0 else 1
def profN (A : List (ByteArray × Int)) (E : List En) (s f t : Int) : Int := if profE A E s f t = 0 then -kdS E f t 3 A - kdS E f t 4 A else 0
set_option maxHeartbeats 4000000 in
theorem profit_sound {J : World → Prop} (hJ : Stable J) (A : List (ByteArray × Int)) (E : List En) (s f t : Int) (hE : E.length ≤ maxLen) :
  SoundAt Tryz.prog J 145 [bkV A E s, .int .i64 f, .int .i64 t] (.tup [.int .i64 (profN A E s f t), .int .i64 (profE A E s f t)]) [] := by
 have hL := tlook_sound hJ A E s f hE
 unfold bkV at hL ⊢
 by_cases hz : tlookE A E s f = 0
 case neg =>
  have e1 : profE A E s f t = tlookE A E s f := if_pos hz
  have e2 : profN A E s f t = 0 := by unfold profN; rw [e1, if_neg hz]
  refine evFn (l := [(176, at1 _ (.int .i64 (tlookE A E s f), []))]) (nv := nv0) (fz := fz0) (dr := dr145) (dd := dd145) (lam := []) (ms := ms0) ⟨at1_snd hL, trivial⟩ hJ trivial ms0_ok Tryz.func145 rfl rfl (Nat.le_of_ble_eq_true rfl) (Nat.le_of_ble_eq_true rfl) drOk145 ?_
  dsimp only [Tryz.f145, dr145, dd145, Option.getD_some]
  refine ev_start ?_
  simp (disch := omega) only [at1_eq, hz, e1, e2, go_sem, evP_D, evD_guard, evD_cons, evD_zero, evD_nil]
 by_cases hd : 0 ≤ t ∧ t ≤ 292193
 case neg =>
  have e1 : profE A E s f t = 1 := by unfold profE; rw [if_neg (fun h => h hz), if_neg (fun h => hd h.1)]
  have e2 : profN A E s f t = 0 := by unfold profN; rw [e1]; rfl
  have hd' := decide_eq_false hd
  refine evFn (l := [(176, at1 _ (.int .i64 (tlookE A E s f), [])), (38, dayF)]) (nv := nv0) (fz := fz0) (dr := dr145) (dd := dd145) (lam := []) (ms := ms0) ⟨at1_snd hL, is_snd hJ, trivial⟩ hJ trivial ms0_ok Tryz.func145 rfl rfl (Nat.le_of_ble_eq_true rfl) (Nat.le_of_ble_eq_true rfl) drOk145 ?_
  dsimp only [Tryz.f145, dr145, dd145, Option.getD_some]
  refine ev_start ?_
  simp (disch := omega) only [at1_eq, dayF_eq, hz, hd', e1, e2, go_sem, evP_D, evD_guard, evD_cons, evD_zero, evD_nil]
 by_cases hft : t < f
 ·have e1 : profE A E s f t = 1 := by unfold profE; rw [if_neg (fun h => h hz), if_neg (fun h => by omega)]
  have e2 : profN A E s f t = 0 := by unfold profN; rw [e1]; rfl
  have hd' := decide_eq_true hd
  refine evFn (l := [(176, at1 _ (.int .i64 (tlookE A E s f), [])), (38, dayF)]) (nv := nv0) (fz := fz0) (dr := dr145) (dd := dd145) (lam := []) (ms := ms0) ⟨at1_snd hL, is_snd hJ, trivial⟩ hJ trivial ms0_ok Tryz.func145 rfl rfl (Nat.le_of_ble_eq_true rfl) (Nat.le_of_ble_eq_true rfl) drOk145 ?_
  dsimp only [Tryz.f145, dr145, dd145, Option.getD_some]
  refine ev_start ?_
  simp (disch := omega) only [at1_eq, dayF_eq, hz, hd', hft, e1, e2, go_sem, evP_D, evD_guard, evD_cons, evD_zero, evD_nil]
 have hc := (tlook_zero hz).1
 have hK := kinds_sound hJ A E s f t hc
 obtain ⟨h1, _, h3, h4⟩ := bkChk_ok hc
 have hEn : ∀ x ∈ E, enX x = 0 := fun x hx => (h4 x hx).1
 have hA24 := (acChk_codes h1).1
 have b3 := kdS_bd hEn h3 f t 3 hA24 A.length
 have b4 := kdS_bd hEn h3 f t 4 hA24 A.length
 rw [List.take_length] at b3 b4
 have e1 : profE A E s f t = 0 := by unfold profE; rw [if_neg (fun h => h hz), if_pos ⟨hd, by omega⟩]
 have e2 : profN A E s f t = -kdS E f t 3 A - kdS E f t 4 A := by unfold profN; rw [if_pos e1]
 have hd' := decide_eq_true hd
 unfold bkV kdV at hK
 refine evFn (l := [(176, at1 _ (.int .i64 (tlookE A E s f), [])), (38, dayF), (177, at1 _ (_, []))]) (nv := nv0) (fz := fz0) (dr := dr145) (dd := dd145) (lam := []) (ms := ms0) ⟨at1_snd hL, is_snd hJ, at1_snd hK, trivial⟩ hJ trivial ms0_ok Tryz.func145 rfl rfl (Nat.le_of_ble_eq_true rfl) (Nat.le_of_ble_eq_true rfl) drOk145 ?_
 dsimp only [Tryz.f145, dr145, dd145, Option.getD_some]
 refine ev_start ?_
 simp (disch := omega) only [at1_eq, dayF_eq, hz, hd', hft, e1, e2, idx5_0, idx5_1, idx5_2, idx5_3, idx5_4, Int.zero_sub, go_sem, evP_D, evD_guard, evD_cons, evD_zero, evD_nil]
end Go.Proofs.YtcmpjagpggjfiaaGreatDoor
