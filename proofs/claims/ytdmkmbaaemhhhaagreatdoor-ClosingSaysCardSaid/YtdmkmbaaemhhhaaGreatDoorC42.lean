/-
  Books are closed, as the document says it, run by the machine (written by gen_clr.py).
-/
import Derived.Test.YtdmkmbaaemhhhaaGreatDoorC25
import Derived.Test.YtdmkmbaaemhhhaaGreatDoorC41
set_option linter.unusedVariables false
set_option linter.unusedSimpArgs false
namespace Go.Proofs.YtdmkmbaaemhhhaaGreatDoor
open Go Go.Ev Go.RowKit Go.Acc
set_option maxHeartbeats 4000000
theorem hasA_kind {A : List (ByteArray × Int)} {code : ByteArray} (h : acChk A = 0) : (kindR code A).2 = 0 ↔ hasA A code = true := by
 have e : A.any (isC code) = hasA A code := by
  unfold hasA
  rfl
 unfold kindR
 rw [if_pos h, e]
 cases hasA A code with
 | true => rw [if_pos rfl]; simp
 | false => rw [if_neg (by simp)]; simp
theorem kind_uniq {A : List (ByteArray × Int)} {code : ByteArray} (h : acChk A = 0) (he : (kindR code A).2 = 0) (kd : Int) (hm : (code, kd) ∈ A) : kd = (kindR code A).1 := by
 obtain ⟨i, hi, e1⟩ := List.mem_iff_getElem.1 hm
 obtain ⟨j, hj, e2⟩ := List.mem_iff_getElem.1 (kindR_mem h he)
 have hnd := (acChk_codes h).2.2
 have a1 : A[i].1 = A[j].1 := by rw [e1, e2]
 have : i = j := (List.getElem_inj (h₀ := by simpa using hi) (h₁ := by simpa using hj) hnd).1 (by simpa using a1)
 subst this
 rw [e1] at e2
 exact congrArg Prod.snd e2
def crSt (A : List (ByteArray × Int)) (E : List En) (s : Int) (key : ByteArray) (day : Int) (code : ByteArray) (k : Nat) : List (ByteArray × Int) → St
 | [] => ⟨[(2, .int .i64 day), (3, .str code), (4, .ptr 32 0), (8, .ptr 64 0), (10, .vec 232), (11, .ptr 88 0), (12, .int .i64 (clsS E day (A.take k))), (34, .row 2 (A.map acV)), (35, .int .i64 A.length), (36, .int .i64 k)],
   [(32, .box (.agg [.row 2 (A.map acV), .row 3 (E.map enW), .int .i64 s])), (64, .box (.agg [.zero, .zero, .int .i64 0])), (232, .map (mV (sumsM 0 day E))), (88, .box (.agg [.str key, .int .i64 day, .zero]))]⟩
 | p :: r => ⟨[(2, .int .i64 day), (3, .str code), (4, .ptr 32 0), (8, .ptr 64 0), (10, .vec 232), (11, .ptr 88 0), (12, .int .i64 (clsS E day (A.take k))), (34, .row 2 (A.map acV)), (35, .int .i64 A.length), (36, .int .i64 k)],
   [(32, .box (.agg [.row 2 (A.map acV), .row 3 (E.map enW), .int .i64 s])), (64, .box (.agg [.zero, .zero, .int .i64 0])), (232, .map (mV (sumsM 0 day E))), (88, .box (.agg [.str key, .int .i64 day, .vec 568])), (568, .vec 61 2 ((p :: r).map acV))]⟩
set_option maxRecDepth 20000 in
set_option maxHeartbeats 16000000 in
theorem rclose_sound {J : World → Prop} (hJ : Stable J) (A : List (ByteArray × Int)) (E : List En) (s : Int) (key : ByteArray) (day : Int) (code : ByteArray) (hE : E.length ≤ maxLen) (hz : bkChk A E s = 0) (hkx : key.size ≤ maxLen) :
  SoundAt Tryz.prog J 18 [bkV A E s, .str key, .int .i64 day, .str code] (clV A E s key day code) [] := by
 obtain ⟨h1, _, h3, h4⟩ := bkChk_ok hz
 have hEn : ∀ x ∈ E, enX x = 0 := fun x hx => (h4 x hx).1
 obtain ⟨hA24, hkds, hnd⟩ := acChk_codes h1
 have hSu := sums_sound hJ A E s 0 day hEn h3
 have hS := clsS_bd hEn h3 day
 have hH := hasF_eq A code
 unfold bkV at hSu ⊢
 by_cases hd : 0 ≤ day ∧ day ≤ 292193
 case neg =>
  have e1 : clE A E s key day code = 1 := by unfold clE; rw [if_neg (fun h => h hz), if_pos hd]
  have eR : clV A E s key day code = .tup [.agg [.zero, .zero, .int .i64 0], .int .i64 1] := by unfold clV; rw [e1]; rfl
  have hd' := decide_eq_false hd
  rw [eR]
  refine evFn (l := [(39, dayF)]) (nv := nv0) (fz := fz0) (dr := dr18) (dd := dd18) (lam := []) (ms := ms0) ⟨day_snd hJ, trivial⟩ hJ trivial ms0_ok Tryz.func18 rfl rfl (Nat.le_of_ble_eq_true rfl) (Nat.le_of_ble_eq_true rfl) drOk18 ?_
  dsimp only [Tryz.f18, dr18, dd18, Option.getD_some]
  refine ev_start ?_
  simp (disch := omega) only [dayF_eq, hd', go_sem, evP_D, evD_guard, evD_cons, evD_zero, evD_nil]
 have hd' := decide_eq_true hd
 cases hha : hasA A code with
 | false =>
  have hk0 : ¬ (kindR code A).2 = 0 := fun h => by rw [(hasA_kind h1).1 h] at hha; cases hha
  have e4 : (kindR code A).2 = 4 := by
   unfold kindR
   rw [if_pos h1, if_neg (by show ¬ hasA A code = true; rw [hha]; simp)]
  have e1 : clE A E s key day code = 4 := by unfold clE; rw [if_neg (fun h => h hz), if_neg (fun h => h hd), if_pos hk0, e4]
  have eR : clV A E s key day code = .tup [.agg [.zero, .zero, .int .i64 0], .int .i64 4] := by unfold clV; rw [e1]; rfl
  rw [hha] at hH
  rw [eR]
  refine evFn (l := [(39, dayF), (40, hasF)]) (nv := nv0) (fz := fz0) (dr := dr18) (dd := dd18) (lam := []) (ms := ms0) ⟨day_snd hJ, has_snd hJ, trivial⟩ hJ trivial ms0_ok Tryz.func18 rfl rfl (Nat.le_of_ble_eq_true rfl) (Nat.le_of_ble_eq_true rfl) drOk18 ?_
  dsimp only [Tryz.f18, dr18, dd18, Option.getD_some]
  refine ev_start ?_
  simp (disch := omega) only [dayF_eq, hd', hH, go_sem, evP_D, evD_guard, evD_cons, evD_zero, evD_nil]
 | true =>
 rw [hha] at hH
 have hk0 : (kindR code A).2 = 0 := (hasA_kind h1).2 hha
 have hcode := kind_uniq h1 hk0
 by_cases hk2 : (kindR code A).1 = 2
 case neg =>
  have e1 : clE A E s key day code = 3 := by unfold clE; rw [if_neg (fun h => h hz), if_neg (fun h => h hd), if_neg (fun h => h hk0), if_pos hk2]
  have eR : clV A E s key day code = .tup [.agg [.zero, .zero, .int .i64 0], .int .i64 3] := by unfold clV; rw [e1]; rfl
  rw [eR]
  refine evFn (l := [(39, dayF), (40, hasF), (52, at1 _ (.vec 0, [.map (mV (sumsM 0 day E))]))]) (nv := nv0) (fz := fz0) (dr := dr18) (dd := dd18) (lam := []) (ms := ms0) ⟨day_snd hJ, has_snd hJ, at1_snd hSu, trivial⟩ hJ trivial ms0_ok Tryz.func18 rfl rfl (Nat.le_of_ble_eq_true rfl) (Nat.le_of_ble_eq_true rfl) drOk18 ?_
  dsimp only [Tryz.f18, dr18, dd18, Option.getD_some]
  refine ev_start ?_
  simp (disch := omega) only [at1_eq, hH, dayF_eq, hd', List.length_map, go_sem, evP_D, evD_guard, evD_cons, evD_zero, evD_nil]
  refine evQ_loop [2, 3, 4, 8, 10, 11, 12, 34, 35, 36] [32, 64, 232, 88, 568] (fun σ => ∃ (k : Nat), (k ≤ A.length ∧ ∀ (j : Nat) (p : ByteArray × Int), j < k → A[j]? = some p → p.1 ≠ code) ∧ σ = crSt A E s key day code k (clsL E day (A.take k)))
   (fun σ => A.length - (match Ev.look 36 σ.env with | some (.int _ n) => n.toNat | _ => 0)) ?_ ?_
  ·simp only [go_sem, evP_D, evD_guard, evD_cons, evD_zero, evD_nil]
   exact ⟨0, ⟨Nat.zero_le _, fun _ _ h => by omega⟩, rfl⟩
  ·rintro σ ⟨k, ⟨hkl, hinv⟩, rfl⟩
   by_cases hlt : k < A.length
   case neg =>
    have hk' : k = A.length := by omega
    subst hk'
    have hlt' : ¬ ((A.length : Int) < A.length) := by omega
    rw [List.take_length]
    exfalso
    obtain ⟨j, hj⟩ := List.mem_iff_getElem?.1 (kindR_mem h1 hk0)
    exact hinv j _ (List.getElem?_eq_some_iff.1 hj).1 hj rfl
   have hlt' : (k : Int) < A.length := by omega
   obtain ⟨⟨c, kd⟩, hcn⟩ : ∃ p, A[k]? = some p := ⟨_, List.getElem?_eq_getElem hlt⟩
   have hmem := List.mem_of_getElem? hcn
   have hg := acV_get hcn
   have hkd := hkds _ hmem
   simp only at hkd
   have hO := lookM_sums c 0 day E
   have hF := find_mV c (sumsM 0 day E)
   have hb := ofB_bd c 0 day hEn h3
   have hL1 := clsL_succ (E := E) (day := day) hcn
   have hS1 := clsS_succ (E := E) (day := day) hcn
   have hsb : -17280000000000000 ≤ clsS E day (A.take k) ∧ clsS E day (A.take k) ≤ 17280000000000000 := by
    have h1 := hS (A.take k)
    have h2 : (A.take k).length ≤ 24 := by rw [List.length_take]; omega
    omega
   have hll := clsL_len E day A k
   have hms : A.length - ((k : Int) + 1).toNat < A.length - (k : Int).toNat := by
    have e3 : ((k : Int) + 1).toNat = k + 1 := by omega
    rw [e3, Int.toNat_natCast]; exact Nat.sub_lt_sub_left hlt (Nat.lt_succ_self k)
   by_cases hc : c = code
   ·have hc' := decide_eq_true hc
    have hk2' : ¬ kd = 2 := fun e => hk2 (by rw [← hcode kd (by rw [← hc]; exact hmem)]; exact e)
    cases hL : clsL E day (A.take k) with
    | nil =>
     unfold crSt
     simp (disch := (first | omega | assumption)) only [hlt', idx_nat, List.length_map, hg, bin_eql_str, hc', hk2', go_sem, evP_D, evD_guard, evD_cons, evD_zero, evD_nil]
    | cons p r =>
     unfold crSt
     simp (disch := (first | omega | assumption)) only [hlt', idx_nat, List.length_map, hg, bin_eql_str, hc', hk2', go_sem, evP_D, evD_guard, evD_cons, evD_zero, evD_nil]
   have hc' := decide_eq_false hc
   by_cases hgt : 2 < kd
   case neg =>
    have hcb : clsB E day (c, kd) = false := by
     unfold clsB
     rw [decide_eq_false (show ¬ kd = 3 by omega), decide_eq_false (show ¬ kd = 4 by omega)]
     simp
    rw [hcb] at hL1 hS1
    simp only [Bool.false_eq_true, if_false, List.append_nil, Int.add_zero] at hL1 hS1
    cases hL : clsL E day (A.take k) with
    | nil =>
     rw [hL] at hL1
     unfold crSt
     simp (disch := (first | omega | assumption)) only [hlt', idx_nat, List.length_map, hg, bin_eql_str, hc', hgt, go_sem, evP_D, evD_guard, evD_cons, evD_zero, evD_nil]
     exact ⟨⟨k + 1, ⟨hlt, fun j p hj hp => by
      by_cases e : j = k
      ·subst e; rw [hcn] at hp; cases hp; exact hc
      ·exact hinv j p (by omega) hp⟩, by rw [hL1]; simp only [crSt, hS1]; rfl⟩, hms⟩
    | cons p r =>
     rw [hL] at hL1
     unfold crSt
     simp (disch := (first | omega | assumption)) only [hlt', idx_nat, List.length_map, hg, bin_eql_str, hc', hgt, go_sem, evP_D, evD_guard, evD_cons, evD_zero, evD_nil]
     exact ⟨⟨k + 1, ⟨hlt, fun j p hj hp => by
      by_cases e : j = k
      ·subst e; rw [hcn] at hp; cases hp; exact hc
      ·exact hinv j p (by omega) hp⟩, by rw [hL1]; simp only [crSt, hS1]; rfl⟩, hms⟩
   by_cases hn : ofB c 0 day E = 0
   ·have hcb : clsB E day (c, kd) = false := by simp [clsB, hn]
    rw [hcb] at hL1 hS1
    simp only [Bool.false_eq_true, if_false, List.append_nil, Int.add_zero] at hL1 hS1
    cases hv : lookM c (sumsM 0 day E) with
    | none =>
     rw [hv] at hF
     simp only [Option.map_none] at hF
     cases hL : clsL E day (A.take k) with
     | nil =>
      rw [hL] at hL1
      unfold crSt
      simp (disch := (first | omega | assumption)) only [hlt', idx_nat, List.length_map, hg, bin_eql_str, hc', hgt, hF, go_sem, evP_D, evD_guard, evD_cons, evD_zero, evD_nil]
      exact ⟨⟨k + 1, ⟨hlt, fun j p hj hp => by
      by_cases e : j = k
      ·subst e; rw [hcn] at hp; cases hp; exact hc
      ·exact hinv j p (by omega) hp⟩, by rw [hL1]; simp only [crSt, hS1]; rfl⟩, hms⟩
     | cons p r =>
      rw [hL] at hL1
      unfold crSt
      simp (disch := (first | omega | assumption)) only [hlt', idx_nat, List.length_map, hg, bin_eql_str, hc', hgt, hF, go_sem, evP_D, evD_guard, evD_cons, evD_zero, evD_nil]
      exact ⟨⟨k + 1, ⟨hlt, fun j p hj hp => by
      by_cases e : j = k
      ·subst e; rw [hcn] at hp; cases hp; exact hc
      ·exact hinv j p (by omega) hp⟩, by rw [hL1]; simp only [crSt, hS1]; rfl⟩, hms⟩
    | some v =>
     rw [hv] at hF hO
     simp only [Option.map_some] at hF
     simp only [Option.getD_some] at hO
     have hv0 : v = 0 := by omega
     subst hv0
     cases hL : clsL E day (A.take k) with
     | nil =>
      rw [hL] at hL1
      unfold crSt
      simp (disch := (first | omega | assumption)) only [hlt', idx_nat, List.length_map, hg, bin_eql_str, hc', hgt, hF, go_sem, evP_D, evD_guard, evD_cons, evD_zero, evD_nil]
      exact ⟨⟨k + 1, ⟨hlt, fun j p hj hp => by
      by_cases e : j = k
      ·subst e; rw [hcn] at hp; cases hp; exact hc
      ·exact hinv j p (by omega) hp⟩, by rw [hL1]; simp only [crSt, hS1]; rfl⟩, hms⟩
     | cons p r =>
      rw [hL] at hL1
      unfold crSt
      simp (disch := (first | omega | assumption)) only [hlt', idx_nat, List.length_map, hg, bin_eql_str, hc', hgt, hF, go_sem, evP_D, evD_guard, evD_cons, evD_zero, evD_nil]
      exact ⟨⟨k + 1, ⟨hlt, fun j p hj hp => by
      by_cases e : j = k
      ·subst e; rw [hcn] at hp; cases hp; exact hc
      ·exact hinv j p (by omega) hp⟩, by rw [hL1]; simp only [crSt, hS1]; rfl⟩, hms⟩
   ·have hcb : clsB E day (c, kd) = true := by
     have : kd = 3 ∨ kd = 4 := by omega
     unfold clsB
     rcases this with rfl | rfl <;> simp [hn]
    rw [hcb] at hL1 hS1
    simp only [if_true] at hL1 hS1
    cases hv : lookM c (sumsM 0 day E) with
    | none =>
     rw [hv] at hO
     simp only [Option.getD_none] at hO
     exact absurd hO.symm hn
    | some v =>
     rw [hv] at hF hO
     simp only [Option.map_some] at hF
     simp only [Option.getD_some] at hO
     rw [← hO] at hn hL1 hS1 hb
     cases hL : clsL E day (A.take k) with
     | nil =>
      rw [hL] at hL1 hll
      unfold crSt
      simp (disch := (first | omega | assumption)) only [hlt', idx_nat, List.length_map, hg, bin_eql_str, hc', hgt, hF, hn, Int.zero_sub, go_sem, evP_D, evD_guard, evD_cons, evD_zero, evD_nil]
      exact ⟨⟨k + 1, ⟨hlt, fun j p hj hp => by
      by_cases e : j = k
      ·subst e; rw [hcn] at hp; cases hp; exact hc
      ·exact hinv j p (by omega) hp⟩, by rw [hL1]; simp only [crSt, hS1]; rfl⟩, hms⟩
     | cons p r =>
      rw [hL] at hL1 hll
      rw [List.length_cons] at hll
      unfold crSt
      simp (disch := (first | omega | assumption)) only [hlt', idx_nat, List.length_map, List.length_append, List.length_cons, List.length_nil, hg, bin_eql_str, hc', hgt, hF, hn, Int.zero_sub, go_sem, evP_D, evD_guard, evD_cons, evD_zero, evD_nil]
      exact ⟨⟨k + 1, ⟨hlt, fun j p hj hp => by
      by_cases e : j = k
      ·subst e; rw [hcn] at hp; cases hp; exact hc
      ·exact hinv j p (by omega) hp⟩, by rw [hL1]; simp only [crSt, hS1, List.cons_append, List.map_cons, List.map_append]; rfl⟩, hms⟩
 rw [hk2] at hcode
 have e0 : clE A E s key day code = if clsL E day A = [] then 4 else if postE A E s (clsX key E day code A) ≠ 0 then postE A E s (clsX key E day code A) else if day < s then 9 else 0 := by
  unfold clE
  rw [if_neg (fun h => h hz), if_neg (fun h => h hd), if_neg (fun h => h hk0), if_neg (fun h => h hk2)]
 obtain ⟨X, hX⟩ : ∃ X, X = clsX key E day code A := ⟨_, rfl⟩
 have hXlen : X.2.2.length ≤ 25 := by
  have := clsL_len E day A A.length
  rw [List.take_length] at this
  rw [hX]
  show (clsL E day A ++ _).length ≤ 25
  rw [List.length_append]
  split <;> simp <;> omega
 have hPo := rpost_sound hJ A E s X hz (by rw [hX]; exact hkx) (by simp only [maxLen]; omega)
 rw [← hX] at e0
 have hposE : ∀ q, postE A E s X = q → SoundAt Tryz.prog J 14 [.agg [.row 2 (A.map acV), .row 3 (E.map enW), .int .i64 s], .agg [.str key, .int .i64 day, .row 2 (X.2.2.map acV)]] (.tup [if q = 0 then bkV A (postB E X) s else zbV, .int .i64 q]) [] := fun q hq => by
  subst hq
  have e : enW X = .agg [.str key, .int .i64 day, .row 2 (X.2.2.map acV)] := by rw [hX]; rfl
  rw [e] at hPo
  exact hPo
 by_cases hnil : clsL E day A = []
 ·have e1 : clE A E s key day code = 4 := by rw [e0, if_pos hnil]
  have eR : clV A E s key day code = .tup [.agg [.zero, .zero, .int .i64 0], .int .i64 4] := by unfold clV; rw [e1]; rfl
  rw [eR]
  refine evFn (l := [(39, dayF), (40, hasF), (52, at1 _ (.vec 0, [.map (mV (sumsM 0 day E))]))]) (nv := nv0) (fz := fz0) (dr := dr18) (dd := dd18) (lam := []) (ms := ms0) ⟨day_snd hJ, has_snd hJ, at1_snd hSu, trivial⟩ hJ trivial ms0_ok Tryz.func18 rfl rfl (Nat.le_of_ble_eq_true rfl) (Nat.le_of_ble_eq_true rfl) drOk18 ?_
  dsimp only [Tryz.f18, dr18, dd18, Option.getD_some]
  refine ev_start ?_
  simp (disch := omega) only [at1_eq, hH, dayF_eq, hd', List.length_map, go_sem, evP_D, evD_guard, evD_cons, evD_zero, evD_nil]
  refine evQ_loop [2, 3, 4, 8, 10, 11, 12, 34, 35, 36] [32, 64, 232, 88, 568] (fun σ => ∃ (k : Nat), (k ≤ A.length ∧ k ≤ A.length) ∧ σ = crSt A E s key day code k (clsL E day (A.take k)))
   (fun σ => A.length - (match Ev.look 36 σ.env with | some (.int _ n) => n.toNat | _ => 0)) ?_ ?_
  ·simp only [go_sem, evP_D, evD_guard, evD_cons, evD_zero, evD_nil]
   exact ⟨0, ⟨Nat.zero_le _, Nat.zero_le _⟩, rfl⟩
  ·rintro σ ⟨k, ⟨hkl, hinv⟩, rfl⟩
   by_cases hlt : k < A.length
   case neg =>
    have hk' : k = A.length := by omega
    subst hk'
    have hlt' : ¬ ((A.length : Int) < A.length) := by omega
    rw [List.take_length]
    rw [hnil]
    unfold crSt
    simp (disch := (first | omega | assumption)) only [hlt', go_sem, evP_D, evD_guard, evD_cons, evD_zero, evD_nil]
   have hlt' : (k : Int) < A.length := by omega
   obtain ⟨⟨c, kd⟩, hcn⟩ : ∃ p, A[k]? = some p := ⟨_, List.getElem?_eq_getElem hlt⟩
   have hmem := List.mem_of_getElem? hcn
   have hg := acV_get hcn
   have hkd := hkds _ hmem
   simp only at hkd
   have hO := lookM_sums c 0 day E
   have hF := find_mV c (sumsM 0 day E)
   have hb := ofB_bd c 0 day hEn h3
   have hL1 := clsL_succ (E := E) (day := day) hcn
   have hS1 := clsS_succ (E := E) (day := day) hcn
   have hsb : -17280000000000000 ≤ clsS E day (A.take k) ∧ clsS E day (A.take k) ≤ 17280000000000000 := by
    have h1 := hS (A.take k)
    have h2 : (A.take k).length ≤ 24 := by rw [List.length_take]; omega
    omega
   have hll := clsL_len E day A k
   have hms : A.length - ((k : Int) + 1).toNat < A.length - (k : Int).toNat := by
    have e3 : ((k : Int) + 1).toNat = k + 1 := by omega
    rw [e3, Int.toNat_natCast]; exact Nat.sub_lt_sub_left hlt (Nat.lt_succ_self k)
   by_cases hc : c = code
   ·have hc' := decide_eq_true hc
    have hk2' : kd = 2 := hcode kd (by rw [← hc]; exact hmem)
    subst hk2'
    have hcb : clsB E day (c, 2) = false := by simp [clsB]
    rw [hcb] at hL1 hS1
    simp only [Bool.false_eq_true, if_false, List.append_nil, Int.add_zero] at hL1 hS1
    cases hL : clsL E day (A.take k) with
    | nil =>
     rw [hL] at hL1
     unfold crSt
     simp (disch := (first | omega | assumption)) only [hlt', idx_nat, List.length_map, hg, bin_eql_str, hc', go_sem, evP_D, evD_guard, evD_cons, evD_zero, evD_nil]
     exact ⟨⟨k + 1, ⟨hlt, hlt⟩, by rw [hL1]; simp only [crSt, hS1]; rfl⟩, hms⟩
    | cons p r =>
     rw [hL] at hL1
     unfold crSt
     simp (disch := (first | omega | assumption)) only [hlt', idx_nat, List.length_map, hg, bin_eql_str, hc', go_sem, evP_D, evD_guard, evD_cons, evD_zero, evD_nil]
     exact ⟨⟨k + 1, ⟨hlt, hlt⟩, by rw [hL1]; simp only [crSt, hS1]; rfl⟩, hms⟩
   have hc' := decide_eq_false hc
   by_cases hgt : 2 < kd
   case neg =>
    have hcb : clsB E day (c, kd) = false := by
     unfold clsB
     rw [decide_eq_false (show ¬ kd = 3 by omega), decide_eq_false (show ¬ kd = 4 by omega)]
     simp
    rw [hcb] at hL1 hS1
    simp only [Bool.false_eq_true, if_false, List.append_nil, Int.add_zero] at hL1 hS1
    cases hL : clsL E day (A.take k) with
    | nil =>
     rw [hL] at hL1
     unfold crSt
     simp (disch := (first | omega | assumption)) only [hlt', idx_nat, List.length_map, hg, bin_eql_str, hc', hgt, go_sem, evP_D, evD_guard, evD_cons, evD_zero, evD_nil]
     exact ⟨⟨k + 1, ⟨hlt, hlt⟩, by rw [hL1]; simp only [crSt, hS1]; rfl⟩, hms⟩
    | cons p r =>
     rw [hL] at hL1
     unfold crSt
     simp (disch := (first | omega | assumption)) only [hlt', idx_nat, List.length_map, hg, bin_eql_str, hc', hgt, go_sem, evP_D, evD_guard, evD_cons, evD_zero, evD_nil]
     exact ⟨⟨k + 1, ⟨hlt, hlt⟩, by rw [hL1]; simp only [crSt, hS1]; rfl⟩, hms⟩
   by_cases hn : ofB c 0 day E = 0
   ·have hcb : clsB E day (c, kd) = false := by simp [clsB, hn]
    rw [hcb] at hL1 hS1
    simp only [Bool.false_eq_true, if_false, List.append_nil, Int.add_zero] at hL1 hS1
    cases hv : lookM c (sumsM 0 day E) with
    | none =>
     rw [hv] at hF
     simp only [Option.map_none] at hF
     cases hL : clsL E day (A.take k) with
     | nil =>
      rw [hL] at hL1
      unfold crSt
      simp (disch := (first | omega | assumption)) only [hlt', idx_nat, List.length_map, hg, bin_eql_str, hc', hgt, hF, go_sem, evP_D, evD_guard, evD_cons, evD_zero, evD_nil]
      exact ⟨⟨k + 1, ⟨hlt, hlt⟩, by rw [hL1]; simp only [crSt, hS1]; rfl⟩, hms⟩
     | cons p r =>
      rw [hL] at hL1
      unfold crSt
      simp (disch := (first | omega | assumption)) only [hlt', idx_nat, List.length_map, hg, bin_eql_str, hc', hgt, hF, go_sem, evP_D, evD_guard, evD_cons, evD_zero, evD_nil]
      exact ⟨⟨k + 1, ⟨hlt, hlt⟩, by rw [hL1]; simp only [crSt, hS1]; rfl⟩, hms⟩
    | some v =>
     rw [hv] at hF hO
     simp only [Option.map_some] at hF
     simp only [Option.getD_some] at hO
     have hv0 : v = 0 := by omega
     subst hv0
     cases hL : clsL E day (A.take k) with
     | nil =>
      rw [hL] at hL1
      unfold crSt
      simp (disch := (first | omega | assumption)) only [hlt', idx_nat, List.length_map, hg, bin_eql_str, hc', hgt, hF, go_sem, evP_D, evD_guard, evD_cons, evD_zero, evD_nil]
      exact ⟨⟨k + 1, ⟨hlt, hlt⟩, by rw [hL1]; simp only [crSt, hS1]; rfl⟩, hms⟩
     | cons p r =>
      rw [hL] at hL1
      unfold crSt
      simp (disch := (first | omega | assumption)) only [hlt', idx_nat, List.length_map, hg, bin_eql_str, hc', hgt, hF, go_sem, evP_D, evD_guard, evD_cons, evD_zero, evD_nil]
      exact ⟨⟨k + 1, ⟨hlt, hlt⟩, by rw [hL1]; simp only [crSt, hS1]; rfl⟩, hms⟩
   ·have hcb : clsB E day (c, kd) = true := by
     have : kd = 3 ∨ kd = 4 := by omega
     unfold clsB
     rcases this with rfl | rfl <;> simp [hn]
    rw [hcb] at hL1 hS1
    simp only [if_true] at hL1 hS1
    cases hv : lookM c (sumsM 0 day E) with
    | none =>
     rw [hv] at hO
     simp only [Option.getD_none] at hO
     exact absurd hO.symm hn
    | some v =>
     rw [hv] at hF hO
     simp only [Option.map_some] at hF
     simp only [Option.getD_some] at hO
     rw [← hO] at hn hL1 hS1 hb
     cases hL : clsL E day (A.take k) with
     | nil =>
      rw [hL] at hL1 hll
      unfold crSt
      simp (disch := (first | omega | assumption)) only [hlt', idx_nat, List.length_map, hg, bin_eql_str, hc', hgt, hF, hn, Int.zero_sub, go_sem, evP_D, evD_guard, evD_cons, evD_zero, evD_nil]
      exact ⟨⟨k + 1, ⟨hlt, hlt⟩, by rw [hL1]; simp only [crSt, hS1]; rfl⟩, hms⟩
     | cons p r =>
      rw [hL] at hL1 hll
      rw [List.length_cons] at hll
      unfold crSt
      simp (disch := (first | omega | assumption)) only [hlt', idx_nat, List.length_map, List.length_append, List.length_cons, List.length_nil, hg, bin_eql_str, hc', hgt, hF, hn, Int.zero_sub, go_sem, evP_D, evD_guard, evD_cons, evD_zero, evD_nil]
      exact ⟨⟨k + 1, ⟨hlt, hlt⟩, by rw [hL1]; simp only [crSt, hS1, List.cons_append, List.map_cons, List.map_append]; rfl⟩, hms⟩
 rw [if_neg hnil] at e0
 by_cases hq : postE A E s X = 0
 case neg =>
  rw [if_pos hq] at e0
  have eR : clV A E s key day code = .tup [.agg [.zero, .zero, .int .i64 0], .int .i64 (postE A E s X)] := by unfold clV; rw [e0, if_neg hq]; rfl
  have hP := hposE _ rfl
  rw [if_neg hq] at hP
  unfold zbV at hP
  rw [eR]
  generalize postE A E s X = q at *
  refine evFn (l := [(39, dayF), (40, hasF), (52, at1 _ (.vec 0, [.map (mV (sumsM 0 day E))])), (14, at1 _ (_, []))]) (nv := nv0) (fz := fzL [(98, [568])]) (dr := dr18) (dd := dd18) (lam := []) (ms := ms0) ⟨day_snd hJ, has_snd hJ, at1_snd hSu, at1_snd hP, trivial⟩ hJ trivial ms0_ok Tryz.func18 rfl rfl (Nat.le_of_ble_eq_true rfl) (Nat.le_of_ble_eq_true rfl) drOk18 ?_
  dsimp only [Tryz.f18, dr18, dd18, Option.getD_some]
  refine ev_start ?_
  simp (disch := omega) only [at1_eq, hH, dayF_eq, hd', List.length_map, go_sem, evP_D, evD_guard, evD_cons, evD_zero, evD_nil]
  refine evQ_loop [2, 3, 4, 8, 10, 11, 12, 34, 35, 36] [32, 64, 232, 88, 568] (fun σ => ∃ (k : Nat), (k ≤ A.length ∧ k ≤ A.length) ∧ σ = crSt A E s key day code k (clsL E day (A.take k)))
   (fun σ => A.length - (match Ev.look 36 σ.env with | some (.int _ n) => n.toNat | _ => 0)) ?_ ?_
  ·simp only [go_sem, evP_D, evD_guard, evD_cons, evD_zero, evD_nil]
   exact ⟨0, ⟨Nat.zero_le _, Nat.zero_le _⟩, rfl⟩
  ·rintro σ ⟨k, ⟨hkl, hinv⟩, rfl⟩
   by_cases hlt : k < A.length
   case neg =>
    have hk' : k = A.length := by omega
    subst hk'
    have hlt' : ¬ ((A.length : Int) < A.length) := by omega
    rw [List.take_length]
    obtain ⟨p, r, hpr⟩ : ∃ p r, clsL E day A = p :: r := by
     cases h : clsL E day A with
     | nil => exact absurd h hnil
     | cons p r => exact ⟨p, r, rfl⟩
    have hll : r.length ≤ 24 := by
     have := clsL_len E day A A.length
     rw [List.take_length, hpr, List.length_cons] at this
     omega
    have hXl : X.2.2 = clsL E day A ++ if clsS E day A ≠ 0 then [(code, clsS E day A)] else [] := by rw [hX]; rfl
    have hsb : -17280000000000000 ≤ clsS E day A ∧ clsS E day A ≤ 17280000000000000 := by
     have h1 := hS A
     omega
    have hrl : ¬ (((r.length + 1 : Nat) : Int) = 0) := by omega
    rw [hpr]
    unfold crSt
    rw [List.take_length]
    by_cases hs0 : clsS E day A = 0
    ·have hX2 : X.2.2.map acV = (p :: r).map acV := by rw [hXl, hpr, if_neg (fun h => h hs0), List.append_nil]
     simp (disch := (first | omega | assumption)) only [at1_eq, hlt', hX2, hs0, hrl, List.length_map, List.length_append, List.length_cons, List.length_nil, freezeL, St.freeze, List.filter_cons, List.filter_nil, bne, hq, go_sem, evP_D, evD_guard, evD_cons, evD_zero, evD_nil]
    ·have hX2 : X.2.2.map acV = acV p :: (r.map acV ++ [.agg [.str code, .int .i64 (clsS E day A)]]) := by rw [hXl, hpr, if_pos hs0, List.map_append]; rfl
     simp (disch := (first | omega | assumption)) only [at1_eq, hlt', hX2, hs0, hrl, List.length_map, List.length_append, List.length_cons, List.length_nil, freezeL, St.freeze, List.filter_cons, List.filter_nil, bne, hq, go_sem, evP_D, evD_guard, evD_cons, evD_zero, evD_nil]
   have hlt' : (k : Int) < A.length := by omega
   obtain ⟨⟨c, kd⟩, hcn⟩ : ∃ p, A[k]? = some p := ⟨_, List.getElem?_eq_getElem hlt⟩
   have hmem := List.mem_of_getElem? hcn
   have hg := acV_get hcn
   have hkd := hkds _ hmem
   simp only at hkd
   have hO := lookM_sums c 0 day E
   have hF := find_mV c (sumsM 0 day E)
   have hb := ofB_bd c 0 day hEn h3
   have hL1 := clsL_succ (E := E) (day := day) hcn
   have hS1 := clsS_succ (E := E) (day := day) hcn
   have hsb : -17280000000000000 ≤ clsS E day (A.take k) ∧ clsS E day (A.take k) ≤ 17280000000000000 := by
    have h1 := hS (A.take k)
    have h2 : (A.take k).length ≤ 24 := by rw [List.length_take]; omega
    omega
   have hll := clsL_len E day A k
   have hms : A.length - ((k : Int) + 1).toNat < A.length - (k : Int).toNat := by
    have e3 : ((k : Int) + 1).toNat = k + 1 := by omega
    rw [e3, Int.toNat_natCast]; exact Nat.sub_lt_sub_left hlt (Nat.lt_succ_self k)
   by_cases hc : c = code
   ·have hc' := decide_eq_true hc
    have hk2' : kd = 2 := hcode kd (by rw [← hc]; exact hmem)
    subst hk2'
    have hcb : clsB E day (c, 2) = false := by simp [clsB]
    rw [hcb] at hL1 hS1
    simp only [Bool.false_eq_true, if_false, List.append_nil, Int.add_zero] at hL1 hS1
    cases hL : clsL E day (A.take k) with
    | nil =>
     rw [hL] at hL1
     unfold crSt
     simp (disch := (first | omega | assumption)) only [hlt', idx_nat, List.length_map, hg, bin_eql_str, hc', go_sem, evP_D, evD_guard, evD_cons, evD_zero, evD_nil]
     exact ⟨⟨k + 1, ⟨hlt, hlt⟩, by rw [hL1]; simp only [crSt, hS1]; rfl⟩, hms⟩
    | cons p r =>
     rw [hL] at hL1
     unfold crSt
     simp (disch := (first | omega | assumption)) only [hlt', idx_nat, List.length_map, hg, bin_eql_str, hc', go_sem, evP_D, evD_guard, evD_cons, evD_zero, evD_nil]
     exact ⟨⟨k + 1, ⟨hlt, hlt⟩, by rw [hL1]; simp only [crSt, hS1]; rfl⟩, hms⟩
   have hc' := decide_eq_false hc
   by_cases hgt : 2 < kd
   case neg =>
    have hcb : clsB E day (c, kd) = false := by
     unfold clsB
     rw [decide_eq_false (show ¬ kd = 3 by omega), decide_eq_false (show ¬ kd = 4 by omega)]
     simp
    rw [hcb] at hL1 hS1
    simp only [Bool.false_eq_true, if_false, List.append_nil, Int.add_zero] at hL1 hS1
    cases hL : clsL E day (A.take k) with
    | nil =>
     rw [hL] at hL1
     unfold crSt
     simp (disch := (first | omega | assumption)) only [hlt', idx_nat, List.length_map, hg, bin_eql_str, hc', hgt, go_sem, evP_D, evD_guard, evD_cons, evD_zero, evD_nil]
     exact ⟨⟨k + 1, ⟨hlt, hlt⟩, by rw [hL1]; simp only [crSt, hS1]; rfl⟩, hms⟩
    | cons p r =>
     rw [hL] at hL1
     unfold crSt
     simp (disch := (first | omega | assumption)) only [hlt', idx_nat, List.length_map, hg, bin_eql_str, hc', hgt, go_sem, evP_D, evD_guard, evD_cons, evD_zero, evD_nil]
     exact ⟨⟨k + 1, ⟨hlt, hlt⟩, by rw [hL1]; simp only [crSt, hS1]; rfl⟩, hms⟩
   by_cases hn : ofB c 0 day E = 0
   ·have hcb : clsB E day (c, kd) = false := by simp [clsB, hn]
    rw [hcb] at hL1 hS1
    simp only [Bool.false_eq_true, if_false, List.append_nil, Int.add_zero] at hL1 hS1
    cases hv : lookM c (sumsM 0 day E) with
    | none =>
     rw [hv] at hF
     simp only [Option.map_none] at hF
     cases hL : clsL E day (A.take k) with
     | nil =>
      rw [hL] at hL1
      unfold crSt
      simp (disch := (first | omega | assumption)) only [hlt', idx_nat, List.length_map, hg, bin_eql_str, hc', hgt, hF, go_sem, evP_D, evD_guard, evD_cons, evD_zero, evD_nil]
      exact ⟨⟨k + 1, ⟨hlt, hlt⟩, by rw [hL1]; simp only [crSt, hS1]; rfl⟩, hms⟩
     | cons p r =>
      rw [hL] at hL1
      unfold crSt
      simp (disch := (first | omega | assumption)) only [hlt', idx_nat, List.length_map, hg, bin_eql_str, hc', hgt, hF, go_sem, evP_D, evD_guard, evD_cons, evD_zero, evD_nil]
      exact ⟨⟨k + 1, ⟨hlt, hlt⟩, by rw [hL1]; simp only [crSt, hS1]; rfl⟩, hms⟩
    | some v =>
     rw [hv] at hF hO
     simp only [Option.map_some] at hF
     simp only [Option.getD_some] at hO
     have hv0 : v = 0 := by omega
     subst hv0
     cases hL : clsL E day (A.take k) with
     | nil =>
      rw [hL] at hL1
      unfold crSt
      simp (disch := (first | omega | assumption)) only [hlt', idx_nat, List.length_map, hg, bin_eql_str, hc', hgt, hF, go_sem, evP_D, evD_guard, evD_cons, evD_zero, evD_nil]
      exact ⟨⟨k + 1, ⟨hlt, hlt⟩, by rw [hL1]; simp only [crSt, hS1]; rfl⟩, hms⟩
     | cons p r =>
      rw [hL] at hL1
      unfold crSt
      simp (disch := (first | omega | assumption)) only [hlt', idx_nat, List.length_map, hg, bin_eql_str, hc', hgt, hF, go_sem, evP_D, evD_guard, evD_cons, evD_zero, evD_nil]
      exact ⟨⟨k + 1, ⟨hlt, hlt⟩, by rw [hL1]; simp only [crSt, hS1]; rfl⟩, hms⟩
   ·have hcb : clsB E day (c, kd) = true := by
     have : kd = 3 ∨ kd = 4 := by omega
     unfold clsB
     rcases this with rfl | rfl <;> simp [hn]
    rw [hcb] at hL1 hS1
    simp only [if_true] at hL1 hS1
    cases hv : lookM c (sumsM 0 day E) with
    | none =>
     rw [hv] at hO
     simp only [Option.getD_none] at hO
     exact absurd hO.symm hn
    | some v =>
     rw [hv] at hF hO
     simp only [Option.map_some] at hF
     simp only [Option.getD_some] at hO
     rw [← hO] at hn hL1 hS1 hb
     cases hL : clsL E day (A.take k) with
     | nil =>
      rw [hL] at hL1 hll
      unfold crSt
      simp (disch := (first | omega | assumption)) only [hlt', idx_nat, List.length_map, hg, bin_eql_str, hc', hgt, hF, hn, Int.zero_sub, go_sem, evP_D, evD_guard, evD_cons, evD_zero, evD_nil]
      exact ⟨⟨k + 1, ⟨hlt, hlt⟩, by rw [hL1]; simp only [crSt, hS1]; rfl⟩, hms⟩
     | cons p r =>
      rw [hL] at hL1 hll
      rw [List.length_cons] at hll
      unfold crSt
      simp (disch := (first | omega | assumption)) only [hlt', idx_nat, List.length_map, List.length_append, List.length_cons, List.length_nil, hg, bin_eql_str, hc', hgt, hF, hn, Int.zero_sub, go_sem, evP_D, evD_guard, evD_cons, evD_zero, evD_nil]
      exact ⟨⟨k + 1, ⟨hlt, hlt⟩, by rw [hL1]; simp only [crSt, hS1, List.cons_append, List.map_cons, List.map_append]; rfl⟩, hms⟩
 rw [if_neg (fun h => h hq)] at e0
 have hP := hposE 0 hq
 rw [if_pos rfl] at hP
 unfold bkV at hP
 by_cases hds : day < s
 ·rw [if_pos hds] at e0
  have eR : clV A E s key day code = .tup [.agg [.zero, .zero, .int .i64 0], .int .i64 9] := by unfold clV; rw [e0]; rfl
  rw [eR]
  refine evFn (l := [(39, dayF), (40, hasF), (52, at1 _ (.vec 0, [.map (mV (sumsM 0 day E))])), (14, at1 _ (_, []))]) (nv := nv0) (fz := fzL [(98, [568])]) (dr := dr18) (dd := dd18) (lam := []) (ms := ms0) ⟨day_snd hJ, has_snd hJ, at1_snd hSu, at1_snd hP, trivial⟩ hJ trivial ms0_ok Tryz.func18 rfl rfl (Nat.le_of_ble_eq_true rfl) (Nat.le_of_ble_eq_true rfl) drOk18 ?_
  dsimp only [Tryz.f18, dr18, dd18, Option.getD_some]
  refine ev_start ?_
  simp (disch := omega) only [at1_eq, hH, dayF_eq, hd', List.length_map, go_sem, evP_D, evD_guard, evD_cons, evD_zero, evD_nil]
  refine evQ_loop [2, 3, 4, 8, 10, 11, 12, 34, 35, 36] [32, 64, 232, 88, 568] (fun σ => ∃ (k : Nat), (k ≤ A.length ∧ k ≤ A.length) ∧ σ = crSt A E s key day code k (clsL E day (A.take k)))
   (fun σ => A.length - (match Ev.look 36 σ.env with | some (.int _ n) => n.toNat | _ => 0)) ?_ ?_
  ·simp only [go_sem, evP_D, evD_guard, evD_cons, evD_zero, evD_nil]
   exact ⟨0, ⟨Nat.zero_le _, Nat.zero_le _⟩, rfl⟩
  ·rintro σ ⟨k, ⟨hkl, hinv⟩, rfl⟩
   by_cases hlt : k < A.length
   case neg =>
    have hk' : k = A.length := by omega
    subst hk'
    have hlt' : ¬ ((A.length : Int) < A.length) := by omega
    rw [List.take_length]
    obtain ⟨p, r, hpr⟩ : ∃ p r, clsL E day A = p :: r := by
     cases h : clsL E day A with
     | nil => exact absurd h hnil
     | cons p r => exact ⟨p, r, rfl⟩
    have hll : r.length ≤ 24 := by
     have := clsL_len E day A A.length
     rw [List.take_length, hpr, List.length_cons] at this
     omega
    have hXl : X.2.2 = clsL E day A ++ if clsS E day A ≠ 0 then [(code, clsS E day A)] else [] := by rw [hX]; rfl
    have hsb : -17280000000000000 ≤ clsS E day A ∧ clsS E day A ≤ 17280000000000000 := by
     have h1 := hS A
     omega
    have hrl : ¬ (((r.length + 1 : Nat) : Int) = 0) := by omega
    rw [hpr]
    unfold crSt
    rw [List.take_length]
    by_cases hs0 : clsS E day A = 0
    ·have hX2 : X.2.2.map acV = (p :: r).map acV := by rw [hXl, hpr, if_neg (fun h => h hs0), List.append_nil]
     simp (disch := (first | omega | assumption)) only [at1_eq, hlt', hX2, hs0, hrl, List.length_map, List.length_append, List.length_cons, List.length_nil, freezeL, St.freeze, List.filter_cons, List.filter_nil, bne, hds, go_sem, evP_D, evD_guard, evD_cons, evD_zero, evD_nil]
    ·have hX2 : X.2.2.map acV = acV p :: (r.map acV ++ [.agg [.str code, .int .i64 (clsS E day A)]]) := by rw [hXl, hpr, if_pos hs0, List.map_append]; rfl
     simp (disch := (first | omega | assumption)) only [at1_eq, hlt', hX2, hs0, hrl, List.length_map, List.length_append, List.length_cons, List.length_nil, freezeL, St.freeze, List.filter_cons, List.filter_nil, bne, hds, go_sem, evP_D, evD_guard, evD_cons, evD_zero, evD_nil]
   have hlt' : (k : Int) < A.length := by omega
   obtain ⟨⟨c, kd⟩, hcn⟩ : ∃ p, A[k]? = some p := ⟨_, List.getElem?_eq_getElem hlt⟩
   have hmem := List.mem_of_getElem? hcn
   have hg := acV_get hcn
   have hkd := hkds _ hmem
   simp only at hkd
   have hO := lookM_sums c 0 day E
   have hF := find_mV c (sumsM 0 day E)
   have hb := ofB_bd c 0 day hEn h3
   have hL1 := clsL_succ (E := E) (day := day) hcn
   have hS1 := clsS_succ (E := E) (day := day) hcn
   have hsb : -17280000000000000 ≤ clsS E day (A.take k) ∧ clsS E day (A.take k) ≤ 17280000000000000 := by
    have h1 := hS (A.take k)
    have h2 : (A.take k).length ≤ 24 := by rw [List.length_take]; omega
    omega
   have hll := clsL_len E day A k
   have hms : A.length - ((k : Int) + 1).toNat < A.length - (k : Int).toNat := by
    have e3 : ((k : Int) + 1).toNat = k + 1 := by omega
    rw [e3, Int.toNat_natCast]; exact Nat.sub_lt_sub_left hlt (Nat.lt_succ_self k)
   by_cases hc : c = code
   ·have hc' := decide_eq_true hc
    have hk2' : kd = 2 := hcode kd (by rw [← hc]; exact hmem)
    subst hk2'
    have hcb : clsB E day (c, 2) = false := by simp [clsB]
    rw [hcb] at hL1 hS1
    simp only [Bool.false_eq_true, if_false, List.append_nil, Int.add_zero] at hL1 hS1
    cases hL : clsL E day (A.take k) with
    | nil =>
     rw [hL] at hL1
     unfold crSt
     simp (disch := (first | omega | assumption)) only [hlt', idx_nat, List.length_map, hg, bin_eql_str, hc', go_sem, evP_D, evD_guard, evD_cons, evD_zero, evD_nil]
     exact ⟨⟨k + 1, ⟨hlt, hlt⟩, by rw [hL1]; simp only [crSt, hS1]; rfl⟩, hms⟩
    | cons p r =>
     rw [hL] at hL1
     unfold crSt
     simp (disch := (first | omega | assumption)) only [hlt', idx_nat, List.length_map, hg, bin_eql_str, hc', go_sem, evP_D, evD_guard, evD_cons, evD_zero, evD_nil]
     exact ⟨⟨k + 1, ⟨hlt, hlt⟩, by rw [hL1]; simp only [crSt, hS1]; rfl⟩, hms⟩
   have hc' := decide_eq_false hc
   by_cases hgt : 2 < kd
   case neg =>
    have hcb : clsB E day (c, kd) = false := by
     unfold clsB
     rw [decide_eq_false (show ¬ kd = 3 by omega), decide_eq_false (show ¬ kd = 4 by omega)]
     simp
    rw [hcb] at hL1 hS1
    simp only [Bool.false_eq_true, if_false, List.append_nil, Int.add_zero] at hL1 hS1
    cases hL : clsL E day (A.take k) with
    | nil =>
     rw [hL] at hL1
     unfold crSt
     simp (disch := (first | omega | assumption)) only [hlt', idx_nat, List.length_map, hg, bin_eql_str, hc', hgt, go_sem, evP_D, evD_guard, evD_cons, evD_zero, evD_nil]
     exact ⟨⟨k + 1, ⟨hlt, hlt⟩, by rw [hL1]; simp only [crSt, hS1]; rfl⟩, hms⟩
    | cons p r =>
     rw [hL] at hL1
     unfold crSt
     simp (disch := (first | omega | assumption)) only [hlt', idx_nat, List.length_map, hg, bin_eql_str, hc', hgt, go_sem, evP_D, evD_guard, evD_cons, evD_zero, evD_nil]
     exact ⟨⟨k + 1, ⟨hlt, hlt⟩, by rw [hL1]; simp only [crSt, hS1]; rfl⟩, hms⟩
   by_cases hn : ofB c 0 day E = 0
   ·have hcb : clsB E day (c, kd) = false := by simp [clsB, hn]
    rw [hcb] at hL1 hS1
    simp only [Bool.false_eq_true, if_false, List.append_nil, Int.add_zero] at hL1 hS1
    cases hv : lookM c (sumsM 0 day E) with
    | none =>
     rw [hv] at hF
     simp only [Option.map_none] at hF
     cases hL : clsL E day (A.take k) with
     | nil =>
      rw [hL] at hL1
      unfold crSt
      simp (disch := (first | omega | assumption)) only [hlt', idx_nat, List.length_map, hg, bin_eql_str, hc', hgt, hF, go_sem, evP_D, evD_guard, evD_cons, evD_zero, evD_nil]
      exact ⟨⟨k + 1, ⟨hlt, hlt⟩, by rw [hL1]; simp only [crSt, hS1]; rfl⟩, hms⟩
     | cons p r =>
      rw [hL] at hL1
      unfold crSt
      simp (disch := (first | omega | assumption)) only [hlt', idx_nat, List.length_map, hg, bin_eql_str, hc', hgt, hF, go_sem, evP_D, evD_guard, evD_cons, evD_zero, evD_nil]
      exact ⟨⟨k + 1, ⟨hlt, hlt⟩, by rw [hL1]; simp only [crSt, hS1]; rfl⟩, hms⟩
    | some v =>
     rw [hv] at hF hO
     simp only [Option.map_some] at hF
     simp only [Option.getD_some] at hO
     have hv0 : v = 0 := by omega
     subst hv0
     cases hL : clsL E day (A.take k) with
     | nil =>
      rw [hL] at hL1
      unfold crSt
      simp (disch := (first | omega | assumption)) only [hlt', idx_nat, List.length_map, hg, bin_eql_str, hc', hgt, hF, go_sem, evP_D, evD_guard, evD_cons, evD_zero, evD_nil]
      exact ⟨⟨k + 1, ⟨hlt, hlt⟩, by rw [hL1]; simp only [crSt, hS1]; rfl⟩, hms⟩
     | cons p r =>
      rw [hL] at hL1
      unfold crSt
      simp (disch := (first | omega | assumption)) only [hlt', idx_nat, List.length_map, hg, bin_eql_str, hc', hgt, hF, go_sem, evP_D, evD_guard, evD_cons, evD_zero, evD_nil]
      exact ⟨⟨k + 1, ⟨hlt, hlt⟩, by rw [hL1]; simp only [crSt, hS1]; rfl⟩, hms⟩
   ·have hcb : clsB E day (c, kd) = true := by
     have : kd = 3 ∨ kd = 4 := by omega
     unfold clsB
     rcases this with rfl | rfl <;> simp [hn]
    rw [hcb] at hL1 hS1
    simp only [if_true] at hL1 hS1
    cases hv : lookM c (sumsM 0 day E) with
    | none =>
     rw [hv] at hO
     simp only [Option.getD_none] at hO
     exact absurd hO.symm hn
    | some v =>
     rw [hv] at hF hO
     simp only [Option.map_some] at hF
     simp only [Option.getD_some] at hO
     rw [← hO] at hn hL1 hS1 hb
     cases hL : clsL E day (A.take k) with
     | nil =>
      rw [hL] at hL1 hll
      unfold crSt
      simp (disch := (first | omega | assumption)) only [hlt', idx_nat, List.length_map, hg, bin_eql_str, hc', hgt, hF, hn, Int.zero_sub, go_sem, evP_D, evD_guard, evD_cons, evD_zero, evD_nil]
      exact ⟨⟨k + 1, ⟨hlt, hlt⟩, by rw [hL1]; simp only [crSt, hS1]; rfl⟩, hms⟩
     | cons p r =>
      rw [hL] at hL1 hll
      rw [List.length_cons] at hll
      unfold crSt
      simp (disch := (first | omega | assumption)) only [hlt', idx_nat, List.length_map, List.length_append, List.length_cons, List.length_nil, hg, bin_eql_str, hc', hgt, hF, hn, Int.zero_sub, go_sem, evP_D, evD_guard, evD_cons, evD_zero, evD_nil]
      exact ⟨⟨k + 1, ⟨hlt, hlt⟩, by rw [hL1]; simp only [crSt, hS1, List.cons_append, List.map_cons, List.map_append]; rfl⟩, hms⟩
 ·rw [if_neg hds] at e0
  have eR : clV A E s key day code = .tup [.agg [.row 2 (A.map acV), .row 3 ((postB E X).map enW), .int .i64 day], .int .i64 0] := by unfold clV; rw [e0, if_pos rfl, ← hX]; rfl
  rw [eR]
  refine evFn (l := [(39, dayF), (40, hasF), (52, at1 _ (.vec 0, [.map (mV (sumsM 0 day E))])), (14, at1 _ (_, []))]) (nv := nv0) (fz := fzL [(98, [568])]) (dr := dr18) (dd := dd18) (lam := []) (ms := ms0) ⟨day_snd hJ, has_snd hJ, at1_snd hSu, at1_snd hP, trivial⟩ hJ trivial ms0_ok Tryz.func18 rfl rfl (Nat.le_of_ble_eq_true rfl) (Nat.le_of_ble_eq_true rfl) drOk18 ?_
  dsimp only [Tryz.f18, dr18, dd18, Option.getD_some]
  refine ev_start ?_
  simp (disch := omega) only [at1_eq, hH, dayF_eq, hd', List.length_map, go_sem, evP_D, evD_guard, evD_cons, evD_zero, evD_nil]
  refine evQ_loop [2, 3, 4, 8, 10, 11, 12, 34, 35, 36] [32, 64, 232, 88, 568] (fun σ => ∃ (k : Nat), (k ≤ A.length ∧ k ≤ A.length) ∧ σ = crSt A E s key day code k (clsL E day (A.take k)))
   (fun σ => A.length - (match Ev.look 36 σ.env with | some (.int _ n) => n.toNat | _ => 0)) ?_ ?_
  ·simp only [go_sem, evP_D, evD_guard, evD_cons, evD_zero, evD_nil]
   exact ⟨0, ⟨Nat.zero_le _, Nat.zero_le _⟩, rfl⟩
  ·rintro σ ⟨k, ⟨hkl, hinv⟩, rfl⟩
   by_cases hlt : k < A.length
   case neg =>
    have hk' : k = A.length := by omega
    subst hk'
    have hlt' : ¬ ((A.length : Int) < A.length) := by omega
    rw [List.take_length]
    obtain ⟨p, r, hpr⟩ : ∃ p r, clsL E day A = p :: r := by
     cases h : clsL E day A with
     | nil => exact absurd h hnil
     | cons p r => exact ⟨p, r, rfl⟩
    have hll : r.length ≤ 24 := by
     have := clsL_len E day A A.length
     rw [List.take_length, hpr, List.length_cons] at this
     omega
    have hXl : X.2.2 = clsL E day A ++ if clsS E day A ≠ 0 then [(code, clsS E day A)] else [] := by rw [hX]; rfl
    have hsb : -17280000000000000 ≤ clsS E day A ∧ clsS E day A ≤ 17280000000000000 := by
     have h1 := hS A
     omega
    have hrl : ¬ (((r.length + 1 : Nat) : Int) = 0) := by omega
    rw [hpr]
    unfold crSt
    rw [List.take_length]
    by_cases hs0 : clsS E day A = 0
    ·have hX2 : X.2.2.map acV = (p :: r).map acV := by rw [hXl, hpr, if_neg (fun h => h hs0), List.append_nil]
     simp (disch := (first | omega | assumption)) only [at1_eq, hlt', hX2, hs0, hrl, List.length_map, List.length_append, List.length_cons, List.length_nil, freezeL, St.freeze, List.filter_cons, List.filter_nil, bne, hds, go_sem, evP_D, evD_guard, evD_cons, evD_zero, evD_nil]
    ·have hX2 : X.2.2.map acV = acV p :: (r.map acV ++ [.agg [.str code, .int .i64 (clsS E day A)]]) := by rw [hXl, hpr, if_pos hs0, List.map_append]; rfl
     simp (disch := (first | omega | assumption)) only [at1_eq, hlt', hX2, hs0, hrl, List.length_map, List.length_append, List.length_cons, List.length_nil, freezeL, St.freeze, List.filter_cons, List.filter_nil, bne, hds, go_sem, evP_D, evD_guard, evD_cons, evD_zero, evD_nil]
   have hlt' : (k : Int) < A.length := by omega
   obtain ⟨⟨c, kd⟩, hcn⟩ : ∃ p, A[k]? = some p := ⟨_, List.getElem?_eq_getElem hlt⟩
   have hmem := List.mem_of_getElem? hcn
   have hg := acV_get hcn
   have hkd := hkds _ hmem
   simp only at hkd
   have hO := lookM_sums c 0 day E
   have hF := find_mV c (sumsM 0 day E)
   have hb := ofB_bd c 0 day hEn h3
   have hL1 := clsL_succ (E := E) (day := day) hcn
   have hS1 := clsS_succ (E := E) (day := day) hcn
   have hsb : -17280000000000000 ≤ clsS E day (A.take k) ∧ clsS E day (A.take k) ≤ 17280000000000000 := by
    have h1 := hS (A.take k)
    have h2 : (A.take k).length ≤ 24 := by rw [List.length_take]; omega
    omega
   have hll := clsL_len E day A k
   have hms : A.length - ((k : Int) + 1).toNat < A.length - (k : Int).toNat := by
    have e3 : ((k : Int) + 1).toNat = k + 1 := by omega
    rw [e3, Int.toNat_natCast]; exact Nat.sub_lt_sub_left hlt (Nat.lt_succ_self k)
   by_cases hc : c = code
   ·have hc' := decide_eq_true hc
    have hk2' : kd = 2 := hcode kd (by rw [← hc]; exact hmem)
    subst hk2'
    have hcb : clsB E day (c, 2) = false := by simp [clsB]
    rw [hcb] at hL1 hS1
    simp only [Bool.false_eq_true, if_false, List.append_nil, Int.add_zero] at hL1 hS1
    cases hL : clsL E day (A.take k) with
    | nil =>
     rw [hL] at hL1
     unfold crSt
     simp (disch := (first | omega | assumption)) only [hlt', idx_nat, List.length_map, hg, bin_eql_str, hc', go_sem, evP_D, evD_guard, evD_cons, evD_zero, evD_nil]
     exact ⟨⟨k + 1, ⟨hlt, hlt⟩, by rw [hL1]; simp only [crSt, hS1]; rfl⟩, hms⟩
    | cons p r =>
     rw [hL] at hL1
     unfold crSt
     simp (disch := (first | omega | assumption)) only [hlt', idx_nat, List.length_map, hg, bin_eql_str, hc', go_sem, evP_D, evD_guard, evD_cons, evD_zero, evD_nil]
     exact ⟨⟨k + 1, ⟨hlt, hlt⟩, by rw [hL1]; simp only [crSt, hS1]; rfl⟩, hms⟩
   have hc' := decide_eq_false hc
   by_cases hgt : 2 < kd
   case neg =>
    have hcb : clsB E day (c, kd) = false := by
     unfold clsB
     rw [decide_eq_false (show ¬ kd = 3 by omega), decide_eq_false (show ¬ kd = 4 by omega)]
     simp
    rw [hcb] at hL1 hS1
    simp only [Bool.false_eq_true, if_false, List.append_nil, Int.add_zero] at hL1 hS1
    cases hL : clsL E day (A.take k) with
    | nil =>
     rw [hL] at hL1
     unfold crSt
     simp (disch := (first | omega | assumption)) only [hlt', idx_nat, List.length_map, hg, bin_eql_str, hc', hgt, go_sem, evP_D, evD_guard, evD_cons, evD_zero, evD_nil]
     exact ⟨⟨k + 1, ⟨hlt, hlt⟩, by rw [hL1]; simp only [crSt, hS1]; rfl⟩, hms⟩
    | cons p r =>
     rw [hL] at hL1
     unfold crSt
     simp (disch := (first | omega | assumption)) only [hlt', idx_nat, List.length_map, hg, bin_eql_str, hc', hgt, go_sem, evP_D, evD_guard, evD_cons, evD_zero, evD_nil]
     exact ⟨⟨k + 1, ⟨hlt, hlt⟩, by rw [hL1]; simp only [crSt, hS1]; rfl⟩, hms⟩
   by_cases hn : ofB c 0 day E = 0
   ·have hcb : clsB E day (c, kd) = false := by simp [clsB, hn]
    rw [hcb] at hL1 hS1
    simp only [Bool.false_eq_true, if_false, List.append_nil, Int.add_zero] at hL1 hS1
    cases hv : lookM c (sumsM 0 day E) with
    | none =>
     rw [hv] at hF
     simp only [Option.map_none] at hF
     cases hL : clsL E day (A.take k) with
     | nil =>
      rw [hL] at hL1
      unfold crSt
      simp (disch := (first | omega | assumption)) only [hlt', idx_nat, List.length_map, hg, bin_eql_str, hc', hgt, hF, go_sem, evP_D, evD_guard, evD_cons, evD_zero, evD_nil]
      exact ⟨⟨k + 1, ⟨hlt, hlt⟩, by rw [hL1]; simp only [crSt, hS1]; rfl⟩, hms⟩
     | cons p r =>
      rw [hL] at hL1
      unfold crSt
      simp (disch := (first | omega | assumption)) only [hlt', idx_nat, List.length_map, hg, bin_eql_str, hc', hgt, hF, go_sem, evP_D, evD_guard, evD_cons, evD_zero, evD_nil]
      exact ⟨⟨k + 1, ⟨hlt, hlt⟩, by rw [hL1]; simp only [crSt, hS1]; rfl⟩, hms⟩
    | some v =>
     rw [hv] at hF hO
     simp only [Option.map_some] at hF
     simp only [Option.getD_some] at hO
     have hv0 : v = 0 := by omega
     subst hv0
     cases hL : clsL E day (A.take k) with
     | nil =>
      rw [hL] at hL1
      unfold crSt
      simp (disch := (first | omega | assumption)) only [hlt', idx_nat, List.length_map, hg, bin_eql_str, hc', hgt, hF, go_sem, evP_D, evD_guard, evD_cons, evD_zero, evD_nil]
      exact ⟨⟨k + 1, ⟨hlt, hlt⟩, by rw [hL1]; simp only [crSt, hS1]; rfl⟩, hms⟩
     | cons p r =>
      rw [hL] at hL1
      unfold crSt
      simp (disch := (first | omega | assumption)) only [hlt', idx_nat, List.length_map, hg, bin_eql_str, hc', hgt, hF, go_sem, evP_D, evD_guard, evD_cons, evD_zero, evD_nil]
      exact ⟨⟨k + 1, ⟨hlt, hlt⟩, by rw [hL1]; simp only [crSt, hS1]; rfl⟩, hms⟩
   ·have hcb : clsB E day (c, kd) = true := by
     have : kd = 3 ∨ kd = 4 := by omega
     unfold clsB
     rcases this with rfl | rfl <;> simp [hn]
    rw [hcb] at hL1 hS1
    simp only [if_true] at hL1 hS1
    cases hv : lookM c (sumsM 0 day E) with
    | none =>
     rw [hv] at hO
     simp only [Option.getD_none] at hO
     exact absurd hO.symm hn
    | some v =>
     rw [hv] at hF hO
     simp only [Option.map_some] at hF
     simp only [Option.getD_some] at hO
     rw [← hO] at hn hL1 hS1 hb
     cases hL : clsL E day (A.take k) with
     | nil =>
      rw [hL] at hL1 hll
      unfold crSt
      simp (disch := (first | omega | assumption)) only [hlt', idx_nat, List.length_map, hg, bin_eql_str, hc', hgt, hF, hn, Int.zero_sub, go_sem, evP_D, evD_guard, evD_cons, evD_zero, evD_nil]
      exact ⟨⟨k + 1, ⟨hlt, hlt⟩, by rw [hL1]; simp only [crSt, hS1]; rfl⟩, hms⟩
     | cons p r =>
      rw [hL] at hL1 hll
      rw [List.length_cons] at hll
      unfold crSt
      simp (disch := (first | omega | assumption)) only [hlt', idx_nat, List.length_map, List.length_append, List.length_cons, List.length_nil, hg, bin_eql_str, hc', hgt, hF, hn, Int.zero_sub, go_sem, evP_D, evD_guard, evD_cons, evD_zero, evD_nil]
      exact ⟨⟨k + 1, ⟨hlt, hlt⟩, by rw [hL1]; simp only [crSt, hS1, List.cons_append, List.map_cons, List.map_append]; rfl⟩, hms⟩
end Go.Proofs.YtdmkmbaaemhhhaaGreatDoor
