/-
  A line read as the program says it, run by the machine: Read.
-/
import Derived.Test.YtdmkmbaaemhhhaaGreatDoorP31
set_option linter.unusedVariables false
set_option linter.unusedSimpArgs false
namespace Go.Proofs.YtdmkmbaaemhhhaaGreatDoor
open Go Go.Ev Go.RowKit Go.Acc Go.Lg
set_option maxHeartbeats 4000000
def lsF : List V → Option (V × List Ev.Blk)
 | [.str s] => if s.size ≤ 67108864 then some (.int .i64 (sumB s), []) else none
 | _ => none
theorem lsF_eq {s : ByteArray} (h : s.size ≤ 67108864) : lsF [.str s] = some (.int .i64 (sumB s), []) := if_pos h
theorem ls_snd {J : World → Prop} (hJ : Stable J) : Snd Tryz.prog J 56 lsF := by
 intro args r bs h
 unfold lsF at h
 split at h
 ·split at h
  ·rename_i s hs
   obtain ⟨rfl, rfl⟩ := some_pair h
   exact lsum_sound hJ s hs
  ·cases h
 ·cases h
def paF : List V → Option (V × List Ev.Blk)
 | [.str p] => if p.size ≤ 67108864 then some (paR (parseG rd1 (wordsB p))) else none
 | _ => none
theorem paF_eq {p : ByteArray} (h : p.size ≤ 67108864) : paF [.str p] = some (paR (parseG rd1 (wordsB p))) := if_pos h
theorem pa_snd : Snd Tryz.prog LgJ 65 paF := by
 intro args r bs h
 unfold paF at h
 split at h
 ·split at h
  ·rename_i p hp
   obtain ⟨rfl, rfl⟩ := some_pair h
   exact parse_sound p hp
  ·cases h
 ·cases h
def wrV (x : En) : V := if enX x = 0 then .tup [.str (txtB x), .int .i64 0] else .tup [.str ByteArray.empty, .int .i64 (enX x)]
def wrF : List V → Option (V × List Ev.Blk)
 | [.agg [.str key, .int .i64 day, L]] => match rowAc L with
  | some l => some (wrV (key, day, l), [])
  | none => none
 | _ => none
theorem wrF_row {key : ByteArray} {day : Int} {l : List (ByteArray × Int)} : wrF [.agg [.str key, .int .i64 day, .row 2 (l.map acV)]] = some (wrV (key, day, l), []) := by
 simp only [wrF, rowAc_row]
theorem wrF_zero {key : ByteArray} {day : Int} : wrF [.agg [.str key, .int .i64 day, .zero]] = some (wrV (key, day, []), []) := by
 simp only [wrF, rowAc]
theorem wr_snd : Snd Tryz.prog LgJ 20 wrF := by
 intro args r bs h
 unfold wrF at h
 split at h
 ·rename_i key day L
  split at h
  ·rename_i l hl
   obtain ⟨rfl, rfl⟩ := some_pair h
   exact sound_by (write_sound (key, day, l)) rfl fun w ok j c v hc hv => by
    match j with
    | 0 => simp at hc; subst hc; exact ⟨_, rfl, enV_rel hl hv⟩
    | j + 1 => simp at hc
  ·cases h
 ·cases h
theorem atV_ok {w : ByteArray} {n : Int} (h : Lib.atoiAll w.data.toList = .ok n) : atV w = .tup [.int .i64 n, .raw .nilIface] := by unfold atV; rw [h]
theorem atV_bad {w : ByteArray} (h : ∀ n, Lib.atoiAll w.data.toList ≠ .ok n) : ∃ m, atV w = .tup [.int .i64 m, .ifc 178 .undef] := by
 unfold atV
 cases ha : Lib.atoiAll w.data.toList with
 | ok v => exact absurd ha (h v)
 | range => exact ⟨_, rfl⟩
 | _ => exact ⟨_, rfl⟩
theorem line_cat {s : ByteArray} {k : Nat} (h : nlAt s = k) : s.extract 0 (k + 1) = s.extract 0 k ++ ⟨#[10]⟩ := by
 have h1 := (Lib.indexByte_some (l := s.data.toList) (c := 10) (o := k) h).1
 refine ba_ext ?_
 rw [ba_app, Lib.extract_data, Lib.extract_data]
 simp only [List.drop_zero, Nat.sub_zero]
 rw [List.take_add_one, h1]
 rfl
theorem neq_str (x y : ByteArray) : binV .neq (.str x) (.str y) = some (.bool (!decide (x = y))) := by rw [← str_beq]; rfl
set_option maxRecDepth 20000 in
set_option maxHeartbeats 16000000 in
theorem read_sound (s : ByteArray) (hs : s.size ≤ 67108864) : SoundAt Tryz.prog LgJ 23 [.str s] (lgV (lgR rd1 s)) [] := by
 have hJ := stableLg
 have hI := ixnF_eq s
 by_cases hn : nlAt s < 0
 ·have e : lgR rd1 s = (none, 0, 8) := by unfold lgR; rw [if_pos hn]
  rw [e]
  unfold lgV
  simp only
  refine evFn (l := [(62, ixnF)]) (nv := nv0) (fz := fz0) (dr := dr23) (dd := dd23) (lam := []) (ms := ms0) ⟨ixn_snd, trivial⟩ hJ trivial ms0_ok Tryz.func23 rfl rfl (Nat.le_of_ble_eq_true rfl) (Nat.le_of_ble_eq_true rfl) drOk23 ?_
  dsimp only [Tryz.f23, dr23, dd23, Option.getD_some]
  refine ev_start ?_
  simp (disch := omega) only [hI, hn, go_sem, evP_D, evD_guard, evD_cons, evD_zero, evD_nil]
 have hn0 : 0 ≤ nlAt s := by omega
 have hlt0 := nl_lt hn0
 obtain ⟨at0, hat0⟩ : ∃ a : Nat, nlAt s = a := ⟨(nlAt s).toNat, by omega⟩
 have hR : lgR rd1 s = (if eqAt (s.extract 0 at0) < 0 then (none, 0, 3)
   else match num5 ((s.extract 0 at0).extract ((eqAt (s.extract 0 at0)).toNat + 2) (s.extract 0 at0).size) with
    | none => (none, 0, 3)
    | some n =>
     if n = sumB ((s.extract 0 at0).extract 0 (eqAt (s.extract 0 at0)).toNat) then
      (if enX (parseG rd1 (wordsB ((s.extract 0 at0).extract 0 (eqAt (s.extract 0 at0)).toNat))) = 0 ∧ txtB (parseG rd1 (wordsB ((s.extract 0 at0).extract 0 (eqAt (s.extract 0 at0)).toNat))) = s.extract 0 at0 ++ ⟨#[10]⟩ then (some (parseG rd1 (wordsB ((s.extract 0 at0).extract 0 (eqAt (s.extract 0 at0)).toNat))), (at0 : Int) + 1, 0) else (none, 0, 3))
     else (none, 0, 7) : Option En × Int × Int) := by
  conv => lhs; unfold lgR
  rw [if_neg hn, hat0]
  rfl
 rw [hat0] at hI hlt0
 rw [show ((at0 : Nat) : Int).toNat = at0 by omega] at hlt0
 have hcat : s.extract 0 (at0 + 1) = s.extract 0 at0 ++ ⟨#[10]⟩ := line_cat hat0
 have hlsz : (s.extract 0 at0).size = at0 := by rw [ByteArray.size_extract]; omega
 obtain ⟨R, hRR⟩ : ∃ R, R = lgR rd1 s := ⟨_, rfl⟩
 rw [← hRR] at hR ⊢
 obtain ⟨RV, hRV⟩ : ∃ RV, RV = lgV R := ⟨_, rfl⟩
 rw [← hRV]
 clear hRR hn hn0 hat0
 have a0 : ¬ (at0 : Int) < 0 := by omega
 have a1 : (0 : Int) ≤ at0 := by omega
 have a2 : (at0 : Int) ≤ s.size := by omega
 have a3 : (at0 : Int).toNat = at0 := by omega
 have a4 : (0 : Int) ≤ (at0 : Int) + 1 := by omega
 have a5 : (at0 : Int) + 1 ≤ s.size := by omega
 have a6 : ((at0 : Int) + 1).toNat = at0 + 1 := by omega
 have hl64 : (s.extract 0 at0).size ≤ 67108864 := by omega
 generalize hl : s.extract 0 at0 = l at *
 have hlen : l.data.toList.length = l.size := (Lib.size_eq l).symm
 have hLI : liF [.str l, .str ⟨#[32, 61]⟩] = some (.int .i64 (eqAt l), []) := liF_eq (s := l) (sub := ⟨#[32, 61]⟩) (by omega)
 refine evFn (l := [(62, ixnF), (63, liF), (64, atF), (55, itF), (56, lsF), (65, paF), (20, wrF)]) (nv := nv0) (fz := fzL [(66, [512])]) (dr := dr23) (dd := dd23) (lam := []) (ms := ms0) ⟨ixn_snd, li_snd, at_snd, it_snd, ls_snd hJ, pa_snd, wr_snd, trivial⟩ hJ trivial ms0_ok Tryz.func23 rfl rfl (Nat.le_of_ble_eq_true rfl) (Nat.le_of_ble_eq_true rfl) drOk23 ?_
 dsimp only [Tryz.f23, dr23, dd23, Option.getD_some]
 refine ev_start ?_
 by_cases hk0 : eqAt l < 0
 ·rw [if_pos hk0] at hR
  subst hR
  dsimp only [lgV] at hRV
  subst hRV
  simp (disch := (first | omega | assumption)) only [hI, a0, a1, a2, a3, hl, hLI, hk0, and_self, Int.le_refl, go_sem, evP_D, evD_guard, evD_cons, evD_zero, evD_nil]
 rw [if_neg hk0] at hR
 have hkb := last_bd l.data.toList l.data.toList.length
 rw [last_full] at hkb
 obtain ⟨k, hk⟩ : ∃ k : Nat, eqAt l = k := ⟨(eqAt l).toNat, by omega⟩
 obtain ⟨hk2, _⟩ := last_split hk
 rw [hlen] at hk2
 rw [hk, show ((k : Nat) : Int).toNat = k by omega] at hR
 rw [hk] at hLI
 clear hkb hk0
 have k0 : ¬ (k : Int) < 0 := by omega
 have k1 : (0 : Int) ≤ (k : Int) + 2 := by omega
 have k2 : (k : Int) + 2 ≤ l.size := by omega
 have k3 : ((k : Int) + 2).toNat = k + 2 := by omega
 have k4 : (0 : Int) ≤ (k : Int) := by omega
 have k5 : (k : Int) ≤ l.size := by omega
 have k6 : (k : Int).toNat = k := by omega
 have hwz : (l.extract (k + 2) l.size).size ≤ 67108864 := by rw [ByteArray.size_extract]; omega
 have hA := atF_eq (s := l.extract (k + 2) l.size) (by omega)
 have h5 := num5_atoi (l.extract (k + 2) l.size)
 generalize hwd : l.extract (k + 2) l.size = w at *
 by_cases hok : ∃ n, Lib.atoiAll w.data.toList = .ok n
 case neg =>
  have hbad : ∀ n, Lib.atoiAll w.data.toList ≠ .ok n := fun n h => hok ⟨n, h⟩
  have h5' : num5 w = none := by
   rw [h5]
   cases ha : Lib.atoiAll w.data.toList with
   | ok v => exact absurd ha (hbad v)
   | range => rfl
   | _ => rfl
  rw [h5'] at hR
  simp only at hR
  subst hR
  obtain ⟨m, hm⟩ := atV_bad hbad
  rw [hm] at hA
  dsimp only [lgV] at hRV
  subst hRV
  simp (disch := (first | omega | assumption)) only [hI, a0, a1, a2, a3, hl, hLI, k0, k1, k2, k3, hwd, hA, and_self, Int.le_refl, go_sem, evP_D, evD_guard, evD_cons, evD_zero, evD_nil]
 obtain ⟨n, hno⟩ := hok
 rw [hno] at h5
 simp only at h5
 rw [atV_ok hno] at hA
 by_cases hn0 : n < 0
 ·rw [if_neg (by omega)] at h5
  rw [h5] at hR
  simp only at hR
  subst hR
  dsimp only [lgV] at hRV
  subst hRV
  simp (disch := (first | omega | assumption)) only [hI, a0, a1, a2, a3, hl, hLI, k0, k1, k2, k3, hwd, hA, hn0, and_self, Int.le_refl, go_sem, evP_D, evD_guard, evD_cons, evD_zero, evD_nil]
 by_cases hn1 : 65520 < n
 ·rw [if_neg (by omega)] at h5
  rw [h5] at hR
  simp only at hR
  subst hR
  dsimp only [lgV] at hRV
  subst hRV
  simp (disch := (first | omega | assumption)) only [hI, a0, a1, a2, a3, hl, hLI, k0, k1, k2, k3, hwd, hA, hn0, hn1, and_self, Int.le_refl, go_sem, evP_D, evD_guard, evD_cons, evD_zero, evD_nil]
 have hIt := itF_eq (n := n) (by omega) (by omega)
 have hq := neq_str (itoaB n) w
 by_cases hw : itoaB n = w
 case neg =>
  rw [if_neg (fun h => hw h.2)] at h5
  rw [h5] at hR
  simp only at hR
  subst hR
  rw [decide_eq_false hw] at hq
  dsimp only [lgV] at hRV
  subst hRV
  simp (disch := (first | omega | assumption)) only [hI, a0, a1, a2, a3, hl, hLI, k0, k1, k2, k3, hwd, hA, hn0, hn1, hIt, hq, and_self, Int.le_refl, go_sem, evP_D, evD_guard, evD_cons, evD_zero, evD_nil]
 rw [if_pos ⟨by omega, hw⟩] at h5
 rw [h5] at hR
 simp only at hR
 rw [decide_eq_true hw] at hq
 have hpsz : (l.extract 0 k).size ≤ 67108864 := by rw [ByteArray.size_extract]; omega
 have hSm := lsF_eq hpsz
 have hPa := paF_eq hpsz
 generalize hpd : l.extract 0 k = p at *
 by_cases hsum : n = sumB p
 case neg =>
  rw [if_neg hsum] at hR
  subst hR
  dsimp only [lgV] at hRV
  subst hRV
  simp (disch := (first | omega | assumption)) only [hI, a0, a1, a2, a3, hl, hLI, k0, k1, k2, k3, k4, k5, k6, hwd, hA, hn0, hn1, hIt, hq, hpd, hSm, hsum, and_self, Int.le_refl, go_sem, evP_D, evD_guard, evD_cons, evD_zero, evD_nil]
 rw [if_pos hsum] at hR
 rw [← hsum] at hSm
 generalize parseG rd1 (wordsB p) = e at *
 obtain ⟨kk, d, ll⟩ := e
 cases ll with
 | nil =>
  have hz := wrF_zero (key := kk) (day := d)
  have hx : ¬ enX (kk, d, []) = 0 := fun h => by have := (lnChk_ok (enE_ok h)).1; simp at this
  unfold wrV at hz
  rw [if_neg hx] at hz
  rw [if_neg (fun h => hx h.1)] at hR
  subst hR
  dsimp only [lgV] at hRV
  subst hRV
  unfold paR at hPa
  simp only at hPa
  simp (disch := (first | omega | assumption)) only [hI, a0, a1, a2, a3, hl, hLI, k0, k1, k2, k3, k4, k5, k6, hwd, hA, hn0, hn1, hIt, hq, hpd, hSm, hPa, hz, hx, freezeL, St.freeze, List.filter_cons, List.filter_nil, bne, and_self, Int.le_refl, go_sem, evP_D, evD_guard, evD_cons, evD_zero, evD_nil]
 | cons q r =>
  have hz := wrF_row (key := kk) (day := d) (l := q :: r)
  rw [List.map_cons] at hz
  unfold wrV at hz
  unfold paR at hPa
  simp only [List.map_cons] at hPa
  by_cases hx : enX (kk, d, q :: r) = 0
  case neg =>
   rw [if_neg hx] at hz
   rw [if_neg (fun h => hx h.1)] at hR
   subst hR
   dsimp only [lgV] at hRV
   subst hRV
   simp (disch := (first | omega | assumption)) only [hI, a0, a1, a2, a3, hl, hLI, k0, k1, k2, k3, k4, k5, k6, hwd, hA, hn0, hn1, hIt, hq, hpd, hSm, hPa, hz, hx, freezeL, St.freeze, List.filter_cons, List.filter_nil, bne, and_self, Int.le_refl, go_sem, evP_D, evD_guard, evD_cons, evD_zero, evD_nil]
  rw [if_pos hx] at hz
  have hq2 := neq_str (txtB (kk, d, q :: r)) (l ++ ⟨#[10]⟩)
  by_cases ht : txtB (kk, d, q :: r) = l ++ ⟨#[10]⟩
  ·rw [decide_eq_true ht] at hq2
   rw [if_pos ⟨hx, ht⟩] at hR
   subst hR
   dsimp only [lgV] at hRV
   rw [enW_mk, List.map_cons] at hRV
   subst hRV
   simp (disch := (first | omega | assumption)) only [hI, a0, a1, a2, a3, a4, a5, a6, hl, hcat, hLI, k0, k1, k2, k3, k4, k5, k6, hwd, hA, hn0, hn1, hIt, hq, hpd, hSm, hPa, hz, hq2, freezeL, St.freeze, List.filter_cons, List.filter_nil, bne, and_self, Int.le_refl, go_sem, evP_D, evD_guard, evD_cons, evD_zero, evD_nil]
  ·rw [decide_eq_false ht] at hq2
   rw [if_neg (fun h => ht h.2)] at hR
   subst hR
   dsimp only [lgV] at hRV
   subst hRV
   simp (disch := (first | omega | assumption)) only [hI, a0, a1, a2, a3, a4, a5, a6, hl, hcat, hLI, k0, k1, k2, k3, k4, k5, k6, hwd, hA, hn0, hn1, hIt, hq, hpd, hSm, hPa, hz, hq2, freezeL, St.freeze, List.filter_cons, List.filter_nil, bne, and_self, Int.le_refl, go_sem, evP_D, evD_guard, evD_cons, evD_zero, evD_nil]
end Go.Proofs.YtdmkmbaaemhhhaaGreatDoor
