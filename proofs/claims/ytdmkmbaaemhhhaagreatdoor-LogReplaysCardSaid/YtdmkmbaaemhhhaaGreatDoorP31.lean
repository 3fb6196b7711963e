/-
  A line read as the document says it, run by the machine: Parse.
-/
import Derived.Test.YtdmkmbaaemhhhaaGreatDoorP30
import Derived.Lib.IndexBytes
set_option linter.unusedVariables false
set_option linter.unusedSimpArgs false
namespace Go.Lg
open Go Go.Acc
theorem nl_index (s : ByteArray) : Lib.indexB s ⟨#[10]⟩ = nlAt s := Lib.index_one s.data.toList 10
theorem nl_ge (s : ByteArray) : -1 ≤ nlAt s := Lib.indexByte_ge _ _
theorem nl_lt {s : ByteArray} (h : 0 ≤ nlAt s) : (nlAt s).toNat < s.size := by
 have := Lib.index_room s.data.toList [10] (by rw [Lib.index_one]; exact h)
 rw [Lib.index_one] at this
 have e := Lib.size_eq s
 have e2 : nlAt s = Lib.indexByte s.data.toList 10 := rfl
 simp at this
 omega
theorem occ_pre (l : ByteArray) (j : Nat) : Lib.hasPrefix (l.extract j l.size).data.toList [32, 61] = Lib.occAt l.data.toList [32, 61] j := by
 have e : (l.extract j l.size).data.toList = l.data.toList.drop j := by
  rw [Lib.extract_data, List.take_of_length_le]
  rw [List.length_drop, ← Lib.size_eq]
  omega
 rw [e]
 rfl
theorem occ_far {l : List UInt8} {j : Nat} (h : l.length < j + 2) : Lib.occAt l [32, 61] j = false := by
 cases ho : Lib.occAt l [32, 61] j with
 | false => rfl
 | true =>
  rcases Lib.occAt_room ho with h1 | h1
  ·simp at h1; omega
  ·simp at h1
theorem last_full (l : List UInt8) : Lib.lastOcc l [32, 61] l.length = Lib.lastIndex l [32, 61] := by
 unfold Lib.lastIndex
 by_cases h : 2 ≤ l.length
 ·obtain ⟨k, hk⟩ : ∃ k, l.length = k + 2 := ⟨l.length - 2, by omega⟩
  have h2 : ([(32 : UInt8), 61]).length = 2 := rfl
  rw [if_pos (by rw [h2]; exact h), h2, hk, show k + 2 - 2 + 1 = k + 1 by omega]
  exact Lib.lastOcc_miss _ _ (k + 1) (occ_far (by omega))
 ·have h2 : ([(32 : UInt8), 61]).length = 2 := rfl
  rw [if_neg (by rw [h2]; exact h)]
  have hl : l.length = 0 ∨ l.length = 1 := by omega
  rcases hl with hl | hl
  ·rw [hl]; rfl
  ·rw [hl]
   exact (Lib.lastOcc_miss _ _ 0 (occ_far (by omega))).trans rfl
theorem last_bd (l : List UInt8) (k : Nat) : -1 ≤ Lib.lastOcc l [32, 61] k ∧ Lib.lastOcc l [32, 61] k < k := by
 rcases Lib.lastOcc_spec l [32, 61] k with ⟨e, _⟩ | ⟨i, hi, e, _⟩
 ·rw [e]; omega
 ·rw [e]; omega
theorem parse_key (rd : ByteArray → Int) {ws : List ByteArray} {m : Nat} (h : ∀ w ∈ ws, w.size ≤ m) : (parseG rd ws).1.size ≤ m := by
 match ws with
 | [] => show ByteArray.empty.size ≤ m; exact Nat.zero_le _
 | [a] => exact h a (by simp)
 | a :: b :: r => exact h a (by simp)
end Go.Lg
namespace Go.Proofs.YtdmkmbaaemhhhaaGreatDoor
open Go Go.Ev Go.RowKit Go.Acc Go.Lg
set_option maxHeartbeats 4000000
theorem cut_nl {s : ByteArray} (h : nlAt s < 0) : cutV s ⟨#[10]⟩ = .tup [.str s, .str ByteArray.empty, .bool false] := by
 obtain ⟨h1, h2, h3⟩ := Lib.cutB_miss s ⟨#[10]⟩ (by rw [nl_index]; have := nl_ge s; omega)
 unfold cutV
 rw [h1, h2, h3]
theorem cut_at {s : ByteArray} (h : 0 ≤ nlAt s) : ∃ r, cutV s ⟨#[10]⟩ = .tup [.str (s.extract 0 (nlAt s).toNat), .str r, .bool true] := by
 obtain ⟨h1, h2, h3⟩ := Lib.cutB_hit s ⟨#[10]⟩ (nlAt s).toNat (by rw [nl_index]; omega)
 unfold cutV
 rw [h1, h3]
 exact ⟨_, rfl⟩
def lgV (r : Option En × Int × Int) : V := .tup [(match r.1 with | some e => enW e | none => .agg [.str ByteArray.empty, .int .i64 0, .zero]), .int .i64 r.2.1, .int .i64 r.2.2]
def rezF : List V → Option (V × List Ev.Blk)
 | [.agg [.str key, .int .i64 day, L]] => match rowAc L with
  | some l => if key.size ≤ maxLen ∧ l.length ≤ maxLen then some (.int .i64 (enE key day l), []) else none
  | none => none
 | _ => none
theorem rezF_row {key : ByteArray} {day : Int} {l : List (ByteArray × Int)} (hk : key.size ≤ maxLen) (hl : l.length ≤ maxLen) : rezF [.agg [.str key, .int .i64 day, .row 2 (l.map acV)]] = some (.int .i64 (enE key day l), []) := by
 simp only [rezF, rowAc_row]
 exact if_pos ⟨hk, hl⟩
theorem rezF_zero {key : ByteArray} {day : Int} (hk : key.size ≤ maxLen) : rezF [.agg [.str key, .int .i64 day, .zero]] = some (.int .i64 (enE key day []), []) := by
 simp only [rezF, rowAc]
 exact if_pos ⟨hk, by simp⟩
theorem rez_snd {J : World → Prop} (hJ : Stable J) : Snd Tryz.prog J 21 rezF := by
 intro args r bs h
 unfold rezF at h
 split at h
 ·rename_i key day L
  split at h
  ·rename_i l hl
   split at h
   ·rename_i hc
    obtain ⟨rfl, rfl⟩ := some_pair h
    exact sound_by (rentry_sound hJ key day l hc.1 hc.2) rfl fun w ok j c v hc hv => by
     match j with
     | 0 => simp at hc; subst hc; exact ⟨_, rfl, enV_rel hl hv⟩
     | j + 1 => simp at hc
   ·cases h
  ·cases h
 ·cases h
def rsF : List V → Option (V × List Ev.Blk)
 | [.str s] => if s.size ≤ 67108864 then some (.int .i64 (sumB s), []) else none
 | _ => none
theorem rsF_eq {s : ByteArray} (h : s.size ≤ 67108864) : rsF [.str s] = some (.int .i64 (sumB s), []) := if_pos h
theorem rs_snd {J : World → Prop} (hJ : Stable J) : Snd Tryz.prog J 61 rsF := by
 intro args r bs h
 unfold rsF at h
 split at h
 ·split at h
  ·rename_i s hs
   obtain ⟨rfl, rfl⟩ := some_pair h
   exact rsum_sound hJ s hs
  ·cases h
 ·cases h
def txF : List V → Option (V × List Ev.Blk)
 | [.agg [.str k, .int .i64 d, .row 2 es]] => match unAc es with
  | some l => if enX (k, d, l) = 0 then some (.str (txtB (k, d, l)), []) else none
  | none => none
 | _ => none
theorem txF_eq {k : ByteArray} {d : Int} {l : List (ByteArray × Int)} (h : enX (k, d, l) = 0) : txF [.agg [.str k, .int .i64 d, .row 2 (l.map acV)]] = some (.str (txtB (k, d, l)), []) := by
 simp only [txF, unAc_map]
 exact if_pos h
theorem tx_snd {J : World → Prop} (hJ : Stable J) : Snd Tryz.prog J 22 txF := by
 intro args r bs h
 unfold txF at h
 split at h
 ·rename_i k d es
  split at h
  ·rename_i l hl
   split at h
   ·rename_i hx
    obtain ⟨rfl, rfl⟩ := some_pair h
    have e := unAc_eq hl
    subst e
    exact text_sound hJ (k, d, l) hx
   ·cases h
  ·cases h
 ·cases h
def rpSt (l : ByteArray) (ws : List ByteArray) (j : Nat) (e : En) : St := match e.2.2 with
 | [] => ⟨[(2, .ptr 16 0), (5, .str l), (11, .ptr 88 0), (68, .row 1 (ws.map V.str)), (69, .int .i64 ws.length), (70, .int .i64 j)], [(16, .box (.agg [.str ByteArray.empty, .int .i64 0, .zero])), (88, .box (.agg [.str e.1, .int .i64 e.2.1, .zero]))]⟩
 | p :: r => ⟨[(2, .ptr 16 0), (5, .str l), (11, .ptr 88 0), (68, .row 1 (ws.map V.str)), (69, .int .i64 ws.length), (70, .int .i64 j)], [(16, .box (.agg [.str ByteArray.empty, .int .i64 0, .zero])), (88, .box (.agg [.str e.1, .int .i64 e.2.1, .vec 832])), (832, .vec 61 2 ((p :: r).map acV))]⟩
set_option maxRecDepth 20000 in
set_option maxHeartbeats 16000000 in
theorem rparse_sound (s : ByteArray) (hs : s.size ≤ 67108864) : SoundAt Tryz.prog LgJ 24 [.str s] (lgV (lgR rd2 s)) [] := by
 have hJ := stableLg
 have hC := cutF_eq (s := s) (sep := ⟨#[10]⟩) (by omega)
 by_cases hn : nlAt s < 0
 ·have e : lgR rd2 s = (none, 0, 8) := by unfold lgR; rw [if_pos hn]
  rw [cut_nl hn] at hC
  have em : ByteArray.empty = ⟨#[]⟩ := rfl
  rw [e]
  unfold lgV
  simp only
  refine evFn (l := [(66, cutF)]) (nv := nv0) (fz := fz0) (dr := dr24) (dd := dd24) (lam := []) (ms := ms0) ⟨cut_snd, trivial⟩ hJ trivial ms0_ok Tryz.func24 rfl rfl (Nat.le_of_ble_eq_true rfl) (Nat.le_of_ble_eq_true rfl) drOk24 ?_
  dsimp only [Tryz.f24, dr24, dd24, Option.getD_some]
  refine ev_start ?_
  simp (disch := omega) only [hC, go_sem, evP_D, evD_guard, evD_cons, evD_zero, evD_nil]
 have hn0 : 0 ≤ nlAt s := by omega
 obtain ⟨rest, hcut⟩ := cut_at hn0
 rw [hcut] at hC
 have hlt0 := nl_lt hn0
 have hlsz : (s.extract 0 (nlAt s).toNat).size = (nlAt s).toNat := by rw [ByteArray.size_extract]; omega
 have hR : lgR rd2 s = (if eqAt (s.extract 0 (nlAt s).toNat) < 0 then (none, 0, 3)
   else match num5 ((s.extract 0 (nlAt s).toNat).extract ((eqAt (s.extract 0 (nlAt s).toNat)).toNat + 2) (s.extract 0 (nlAt s).toNat).size) with
    | none => (none, 0, 3)
    | some n =>
     if n = sumB ((s.extract 0 (nlAt s).toNat).extract 0 (eqAt (s.extract 0 (nlAt s).toNat)).toNat) then
      (if enX (parseG rd2 (wordsB ((s.extract 0 (nlAt s).toNat).extract 0 (eqAt (s.extract 0 (nlAt s).toNat)).toNat))) = 0 ∧ txtB (parseG rd2 (wordsB ((s.extract 0 (nlAt s).toNat).extract 0 (eqAt (s.extract 0 (nlAt s).toNat)).toNat))) = s.extract 0 (nlAt s).toNat ++ ⟨#[10]⟩ then (some (parseG rd2 (wordsB ((s.extract 0 (nlAt s).toNat).extract 0 (eqAt (s.extract 0 (nlAt s).toNat)).toNat))), nlAt s + 1, 0) else (none, 0, 3))
     else (none, 0, 7) : Option En × Int × Int) := by
  conv => lhs; unfold lgR
  rw [if_neg hn]
  rfl
 have hat : nlAt s + 1 = ((s.extract 0 (nlAt s).toNat).size : Int) + 1 := by rw [hlsz]; omega
 rw [hat] at hR
 have hl64 : (s.extract 0 (nlAt s).toNat).size ≤ 67108864 := by omega
 generalize s.extract 0 (nlAt s).toNat = l at *
 obtain ⟨R, hRR⟩ : ∃ R, R = lgR rd2 s := ⟨_, rfl⟩
 rw [← hRR] at hR ⊢
 obtain ⟨RV, hRV⟩ : ∃ RV, RV = lgV R := ⟨_, rfl⟩
 rw [← hRV]
 clear hRR hat hlsz hlt0 hn0 hn hcut
 have hlen : l.data.toList.length = l.size := (Lib.size_eq l).symm
 refine evFn (l := [(66, cutF), (67, hpF), (68, nuF), (69, withinF), (61, rsF), (70, spF), (21, rezF), (22, txF)]) (nv := nv0) (fz := fzL [(107, [832])]) (dr := dr24) (dd := dd24) (lam := []) (ms := ms0) ⟨cut_snd, hp_snd, nu_snd hJ, within_snd hJ, rs_snd hJ, sp_snd, rez_snd hJ, tx_snd hJ, trivial⟩ hJ trivial ms0_ok Tryz.func24 rfl rfl (Nat.le_of_ble_eq_true rfl) (Nat.le_of_ble_eq_true rfl) drOk24 ?_
 dsimp only [Tryz.f24, dr24, dd24, Option.getD_some]
 refine ev_start ?_
 simp (disch := omega) only [hC, go_sem, evP_D, evD_guard, evD_cons, evD_zero, evD_nil]
 refine evQ_loop [2, 5, 8, 29, 30] [16] (fun σ => ∃ (j : Nat), j ≤ l.size ∧ σ = ⟨[(2, .ptr 16 0), (5, .str l), (8, .int .i64 (Lib.lastOcc l.data.toList [32, 61] j)), (29, .int .i64 l.size), (30, .int .i64 j)], [(16, .box (.agg [.str ByteArray.empty, .int .i64 0, .zero]))]⟩)
  (fun σ => l.size - (match Ev.look 30 σ.env with | some (.int _ n) => n.toNat | _ => 0)) ?_ ?_
 ·simp only [go_sem, evP_D, evD_guard, evD_cons, evD_zero, evD_nil]
  exact ⟨0, Nat.zero_le _, rfl⟩
 ·rintro σ ⟨j, hj, rfl⟩
  by_cases hlt : j < l.size
  case pos =>
   have hlt' : (j : Int) < l.size := by omega
   have c0 : (0 : Int) ≤ j := by omega
   have c1 : (j : Int) ≤ l.size := by omega
   have c2 : (j : Int).toNat = j := by omega
   have hP := hpF_eq (l.extract j l.size) ⟨#[32, 61]⟩
   have e61 : (⟨#[32, 61]⟩ : ByteArray).data.toList = [32, 61] := rfl
   rw [e61, occ_pre] at hP
   have hms : l.size - ((j : Int) + 1).toNat < l.size - (j : Int).toNat := by
    have e3 : ((j : Int) + 1).toNat = j + 1 := by omega
    rw [e3, Int.toNat_natCast]; exact Nat.sub_lt_sub_left hlt (Nat.lt_succ_self j)
   cases ho : Lib.occAt l.data.toList [32, 61] j with
   | true =>
    rw [ho] at hP
    have hst := Lib.lastOcc_hit l.data.toList [32, 61] j ho
    simp (disch := (first | omega | assumption)) only [hlt', c0, c1, c2, hP, and_self, Int.toNat_natCast, Int.le_refl, Nat.le_refl, go_sem, evP_D, evD_guard, evD_cons, evD_zero, evD_nil]
    exact ⟨⟨j + 1, hlt, by rw [hst]; rfl⟩, hms⟩
   | false =>
    rw [ho] at hP
    have hst := Lib.lastOcc_miss l.data.toList [32, 61] j ho
    simp (disch := (first | omega | assumption)) only [hlt', c0, c1, c2, hP, and_self, Int.toNat_natCast, Int.le_refl, Nat.le_refl, go_sem, evP_D, evD_guard, evD_cons, evD_zero, evD_nil]
    exact ⟨⟨j + 1, hlt, by rw [hst]; rfl⟩, hms⟩
  have hj' : j = l.size := by omega
  subst hj'
  have hlt' : ¬ ((l.size : Int) < l.size) := by omega
  have hlast : Lib.lastOcc l.data.toList [32, 61] l.size = eqAt l := by rw [← hlen]; exact last_full _
  rw [hlast]
  by_cases hk0 : eqAt l < 0
  ·rw [if_pos hk0] at hR
   subst hR
   dsimp only [lgV] at hRV
   subst hRV
   simp (disch := (first | omega | assumption)) only [hlt', hk0, go_sem, evP_D, evD_guard, evD_cons, evD_zero, evD_nil]
  rw [if_neg hk0] at hR
  have hkb := last_bd l.data.toList l.size
  rw [hlast] at hkb
  obtain ⟨k, hk⟩ : ∃ k : Nat, eqAt l = k := ⟨(eqAt l).toNat, by omega⟩
  obtain ⟨hk2, _⟩ := last_split hk
  rw [hlen] at hk2
  rw [hk, show ((k : Nat) : Int).toNat = k by omega] at hR
  rw [hk]
  have k0 : ¬ (k : Int) < 0 := by omega
  have k1 : (0 : Int) ≤ (k : Int) + 2 := by omega
  have k2 : (k : Int) + 2 ≤ l.size := by omega
  have k3 : ((k : Int) + 2).toNat = k + 2 := by omega
  have k4 : (0 : Int) ≤ (k : Int) := by omega
  have k5 : (k : Int) ≤ l.size := by omega
  have k6 : (k : Int).toNat = k := by omega
  have hN := nuF_eq (s := l.extract (k + 2) l.size) (m := 5) (by omega)
  have h5 := num5_num (l.extract (k + 2) l.size)
  generalize num2 5 (l.extract (k + 2) l.size) = nb at *
  obtain ⟨n, b⟩ := nb
  simp only at hN h5
  cases b with
  | false =>
   rw [if_neg (by simp)] at h5
   rw [h5] at hR
   simp only at hR
   subst hR
   dsimp only [lgV] at hRV
   subst hRV
   simp (disch := (first | omega | assumption)) only [hlt', k0, k1, k2, k3, hN, and_self, Int.le_refl, go_sem, evP_D, evD_guard, evD_cons, evD_zero, evD_nil]
  | true =>
   by_cases hw : 0 ≤ n ∧ n ≤ 65520
   case neg =>
    rw [if_neg (fun h => hw h.2)] at h5
    rw [h5] at hR
    simp only at hR
    subst hR
    have hw' : decide (0 ≤ n ∧ n ≤ 65520) = false := decide_eq_false hw
    dsimp only [lgV] at hRV
    subst hRV
    simp (disch := (first | omega | assumption)) only [hlt', k0, k1, k2, k3, hN, withinF_eq, hw', and_self, Int.le_refl, go_sem, evP_D, evD_guard, evD_cons, evD_zero, evD_nil]
   rw [if_pos ⟨rfl, hw⟩] at h5
   rw [h5] at hR
   simp only at hR
   have hw' : decide (0 ≤ n ∧ n ≤ 65520) = true := decide_eq_true hw
   have hpsz : (l.extract 0 k).size ≤ 67108864 := by rw [ByteArray.size_extract]; omega
   have hSm := rsF_eq hpsz
   by_cases hsum : n = sumB (l.extract 0 k)
   case neg =>
    rw [if_neg hsum] at hR
    subst hR
    have hsum' : ¬ (n = sumB (l.extract 0 k)) := hsum
    dsimp only [lgV] at hRV
    subst hRV
    simp (disch := (first | omega | assumption)) only [hlt', k0, k1, k2, k3, k4, k5, k6, hN, withinF_eq, hw', hSm, hsum', and_self, Int.le_refl, go_sem, evP_D, evD_guard, evD_cons, evD_zero, evD_nil]
   rw [if_pos hsum] at hR
   have hSp := spF_eq (s := l.extract 0 k) (by omega)
   have hwl := words_len (l.extract 0 k)
   have hws : ∀ w ∈ wordsB (l.extract 0 k), w.size ≤ 67108864 := fun w h => Nat.le_trans (words_size h) hpsz
   rw [← hsum] at hSm
   generalize hW : wordsB (l.extract 0 k) = ws at *
   simp (disch := (first | omega | assumption)) only [hlt', k0, k1, k2, k3, k4, k5, k6, hN, withinF_eq, hw', hSm, hSp, List.length_map, and_self, Int.le_refl, go_sem, evP_D, evD_guard, evD_cons, evD_zero, evD_nil]
   have hkey := parse_key rd2 hws
   have hpl := parse_len rd2 ws
   refine evQ_loop [2, 5, 11, 68, 69, 70] [16, 88, 832] (fun σ => ∃ (j : Nat), j ≤ ws.length ∧ σ = rpSt l ws j (parseG rd2 (ws.take j)))
    (fun σ => ws.length - (match Ev.look 70 σ.env with | some (.int _ n) => n.toNat | _ => 0)) ?_ ?_
   ·simp only [go_sem, evP_D, evD_guard, evD_cons, evD_zero, evD_nil]
    exact ⟨0, Nat.zero_le _, rfl⟩
   ·rintro σ ⟨j, hj, rfl⟩
    by_cases hlt : j < ws.length
    case neg =>
     have hj' : j = ws.length := by omega
     subst hj'
     have hlt' : ¬ ((ws.length : Int) < ws.length) := by omega
     have b10 := bin_add_str (x := l) (y := ⟨#[10]⟩) (by have : (⟨#[10]⟩ : ByteArray).size = 1 := rfl; omega)
     rw [List.take_length]
     generalize parseG rd2 ws = e at *
     obtain ⟨kk, d, ll⟩ := e
     simp only at hkey hpl
     cases ll with
     | nil =>
      have hz := rezF_zero (key := kk) (day := d) (by simp only [maxLen]; omega)
      have hx : ¬ enX (kk, d, []) = 0 := fun h => by have := (lnChk_ok (enE_ok h)).1; simp at this
      have hx' : ¬ enE kk d [] = 0 := hx
      rw [if_neg (fun h => hx h.1)] at hR
      subst hR
      dsimp only [lgV] at hRV
      subst hRV
      unfold rpSt
      simp (disch := (first | omega | assumption)) only [hlt', hz, hx', freezeL, St.freeze, List.filter_cons, List.filter_nil, bne, go_sem, evP_D, evD_guard, evD_cons, evD_zero, evD_nil]
     | cons q r =>
      have hz := rezF_row (key := kk) (day := d) (l := q :: r) (by simp only [maxLen]; omega) (by simp only [maxLen]; omega)
      rw [List.map_cons] at hz
      by_cases hx : enX (kk, d, q :: r) = 0
      case neg =>
       have hx' : ¬ enE kk d (q :: r) = 0 := hx
       rw [if_neg (fun h => hx h.1)] at hR
       subst hR
       dsimp only [lgV] at hRV
       subst hRV
       unfold rpSt
       simp (disch := (first | omega | assumption)) only [hlt', hz, hx', freezeL, St.freeze, List.filter_cons, List.filter_nil, bne, go_sem, evP_D, evD_guard, evD_cons, evD_zero, evD_nil]
      have hx' : enE kk d (q :: r) = 0 := hx
      have hT := txF_eq hx
      rw [List.map_cons] at hT
      have hq : binV .neq (.str (txtB (kk, d, q :: r))) (.str (l ++ ⟨#[10]⟩)) = some (.bool (!decide (txtB (kk, d, q :: r) = l ++ ⟨#[10]⟩))) := by rw [← str_beq]; rfl
      by_cases ht : txtB (kk, d, q :: r) = l ++ ⟨#[10]⟩
      ·rw [decide_eq_true ht] at hq
       rw [if_pos ⟨hx, ht⟩] at hR
       subst hR
       dsimp only [lgV] at hRV
       rw [enW_mk] at hRV
       subst hRV
       unfold rpSt
       simp (disch := (first | omega | assumption)) only [hlt', hz, hx', hT, hq, b10, freezeL, St.freeze, List.filter_cons, List.filter_nil, bne, go_sem, evP_D, evD_guard, evD_cons, evD_zero, evD_nil]
      ·rw [decide_eq_false ht] at hq
       rw [if_neg (fun h => ht h.2)] at hR
       subst hR
       dsimp only [lgV] at hRV
       subst hRV
       unfold rpSt
       simp (disch := (first | omega | assumption)) only [hlt', hz, hx', hT, hq, b10, freezeL, St.freeze, List.filter_cons, List.filter_nil, bne, go_sem, evP_D, evD_guard, evD_cons, evD_zero, evD_nil]
    have hlt' : (j : Int) < ws.length := by omega
    obtain ⟨w, hw⟩ : ∃ w, ws[j]? = some w := ⟨_, List.getElem?_eq_getElem hlt⟩
    have hg := word_get hw
    have hsz := hws w (List.mem_of_getElem? hw)
    have hms : ws.length - ((j : Int) + 1).toNat < ws.length - (j : Int).toNat := by
     have e3 : ((j : Int) + 1).toNat = j + 1 := by omega
     rw [e3, Int.toNat_natCast]; exact Nat.sub_lt_sub_left hlt (Nat.lt_succ_self j)
    by_cases h0 : j = 0
    ·subst h0
     have z0 : ((0 : Nat) : Int) = 0 := rfl
     have hi0 := idx_nat ws.length 0 hlt
     have hp1 := parse_0 rd2 hw
     rw [(parse_low rd2 ws).1]
     unfold rpSt
     simp only
     rw [z0] at hlt' hi0 hms ⊢
     simp (disch := (first | omega | assumption)) only [hlt', hi0, List.length_map, hg, go_sem, evP_D, evD_guard, evD_cons, evD_zero, evD_nil]
     exact ⟨⟨1, hlt, by rw [hp1]; rfl⟩, hms⟩
    by_cases h1 : j = 1
    ·subst h1
     have z1 : ((1 : Nat) : Int) = 1 := rfl
     have hi1 := idx_nat ws.length 1 hlt
     have hp1 := parse_1 rd2 hw
     have hpl1 := (parse_low rd2 ws).2
     have hA := nuF_eq (s := w) (m := 18) (by omega)
     have hr2 : rd2 w = (num2 18 w).1 := rfl
     rw [hr2] at hp1
     generalize num2 18 w = nb at *
     generalize parseG rd2 (ws.take 1) = e at *
     obtain ⟨kk, dl⟩ := e
     simp only at hpl1 hp1
     subst hpl1
     unfold rpSt
     simp only
     rw [z1] at hlt' hi1 hms ⊢
     simp (disch := (first | omega | assumption)) only [hlt', hi1, List.length_map, hg, hA, go_sem, evP_D, evD_guard, evD_cons, evD_zero, evD_nil]
     exact ⟨⟨2, hlt, by rw [hp1]; rfl⟩, hms⟩
    ·have h0' : ¬ (j : Int) = 0 := by omega
     have h1' : ¬ (j : Int) = 1 := by omega
     have hp2 := parse_2 rd2 (show 2 ≤ j by omega) hw
     have hC2 := cutF_eq (s := w) (sep := ⟨#[58]⟩) (by omega)
     rw [cutV_two] at hC2
     have hA := nuF_eq (s := (cutW w).2) (m := 18) (by omega)
     have hlr : lnR rd2 w = ((cutW w).1, (num2 18 (cutW w).2).1) := rfl
     have hll := parse_len rd2 (ws.take j)
     have htl : (ws.take j).length ≤ ws.length := by rw [List.length_take]; omega
     rw [hlr] at hp2
     generalize (Lib.cut w.data.toList [58]).2.2 = cb at *
     generalize (cutW w).1 = c1 at *
     generalize (cutW w).2 = c2 at *
     generalize num2 18 c2 = nb at *
     generalize parseG rd2 (ws.take j) = e at *
     obtain ⟨kk, d, ll⟩ := e
     simp only at hp2 hll
     cases ll with
     | nil =>
      unfold rpSt
      simp only
      simp (disch := (first | omega | assumption)) only [hlt', h0', h1', idx_nat, List.length_map, hg, hC2, hA, go_sem, evP_D, evD_guard, evD_cons, evD_zero, evD_nil]
      exact ⟨⟨j + 1, hlt, by rw [hp2]; rfl⟩, hms⟩
     | cons q r =>
      rw [List.length_cons] at hll
      unfold rpSt
      simp only
      simp (disch := (first | omega | assumption)) only [hlt', h0', h1', idx_nat, List.length_map, List.length_cons, hg, hC2, hA, go_sem, evP_D, evD_guard, evD_cons, evD_zero, evD_nil]
      exact ⟨⟨j + 1, hlt, by rw [hp2]; simp only [rpSt, List.cons_append, List.map_cons, List.map_append]; rfl⟩, hms⟩
end Go.Proofs.YtdmkmbaaemhhhaaGreatDoor
