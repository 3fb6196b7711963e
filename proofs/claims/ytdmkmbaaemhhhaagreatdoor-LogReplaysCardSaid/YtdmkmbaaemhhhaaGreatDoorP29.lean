/-
  Steps of the proof of LogReplays: LgF LgG.
-/
import Derived.Test.YtdmkmbaaemhhhaaGreatDoorP24
import Derived.Test.YtdmkmbaaemhhhaaGreatDoorP08
import Derived.Test.YtdmkmbaaemhhhaaGreatDoorP09
import Derived.Test.YtdmkmbaaemhhhaaGreatDoorP21
import Derived.Test.YtdmkmbaaemhhhaaGreatDoorP27
import Derived.Test.YtdmkmbaaemhhhaaGreatDoorP19
set_option linter.unusedVariables false
set_option linter.unusedSimpArgs false
section
namespace Go.Lg
open Go Go.Acc
theorem decF_itoa : ∀ (k n : Nat), n < 10 ^ (k + 1) → decF k n = ⟨(Lib.decDigits n).toArray⟩
 | 0, n, h => by
  have h10 : n < 10 := by simpa using h
  rw [Lib.decDigits_one h10]
  show digB n = _
  have : ∀ m : Fin 10, digB m.val = ⟨[UInt8.ofNat (48 + m.val)].toArray⟩ := by decide +kernel
  exact this ⟨n, h10⟩
 | k + 1, n, h => by
  by_cases h10 : n < 10
  ·rw [decF_lt _ h10, ← decF_lt 0 h10]
   exact decF_itoa 0 n (by simpa using h10)
  ·have d1 : n / 10 < 10 ^ (k + 1) := by rw [Nat.div_lt_iff_lt_mul (by omega)]; rw [Nat.pow_succ] at h; exact h
   have e : decF (k + 1) n = decF k (n / 10) ++ digB (n % 10) := by rw [decF]; exact if_neg h10
   have e2 : digB (n % 10) = decF 0 (n % 10) := rfl
   rw [e, e2, decF_itoa k _ d1, decF_itoa 0 _ (by have := Nat.mod_lt n (show 0 < 10 by omega); simpa using this), Lib.decDigits_one (Nat.mod_lt _ (by omega))]
   refine ba_ext ?_
   have e3 : Lib.decDigits n = Lib.decDigits (n / 10) ++ [UInt8.ofNat (48 + n % 10)] := by rw [Lib.decDigits, dif_neg h10]
   rw [e3]
   simp
theorem sum_get {l : List UInt8} {k : Nat} {b : UInt8} (h : l[k]? = some b) : sumL 1 (l.take (k + 1)) = sumL 1 (l.take k) + (k + 1) * b.toNat := by
 have hlt := (List.getElem?_eq_some_iff.1 h).1
 have e : (l.take k).length = k := by rw [List.length_take]; omega
 rw [List.take_add_one, h, Option.toList_some, sumL_app, e, sumL, sumL, Nat.add_comm 1 k]
 rfl
theorem sum_drop {l : List UInt8} {k : Nat} {b : UInt8} (h : l[k]? = some b) : sumL (k + 1) (l.drop k) = (k + 1) * b.toNat + sumL (k + 2) (l.drop (k + 1)) := by
 obtain ⟨h1, h2⟩ := List.getElem?_eq_some_iff.1 h
 rw [List.drop_eq_getElem_cons h1, h2, sumL]
theorem sum_bd (l : List UInt8) (k : Nat) (h : l.length ≤ 67108864) : sumL (k + 1) (l.drop k) ≤ 1148417922092236800 ∧ sumL 1 (l.take k) ≤ 1148417922092236800 := by
 have h1 := sumL_le (l.drop k) (k + 1)
 have h2 := sumL_le (l.take k) 1
 have h3 : (l.take k).length ≤ 67108864 := by rw [List.length_take]; omega
 constructor
 ·by_cases hk : k ≤ l.length
  ·have e1 : k + 1 + (l.drop k).length ≤ 67108865 := by rw [List.length_drop]; omega
   have e2 : (l.drop k).length ≤ 67108864 := by rw [List.length_drop]; omega
   refine Nat.le_trans h1 (Nat.le_trans (Nat.mul_le_mul (Nat.mul_le_mul_right 255 e1) e2) (by decide))
  ·rw [List.drop_eq_nil_of_le (by omega)]
   exact Nat.zero_le _
 ·exact Nat.le_trans h2 (Nat.le_trans (Nat.mul_le_mul (Nat.mul_le_mul_right 255 (show 1 + (l.take k).length ≤ 67108865 by omega)) h3) (by decide))
end Go.Lg
namespace Go.Proofs.YtdmkmbaaemhhhaaGreatDoor
open Go Go.Ev Go.RowKit Go.Acc Go.Lg
set_option maxHeartbeats 4000000
set_option maxHeartbeats 4000000 in
theorem lsum_sound {J : World → Prop} (hJ : Stable J) (s : ByteArray) (hs : s.size ≤ 67108864) : SoundAt Tryz.prog J 56 [.str s] (.int .i64 (sumB s)) [] := by
 have hsz := Lib.size_eq s
 refine evFn (l := []) (nv := nv0) (fz := fz0) (dr := dr56) (dd := dd56) (lam := []) (ms := ms0) trivial hJ trivial ms0_ok Tryz.func56 rfl rfl (Nat.le_of_ble_eq_true rfl) (Nat.le_of_ble_eq_true rfl) drOk56 ?_
 dsimp only [Tryz.f56, dr56, dd56, Option.getD_some]
 refine ev_start ?_
 simp (disch := omega) only [go_sem, evP_D, evD_guard, evD_cons, evD_zero, evD_nil]
 refine evQ_loop [0, 3, 6, 7] [] (fun σ => ∃ (k : Nat), k ≤ s.size ∧ σ = ⟨[(0, .str s), (3, .int .i64 ((sumL 1 (s.data.toList.take k) % 65521 : Nat) : Int)), (6, .int .i64 s.size), (7, .int .i64 k)], []⟩)
  (fun σ => s.size - (match Ev.look 7 σ.env with | some (.int _ n) => n.toNat | _ => 0)) ?_ ?_
 ·simp only [go_sem, evP_D, evD_guard, evD_cons, evD_zero, evD_nil]
  exact ⟨0, Nat.zero_le _, rfl⟩
 ·rintro σ ⟨k, hk, rfl⟩
  by_cases hlt : k < s.size
  case neg =>
   have hk' : k = s.size := by omega
   subst hk'
   have hlt' : ¬ ((s.size : Int) < s.size) := by omega
   have e : sumB s = ((sumL 1 (s.data.toList.take s.size) % 65521 : Nat) : Int) := by unfold sumB; rw [hsz, List.take_length]
   rw [e]
   simp (disch := (first | omega | assumption)) only [hlt', go_sem, evP_D, evD_guard, evD_cons, evD_zero, evD_nil]
  have hlt' : (k : Int) < s.size := by omega
  obtain ⟨b, hb⟩ : ∃ b, s.data.toList[k]? = some b := ⟨_, List.getElem?_eq_getElem (by omega)⟩
  have hg : s[k]? = some b := by rw [str_get]; exact hb
  have h0 : (0 : Int) ≤ k := by omega
  have hk0 : (k : Int).toNat = k := by omega
  have hb255 := b.toNat_lt
  have hstep := sum_get hb
  have hms : s.size - ((k : Int) + 1).toNat < s.size - (k : Int).toNat := by
   have e3 : ((k : Int) + 1).toNat = k + 1 := by omega
   rw [e3, Int.toNat_natCast]; exact Nat.sub_lt_sub_left hlt (Nat.lt_succ_self k)
  have hm1 : ((k : Int) + 1) * (b.toNat : Int) = (((k + 1) * b.toNat : Nat) : Int) := by push_cast; rfl
  have hm2 : (k + 1) * b.toNat ≤ 67108864 * 255 := Nat.mul_le_mul (by omega) (by omega)
  generalize sumL 1 (s.data.toList.take k) = X at *
  generalize hY : (k + 1) * b.toNat = Y at *
  have hr : (((X % 65521 : Nat) : Int) + (Y : Int)).tmod 65521 = (((X + Y) % 65521 : Nat) : Int) := by
   rw [Int.tmod_eq_emod_of_nonneg (by omega)]; omega
  simp (disch := (first | omega | assumption)) only [hlt', h0, hk0, hg, hm1, hr, go_sem, evP_D, evD_guard, evD_cons, evD_zero, evD_nil]
  exact ⟨⟨k + 1, hlt, by rw [hstep]; rfl⟩, hms⟩
set_option maxHeartbeats 4000000 in
theorem rsum_sound {J : World → Prop} (hJ : Stable J) (s : ByteArray) (hs : s.size ≤ 67108864) : SoundAt Tryz.prog J 61 [.str s] (.int .i64 (sumB s)) [] := by
 have hsz := Lib.size_eq s
 refine evFn (l := []) (nv := nv0) (fz := fz0) (dr := dr61) (dd := dd61) (lam := []) (ms := ms0) trivial hJ trivial ms0_ok Tryz.func61 rfl rfl (Nat.le_of_ble_eq_true rfl) (Nat.le_of_ble_eq_true rfl) drOk61 ?_
 dsimp only [Tryz.f61, dr61, dd61, Option.getD_some]
 refine ev_start ?_
 simp (disch := omega) only [go_sem, evP_D, evD_guard, evD_cons, evD_zero, evD_nil]
 refine evQ_loop [0, 3, 4] [] (fun σ => ∃ (k : Nat), k ≤ s.size ∧ σ = ⟨[(0, .str s), (3, .int .i64 (sumL (k + 1) (s.data.toList.drop k) : Nat)), (4, .int .i64 k)], []⟩)
  (fun σ => (match Ev.look 4 σ.env with | some (.int _ n) => n.toNat | _ => 0)) ?_ ?_
 ·simp only [go_sem, evP_D, evD_guard, evD_cons, evD_zero, evD_nil]
  exact ⟨s.size, Nat.le_refl _, by rw [hsz, List.drop_length]; rfl⟩
 ·rintro σ ⟨k, hk, rfl⟩
  by_cases hlt : 0 < k
  case neg =>
   have hk' : k = 0 := by omega
   subst hk'
   have hb := (sum_bd s.data.toList 0 (by omega)).1
   have e : sumB s = ((sumL (0 + 1) (s.data.toList.drop 0) % 65521 : Nat) : Int) := by unfold sumB; rw [List.drop_zero]
   have hr : ((sumL (0 + 1) (s.data.toList.drop 0) : Nat) : Int).tmod 65521 = ((sumL (0 + 1) (s.data.toList.drop 0) % 65521 : Nat) : Int) := by rw [Int.tmod_eq_emod_of_nonneg (by omega)]; omega
   rw [e]
   have hlt' : ¬ (0 : Int) < ((0 : Nat) : Int) := by omega
   generalize sumL (0 + 1) (s.data.toList.drop 0) = X at *
   simp (disch := (first | omega | assumption)) only [hlt', hr, gt_iff_lt, go_sem, evP_D, evD_guard, evD_cons, evD_zero, evD_nil]
  obtain ⟨j, rfl⟩ : ∃ j, k = j + 1 := ⟨k - 1, by omega⟩
  have hlt' : (0 : Int) < ((j + 1 : Nat) : Int) := by omega
  obtain ⟨b, hb⟩ : ∃ b, s.data.toList[j]? = some b := ⟨_, List.getElem?_eq_getElem (by omega)⟩
  have hg : s[j]? = some b := by rw [str_get]; exact hb
  have hb255 := b.toNat_lt
  have hstep := sum_drop hb
  have hbd := (sum_bd s.data.toList j (by omega)).1
  have e1 : ((j + 1 : Nat) : Int) - 1 = j := by omega
  have h0 : (0 : Int) ≤ j := by omega
  have hj0 : (j : Int).toNat = j := by omega
  have hjl : (j : Int) < s.size := by omega
  have hm1 : ((j + 1 : Nat) : Int) * (b.toNat : Int) = (((j + 1) * b.toNat : Nat) : Int) := by push_cast; rfl
  have hms : (j : Int).toNat < ((j + 1 : Nat) : Int).toNat := by omega
  have ha : j + 1 + 1 = j + 2 := rfl
  rw [hstep] at hbd
  rw [ha]
  generalize sumL (j + 2) (s.data.toList.drop (j + 1)) = X at *
  generalize hY : (j + 1) * b.toNat = Y at *
  have hadd : (X : Int) + (Y : Int) = ((Y + X : Nat) : Int) := by omega
  simp (disch := (first | omega | assumption)) only [hlt', gt_iff_lt, e1, h0, hj0, hg, hm1, hadd, go_sem, evP_D, evD_guard, evD_cons, evD_zero, evD_nil]
  exact ⟨⟨j, by omega, by rw [hstep]⟩, hms⟩
theorem dec_sound {J : World → Prop} (hJ : Stable J) (n : Int) (h0 : -1000000000000000000 ≤ n) (h1 : n ≤ 1000000000000000000) : SoundAt Tryz.prog J 60 [.int .i64 n] (.str (itoaB n)) [] := by
 have hnat : ∀ m : Nat, m ≤ 1000000000000000000 → SoundAt Tryz.prog J 60 [.int .i64 (m : Int)] (.str ⟨(Lib.decDigits m).toArray⟩) [] := fun m hm => by
  rw [← decF_itoa 18 m (Nat.lt_of_le_of_lt hm (by decide))]
  exact dec_nat hJ 18 m (Nat.lt_of_le_of_lt hm (by decide)) (Nat.le_refl _) (by omega)
 by_cases hn : n < 0
 ·have e : itoaB n = ⟨#[45]⟩ ++ ⟨(Lib.decDigits n.natAbs).toArray⟩ := by
   refine ba_ext ?_
   rw [itoaB_data]
   unfold Lib.itoa
   rw [if_pos hn]
   simp
  have hq := hnat n.natAbs (by omega)
  have hn2 : ((n.natAbs : Nat) : Int) = 0 - n := by omega
  rw [hn2] at hq
  rw [e]
  have hsz : (⟨(Lib.decDigits n.natAbs).toArray⟩ : ByteArray).size ≤ 20 := by
   have := nDigits_le 18 n.natAbs (Nat.lt_of_le_of_lt (show n.natAbs ≤ 1000000000000000000 by omega) (by decide))
   have h2 : (⟨(Lib.decDigits n.natAbs).toArray⟩ : ByteArray).size = (Lib.decDigits n.natAbs).length := by simp [ByteArray.size]
   rw [h2, Lib.decDigits_length]
   omega
  have h45 : (⟨#[45]⟩ : ByteArray).size = 1 := rfl
  generalize (⟨(Lib.decDigits n.natAbs).toArray⟩ : ByteArray) = t at *
  refine evFn (l := [(60, at1 _ (_, []))]) (nv := nv0) (fz := fz0) (dr := dr60) (dd := dd60) (lam := []) (ms := ms0) ⟨at1_snd hq, trivial⟩ hJ trivial ms0_ok Tryz.func60 rfl rfl (Nat.le_of_ble_eq_true rfl) (Nat.le_of_ble_eq_true rfl) drOk60 ?_
  dsimp only [Tryz.f60, dr60, dd60, Option.getD_some]
  refine ev_start ?_
  simp (disch := omega) only [hn, at1_eq, bin_add_str, go_sem, evP_D, evD_guard, evD_cons, evD_zero, evD_nil]
 ·have e : itoaB n = ⟨(Lib.decDigits n.toNat).toArray⟩ := by
   unfold itoaB Lib.itoa
   rw [if_neg hn]
  have := hnat n.toNat (by omega)
  rw [← e, show ((n.toNat : Nat) : Int) = n by omega] at this
  exact this
def decF2 : List V → Option (V × List Ev.Blk)
 | [.int .i64 n] => if -1000000000000000000 ≤ n ∧ n ≤ 1000000000000000000 then some (.str (itoaB n), []) else none
 | _ => none
theorem decF2_eq {n : Int} (h0 : -1000000000000000000 ≤ n) (h1 : n ≤ 1000000000000000000) : decF2 [.int .i64 n] = some (.str (itoaB n), []) := if_pos ⟨h0, h1⟩
theorem dec2_snd {J : World → Prop} (hJ : Stable J) : Snd Tryz.prog J 60 decF2 := by
 intro args r bs h
 unfold decF2 at h
 split at h
 ·split at h
  ·rename_i n hn
   obtain ⟨rfl, rfl⟩ := some_pair h
   exact dec_sound hJ n hn.1 hn.2
  ·cases h
 ·cases h
def nuF : List V → Option (V × List Ev.Blk)
 | [.str s, .int .i64 m] => if m ≤ 18 then some (.tup [.int .i64 (num2 m s).1, .bool (num2 m s).2], []) else none
 | _ => none
theorem nuF_eq {s : ByteArray} {m : Int} (h : m ≤ 18) : nuF [.str s, .int .i64 m] = some (.tup [.int .i64 (num2 m s).1, .bool (num2 m s).2], []) := if_pos h
theorem nu_snd {J : World → Prop} (hJ : Stable J) : Snd Tryz.prog J 68 nuF := by
 intro args r bs h
 unfold nuF at h
 split at h
 ·split at h
  ·rename_i s m hm
   obtain ⟨rfl, rfl⟩ := some_pair h
   refine sound_plain (callOk Tryz.func68 rfl rfl) rfl rfl fun w hJw => ?_
   by_cases hs : m < s.size
   ·have e : num2 m s = (0, false) := by unfold num2; rw [if_pos hs]
    rw [e]
    exact num_short hs w
   ·exact num_walk hs hm w fun n w' h0 h1 hb => (dec_sound hJ n h0 h1).calls rfl (hJ w w' hJw hb) (vals := [.int .i64 n]) rfl (Ev.rels_cons (.int _ _) Ev.rels_nil)
  ·cases h
 ·cases h
end Go.Proofs.YtdmkmbaaemhhhaaGreatDoor
end
section
namespace Go.Lg
open Go Go.Acc
theorem key_size {k : ByteArray} (h : keyOk' k = true) : k.size ≤ 12 := by
 unfold keyOk' at h
 rw [Bool.and_eq_true] at h
 exact (of_decide_eq_true h.1).2
theorem code_size {k : ByteArray} (h : codeOk k = true) : k.size ≤ 8 := by
 unfold codeOk at h
 rw [Bool.and_eq_true] at h
 exact (of_decide_eq_true h.1).2
theorem enX_key {x : En} (h : enX x = 0) : keyOk' x.1 = true := by
 cases hk : keyOk' x.1 with
 | true => rfl
 | false => unfold enX enE at h; rw [if_pos hk] at h; omega
theorem splitB_size (sep : ByteArray) : ∀ (k : Nat) (s w : ByteArray), w ∈ Lib.splitB sep 0 k s → w.size ≤ s.size
 | 0, s, w, h => by
  rw [Lib.splitB_zero, List.mem_singleton] at h
  rw [h]
  exact Nat.le_refl _
 | k + 1, s, w, h => by
  unfold Lib.splitB at h
  split at h
  ·rw [List.mem_singleton] at h; rw [h]; exact Nat.le_refl _
  ·rw [List.mem_cons] at h
   rcases h with h | h
   ·rw [h, ByteArray.size_extract]; omega
   ·have := splitB_size sep k _ w h
    rw [ByteArray.size_extract] at this
    omega
theorem words_size {s w : ByteArray} (h : w ∈ wordsB s) : w.size ≤ s.size := splitB_size _ _ _ _ h
end Go.Lg
namespace Go.Proofs.YtdmkmbaaemhhhaaGreatDoor
open Go Go.Ev Go.RowKit Go.Acc Go.Lg
set_option maxHeartbeats 4000000
theorem flat_eq (l : List (ByteArray × Int)) : (l.map pcL).flatMap (fun q => 32 :: q) = l.flatMap pieceL := by
 induction l with
 | nil => rfl
 | cons p l ih => rw [List.map_cons, List.flatMap_cons, List.flatMap_cons, ih]; rfl
theorem lines_size {x : En} (hx : enX x = 0) (k : Nat) : (linesT (headT x) (x.2.2.take k)).size ≤ 20000 := by
 have hb := enX_ok hx
 have hk := key_size (enX_key hx)
 have hc := lnChk_code (enE_ok hx)
 have h := outL_len (k := x.1) (d := x.2.1) (L := x.2.2) (j := k) (by omega) hb.1 (fun i c a h => by
  have hm := List.mem_of_getElem? h
  have := hb.2.2 _ hm
  have h8 := code_size (hc _ hm)
  simp only at this h8
  omega) hb.2.1
 rw [Lib.size_eq, linesT_data, flat_eq]
 have e : (headT x).data.toList = x.1.data.toList ++ 32 :: Lib.itoa x.2.1 := by simp [headT, itoaB]
 rw [e]
 unfold outL at h
 simp only [List.length_append, List.length_cons] at h ⊢
 omega
theorem plain_size {x : En} (hx : enX x = 0) : (plainT x).size ≤ 20000 := by
 have := lines_size hx x.2.2.length
 rw [List.take_length] at this
 exact this
theorem itoa_size {n : Int} (h0 : -1000000000000 ≤ n) (h1 : n ≤ 1000000000000) : (itoaB n).size ≤ 20 := by
 have := itoa_len h0 h1
 have e : (itoaB n).size = (Lib.itoa n).length := by simp [itoaB, ByteArray.size]
 omega
theorem plain_sound (x : En) (hx : enX x = 0) : SoundAt Tryz.prog LgJ 54 [enW x] (.str (plainT x)) [] := by
 have hb := enX_ok hx
 have hk := key_size (enX_key hx)
 have hc := lnChk_code (enE_ok hx)
 have h2 := (lnChk_ok (enE_ok hx)).1
 refine ⟨callOk Tryz.func54 rfl rfl, fun w ok vals hJw hok hlen hrel => ?_⟩
 match vals, hlen with
 | [u0], _ =>
  have g0 := hrel 0 _ u0 rfl rfl
  obtain ⟨k, d, l⟩ := x
  simp only at hb hk hc h2
  rw [enW_mk] at g0
  obtain ⟨g, o, cap, rfl, hg, hcell⟩ : ∃ g o cap, u0 = .agg #[.string k, .int .i64 d, .slice (some ⟨g, o, none⟩) l.length cap] ∧ ok g ∧ ∀ (i : Nat) c a, l[i]? = some (c, a) → w.cell? ⟨g, o + i * 2, none⟩ = some (.string c) ∧ w.cell? ⟨g, o + i * 2 + 1, none⟩ = some (.int .i64 a) := by
   cases g0 with
   | agg cs vs hl h1 hh =>
    match vs, hl with
    | [u1, u2, u3], _ =>
     have r1 := hh 0 _ u1 rfl rfl
     have r2 := hh 1 _ u2 rfl rfl
     have r3 := hh 2 _ u3 rfl rfl
     cases r1
     cases r2
     generalize hes : l.map acV = es at r3
     cases r3 with
     | nil =>
      have : l.length = 0 := by have := congrArg List.length hes; simpa using this
      omega
     | row _ _ g o cap vs2 hokg hcap hmax hl2 hsz h12 hcells hr =>
      have hel : es.length = l.length := by rw [← hes, List.length_map]
      refine ⟨g, o, cap, by rw [hel], hokg, fun i c a hi => ?_⟩
      have he : es[i]? = some (.agg [.str c, .int .i64 a]) := by rw [← hes]; exact acV_get hi
      have hi2 : i < vs2.length := by have := (List.getElem?_eq_some_iff.1 he).1; omega
      obtain ⟨v, hv⟩ : ∃ v, vs2[i]? = some v := ⟨_, List.getElem?_eq_getElem hi2⟩
      have hrv := hr i _ v he hv
      have hcv := hcells i v hv
      cases hrv with
      | agg _ us hlu _ hhu =>
       match us, hlu with
       | [a1, a2], _ =>
        have q1 := hhu 0 _ a1 rfl rfl
        have q2 := hhu 1 _ a2 rfl rfl
        cases q1
        cases q2
        exact ⟨by simpa using hcv 0 (.string c) rfl, by simpa using hcv 1 (.int .i64 a) rfl⟩
  refine (plain_walk k d l g o l.length cap w hJw.tab hb.1 (hok g hg) (by omega) rfl hb.2.1 (fun i c a hi => ?_)).mono ?_
  ·have hm := List.mem_of_getElem? hi
   have := hb.2.2 _ hm
   have h8 := code_size (hc _ hm)
   simp only at this h8
   exact ⟨⟨by omega, this⟩, hcell i c a hi⟩
  ·rintro e w' ⟨rfl, hbe⟩
   have e : (⟨(outL k d l l.length).toArray⟩ : ByteArray) = plainT (k, d, l) := by
    refine ba_ext ?_
    rw [plainT_data, flat_eq]
    simp [outL]
   rw [e]
   exact ⟨_, fun _ => none, rfl, hbe, ⟨hbe.size, fun b k hk => (by simp at hk), fun b sv hr => (by cases hr), fun b b' sv sv' g h1 => (by cases h1)⟩, .ro (.str _)⟩
theorem write_sound (x : En) : SoundAt Tryz.prog LgJ 20 [enW x] (if enX x = 0 then .tup [.str (txtB x), .int .i64 0] else .tup [.str ByteArray.empty, .int .i64 (enX x)]) [] := by
 have hJ := stableLg
 by_cases hx : enX x = 0
 ·have hP := plain_sound x hx
  have hs := plain_size hx
  have hS := lsum_sound hJ (plainT x) (by omega)
  have hr := sumB_rng (plainT x)
  have hi := itoa_size (n := sumB (plainT x)) (by omega) (by omega)
  have hI := itF_eq (n := sumB (plainT x)) (by omega) (by omega)
  have z1 : (⟨#[32, 61]⟩ : ByteArray).size = 2 := rfl
  have z2 : (⟨#[10]⟩ : ByteArray).size = 1 := rfl
  have e : txtB x = plainT x ++ ⟨#[32, 61]⟩ ++ itoaB (sumB (plainT x)) ++ ⟨#[10]⟩ := rfl
  rw [if_pos hx, e]
  have hx' : enE x.1 x.2.1 x.2.2 = 0 := hx
  unfold enW at hP ⊢
  generalize plainT x = t at *
  generalize sumB t = m at *
  generalize itoaB m = q at *
  have a1 := bin_add_str (x := t) (y := ⟨#[32, 61]⟩) (by omega)
  have a2 := bin_add_str (x := t ++ ⟨#[32, 61]⟩) (y := q) (by rw [ByteArray.size_append]; omega)
  have a3 := bin_add_str (x := t ++ ⟨#[32, 61]⟩ ++ q) (y := ⟨#[10]⟩) (by rw [ByteArray.size_append, ByteArray.size_append]; omega)
  refine evFn (l := [(29, echeckF), (54, at1 _ (_, [])), (56, at1 _ (_, [])), (55, itF)]) (nv := nv0) (fz := fz0) (dr := dr20) (dd := dd20) (lam := []) (ms := ms0) ⟨echeck_snd hJ, at1_snd hP, at1_snd hS, it_snd, trivial⟩ hJ trivial ms0_ok Tryz.func20 rfl rfl (Nat.le_of_ble_eq_true rfl) (Nat.le_of_ble_eq_true rfl) drOk20 ?_
  dsimp only [Tryz.f20, dr20, dd20, Option.getD_some]
  refine ev_start ?_
  simp (disch := omega) only [at1_eq, echeckF_eq, hx', hI, a1, a2, a3, go_sem, evP_D, evD_guard, evD_cons, evD_zero, evD_nil]
 ·rw [if_neg hx]
  have hx' : ¬ enE x.1 x.2.1 x.2.2 = 0 := hx
  have e : enX x = enE x.1 x.2.1 x.2.2 := rfl
  have em : ByteArray.empty = ⟨#[]⟩ := rfl
  rw [e, em]
  unfold enW
  refine evFn (l := [(29, echeckF)]) (nv := nv0) (fz := fz0) (dr := dr20) (dd := dd20) (lam := []) (ms := ms0) ⟨echeck_snd hJ, trivial⟩ hJ trivial ms0_ok Tryz.func20 rfl rfl (Nat.le_of_ble_eq_true rfl) (Nat.le_of_ble_eq_true rfl) drOk20 ?_
  dsimp only [Tryz.f20, dr20, dd20, Option.getD_some]
  refine ev_start ?_
  simp (disch := omega) only [at1_eq, echeckF_eq, hx', go_sem, evP_D, evD_guard, evD_cons, evD_zero, evD_nil]
set_option maxHeartbeats 4000000 in
theorem text_sound {J : World → Prop} (hJ : Stable J) (x : En) (hx : enX x = 0) : SoundAt Tryz.prog J 22 [enW x] (.str (txtB x)) [] := by
 have hb := enX_ok hx
 have hk := key_size (enX_key hx)
 have hc := lnChk_code (enE_ok hx)
 have hs := plain_size hx
 have hS := rsum_sound hJ (plainT x) (by omega)
 have hr := sumB_rng (plainT x)
 have hi := itoa_size (n := sumB (plainT x)) (by omega) (by omega)
 have hI := decF2_eq (n := sumB (plainT x)) (by omega) (by omega)
 have hid := itoa_size (n := x.2.1) (by omega) (by omega)
 have hId := decF2_eq (n := x.2.1) (by omega) (by omega)
 have hls := fun k => lines_size hx k
 have z0 : (⟨#[32]⟩ : ByteArray).size = 1 := rfl
 have z1 : (⟨#[32, 61]⟩ : ByteArray).size = 2 := rfl
 have z2 : (⟨#[10]⟩ : ByteArray).size = 1 := rfl
 have z3 : (⟨#[58]⟩ : ByteArray).size = 1 := rfl
 have e : txtB x = plainT x ++ ⟨#[32, 61]⟩ ++ itoaB (sumB (plainT x)) ++ ⟨#[10]⟩ := rfl
 have eP : plainT x = linesT (headT x) x.2.2 := rfl
 have a1 := bin_add_str (x := plainT x) (y := ⟨#[32, 61]⟩) (by omega)
 have a2 := bin_add_str (x := plainT x ++ ⟨#[32, 61]⟩) (y := itoaB (sumB (plainT x))) (by rw [ByteArray.size_append]; omega)
 have a3 := bin_add_str (x := plainT x ++ ⟨#[32, 61]⟩ ++ itoaB (sumB (plainT x))) (y := ⟨#[10]⟩) (by rw [ByteArray.size_append, ByteArray.size_append]; omega)
 have b1 := bin_add_str (x := x.1) (y := ⟨#[32]⟩) (by omega)
 have b2 := bin_add_str (x := x.1 ++ ⟨#[32]⟩) (y := itoaB x.2.1) (by rw [ByteArray.size_append]; omega)
 have eH : headT x = x.1 ++ ⟨#[32]⟩ ++ itoaB x.2.1 := rfl
 rw [e]
 unfold enW
 obtain ⟨k, d, l⟩ := x
 simp only at *
 generalize hT0 : headT (k, d, l) = t0 at *
 refine evFn (l := [(60, decF2), (61, at1 _ (_, []))]) (nv := nv0) (fz := fz0) (dr := dr22) (dd := dd22) (lam := []) (ms := ms0) ⟨dec2_snd hJ, at1_snd hS, trivial⟩ hJ trivial ms0_ok Tryz.func22 rfl rfl (Nat.le_of_ble_eq_true rfl) (Nat.le_of_ble_eq_true rfl) drOk22 ?_
 dsimp only [Tryz.f22, dr22, dd22, Option.getD_some]
 refine ev_start ?_
 simp (disch := omega) only [hId, b1, b2, ← eH, List.length_map, go_sem, evPd, evDg, evDc, evDz, evDn]
 refine evQ_loop [3, 14, 15, 16] [] (fun σ => ∃ (j : Nat), j ≤ l.length ∧ σ = ⟨[(3, .str (linesT t0 (l.take j))), (14, .row 2 (l.map acV)), (15, .int .i64 l.length), (16, .int .i64 j)], []⟩)
  (fun σ => l.length - (match Ev.look 16 σ.env with | some (.int _ n) => n.toNat | _ => 0)) ?_ ?_
 ·simp only [go_sem, evPd, evDg, evDc, evDz, evDn]
  exact ⟨0, Nat.zero_le _, rfl⟩
 ·rintro σ ⟨j, hj, rfl⟩
  by_cases hlt : j < l.length
  case neg =>
   have hj' : j = l.length := by omega
   subst hj'
   have hlt' : ¬ ((l.length : Int) < l.length) := by omega
   rw [List.take_length, ← eP]
   simp (disch := (first | omega | assumption)) only [at1_eq, hlt', hI, a1, a2, a3, go_sem, evPd, evDg, evDc, evDz, evDn]
  have hlt' : (j : Int) < l.length := by omega
  obtain ⟨⟨c, n⟩, hcn⟩ : ∃ p, l[j]? = some p := ⟨_, List.getElem?_eq_getElem hlt⟩
  have hg := acV_get hcn
  have hm := List.mem_of_getElem? hcn
  have hn := hb.2.2 _ hm
  have h8 := code_size (hc _ hm)
  simp only at hn h8
  have hin := itoa_size hn.1 hn.2
  have hIn := decF2_eq (n := n) (by omega) (by omega)
  have hst := linesT_take t0 hcn
  have hl0 := hls j
  have c1 := bin_add_str (x := ⟨#[32]⟩) (y := c) (by omega)
  have c2 := bin_add_str (x := ⟨#[32]⟩ ++ c) (y := ⟨#[58]⟩) (by rw [ByteArray.size_append]; omega)
  have c3 := bin_add_str (x := ⟨#[32]⟩ ++ c ++ ⟨#[58]⟩) (y := itoaB n) (by rw [ByteArray.size_append, ByteArray.size_append]; omega)
  have c4 := bin_add_str (x := linesT t0 (l.take j)) (y := ⟨#[32]⟩ ++ c ++ ⟨#[58]⟩ ++ itoaB n) (by rw [ByteArray.size_append, ByteArray.size_append, ByteArray.size_append]; omega)
  have hms : l.length - ((j : Int) + 1).toNat < l.length - (j : Int).toNat := by
   have e3 : ((j : Int) + 1).toNat = j + 1 := by omega
   rw [e3, Int.toNat_natCast]; exact Nat.sub_lt_sub_left hlt (Nat.lt_succ_self j)
  simp (disch := (first | omega | assumption)) only [hlt', idx_nat, List.length_map, hg, hIn, c1, c2, c3, c4, go_sem, evPd, evDg, evDc, evDz, evDn]
  exact ⟨⟨j + 1, hlt, by rw [hst]; rfl⟩, hms⟩
end Go.Proofs.YtdmkmbaaemhhhaaGreatDoor
end
