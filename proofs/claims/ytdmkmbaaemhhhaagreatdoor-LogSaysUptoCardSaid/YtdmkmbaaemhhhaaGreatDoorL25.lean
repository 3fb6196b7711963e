/-
  Entries as text, run by the machine: plain, Text, Write, and what may be meant by a line.
-/
import Derived.Test.YtdmkmbaaemhhhaaGreatDoorL24
import Derived.Test.YtdmkmbaaemhhhaaGreatDoorL19
set_option linter.unusedVariables false
set_option linter.unusedSimpArgs false
namespace Go.Lg
open Go Go.Acc
theorem key_size {k : ByteArray} (h : keyOk' k = true) : k.size ≤ 12 := by
 unfold keyOk' at h
 rw [Bool.and_eq_true] at h
 exact (of_decide_eq_true h.1).2
theorem code_size {k : ByteArray} (h : codeOk k = true) : k.size ≤ 8 := by
 unfold codeOk at h
 rw [Bool.and_eq_true] at h
 exact (of_decide_eq_true h.1).2
theorem enX_key {x : En} (h : enX x = 0) : keyOk' x.1 = true := by
 cases hk : keyOk' x.1 with
 | true => rfl
 | false => unfold enX enE at h; rw [if_pos hk] at h; omega
theorem splitB_size (sep : ByteArray) : ∀ (k : Nat) (s w : ByteArray), w ∈ Lib.splitB sep 0 k s → w.size ≤ s.size
 | 0, s, w, h => by
  rw [Lib.splitB_zero, List.mem_singleton] at h
  rw [h]
  exact Nat.le_refl _
 | k + 1, s, w, h => by
  unfold Lib.splitB at h
  split at h
  ·rw [List.mem_singleton] at h; rw [h]; exact Nat.le_refl _
  ·rw [List.mem_cons] at h
   rcases h with h | h
   ·rw [h, ByteArray.size_extract]; omega
   ·have := splitB_size sep k _ w h
    rw [ByteArray.size_extract] at this
    omega
theorem words_size {s w : ByteArray} (h : w ∈ wordsB s) : w.size ≤ s.size := splitB_size _ _ _ _ h
end Go.Lg
namespace Go.Proofs.YtdmkmbaaemhhhaaGreatDoor
open Go Go.Ev Go.RowKit Go.Acc Go.Lg
set_option maxHeartbeats 4000000
theorem flat_eq (l : List (ByteArray × Int)) : (l.map pcL).flatMap (fun q => 32 :: q) = l.flatMap pieceL := by
 induction l with
 | nil => rfl
 | cons p l ih => rw [List.map_cons, List.flatMap_cons, List.flatMap_cons, ih]; rfl
theorem lines_size {x : En} (hx : enX x = 0) (k : Nat) : (linesT (headT x) (x.2.2.take k)).size ≤ 20000 := by
 have hb := enX_ok hx
 have hk := key_size (enX_key hx)
 have hc := lnChk_code (enE_ok hx)
 have h := outL_len (k := x.1) (d := x.2.1) (L := x.2.2) (j := k) (by omega) hb.1 (fun i c a h => by
  have hm := List.mem_of_getElem? h
  have := hb.2.2 _ hm
  have h8 := code_size (hc _ hm)
  simp only at this h8
  omega) hb.2.1
 rw [Lib.size_eq, linesT_data, flat_eq]
 have e : (headT x).data.toList = x.1.data.toList ++ 32 :: Lib.itoa x.2.1 := by simp [headT, itoaB]
 rw [e]
 unfold outL at h
 simp only [List.length_append, List.length_cons] at h ⊢
 omega
theorem plain_size {x : En} (hx : enX x = 0) : (plainT x).size ≤ 20000 := by
 have := lines_size hx x.2.2.length
 rw [List.take_length] at this
 exact this
theorem itoa_size {n : Int} (h0 : -1000000000000 ≤ n) (h1 : n ≤ 1000000000000) : (itoaB n).size ≤ 20 := by
 have := itoa_len h0 h1
 have e : (itoaB n).size = (Lib.itoa n).length := by simp [itoaB, ByteArray.size]
 omega
theorem plain_sound (x : En) (hx : enX x = 0) : SoundAt Tryz.prog LgJ 54 [enW x] (.str (plainT x)) [] := by
 have hb := enX_ok hx
 have hk := key_size (enX_key hx)
 have hc := lnChk_code (enE_ok hx)
 have h2 := (lnChk_ok (enE_ok hx)).1
 refine ⟨callOk Tryz.func54 rfl rfl, fun w ok vals hJw hok hlen hrel => ?_⟩
 match vals, hlen with
 | [u0], _ =>
  have g0 := hrel 0 _ u0 rfl rfl
  obtain ⟨k, d, l⟩ := x
  simp only at hb hk hc h2
  rw [enW_mk] at g0
  obtain ⟨g, o, cap, rfl, hg, hcell⟩ : ∃ g o cap, u0 = .agg #[.string k, .int .i64 d, .slice (some ⟨g, o, none⟩) l.length cap] ∧ ok g ∧ ∀ (i : Nat) c a, l[i]? = some (c, a) → w.cell? ⟨g, o + i * 2, none⟩ = some (.string c) ∧ w.cell? ⟨g, o + i * 2 + 1, none⟩ = some (.int .i64 a) := by
   cases g0 with
   | agg cs vs hl h1 hh =>
    match vs, hl with
    | [u1, u2, u3], _ =>
     have r1 := hh 0 _ u1 rfl rfl
     have r2 := hh 1 _ u2 rfl rfl
     have r3 := hh 2 _ u3 rfl rfl
     cases r1
     cases r2
     generalize hes : l.map acV = es at r3
     cases r3 with
     | nil =>
      have : l.length = 0 := by have := congrArg List.length hes; simpa using this
      omega
     | row _ _ g o cap vs2 hokg hcap hmax hl2 hsz h12 hcells hr =>
      have hel : es.length = l.length := by rw [← hes, List.length_map]
      refine ⟨g, o, cap, by rw [hel], hokg, fun i c a hi => ?_⟩
      have he : es[i]? = some (.agg [.str c, .int .i64 a]) := by rw [← hes]; exact acV_get hi
      have hi2 : i < vs2.length := by have := (List.getElem?_eq_some_iff.1 he).1; omega
      obtain ⟨v, hv⟩ : ∃ v, vs2[i]? = some v := ⟨_, List.getElem?_eq_getElem hi2⟩
      have hrv := hr i _ v he hv
      have hcv := hcells i v hv
      cases hrv with
      | agg _ us hlu _ hhu =>
       match us, hlu with
       | [a1, a2], _ =>
        have q1 := hhu 0 _ a1 rfl rfl
        have q2 := hhu 1 _ a2 rfl rfl
        cases q1
        cases q2
        exact ⟨by simpa using hcv 0 (.string c) rfl, by simpa using hcv 1 (.int .i64 a) rfl⟩
  refine (plain_walk k d l g o l.length cap w hJw.tab hb.1 (hok g hg) (by omega) rfl hb.2.1 (fun i c a hi => ?_)).mono ?_
  ·have hm := List.mem_of_getElem? hi
   have := hb.2.2 _ hm
   have h8 := code_size (hc _ hm)
   simp only at this h8
   exact ⟨⟨by omega, this⟩, hcell i c a hi⟩
  ·rintro e w' ⟨rfl, hbe⟩
   have e : (⟨(outL k d l l.length).toArray⟩ : ByteArray) = plainT (k, d, l) := by
    refine ba_ext ?_
    rw [plainT_data, flat_eq]
    simp [outL]
   rw [e]
   exact ⟨_, fun _ => none, rfl, hbe, ⟨hbe.size, fun b k hk => (by simp at hk), fun b sv hr => (by cases hr), fun b b' sv sv' g h1 => (by cases h1)⟩, .ro (.str _)⟩
theorem write_sound (x : En) : SoundAt Tryz.prog LgJ 20 [enW x] (if enX x = 0 then .tup [.str (txtB x), .int .i64 0] else .tup [.str ByteArray.empty, .int .i64 (enX x)]) [] := by
 have hJ := stableLg
 by_cases hx : enX x = 0
 ·have hP := plain_sound x hx
  have hs := plain_size hx
  have hS := lsum_sound hJ (plainT x) (by omega)
  have hr := sumB_rng (plainT x)
  have hi := itoa_size (n := sumB (plainT x)) (by omega) (by omega)
  have hI := itF_eq (n := sumB (plainT x)) (by omega) (by omega)
  have z1 : (⟨#[32, 61]⟩ : ByteArray).size = 2 := rfl
  have z2 : (⟨#[10]⟩ : ByteArray).size = 1 := rfl
  have e : txtB x = plainT x ++ ⟨#[32, 61]⟩ ++ itoaB (sumB (plainT x)) ++ ⟨#[10]⟩ := rfl
  rw [if_pos hx, e]
  have hx' : enE x.1 x.2.1 x.2.2 = 0 := hx
  unfold enW at hP ⊢
  generalize plainT x = t at *
  generalize sumB t = m at *
  generalize itoaB m = q at *
  have a1 := bin_add_str (x := t) (y := ⟨#[32, 61]⟩) (by omega)
  have a2 := bin_add_str (x := t ++ ⟨#[32, 61]⟩) (y := q) (by rw [ByteArray.size_append]; omega)
  have a3 := bin_add_str (x := t ++ ⟨#[32, 61]⟩ ++ q) (y := ⟨#[10]⟩) (by rw [ByteArray.size_append, ByteArray.size_append]; omega)
  refine evFn (l := [(29, echeckF), (54, at1 _ (_, [])), (56, at1 _ (_, [])), (55, itF)]) (nv := nv0) (fz := fz0) (dr := dr20) (dd := dd20) (lam := []) (ms := ms0) ⟨echeck_snd hJ, at1_snd hP, at1_snd hS, it_snd, trivial⟩ hJ trivial ms0_ok Tryz.func20 rfl rfl (Nat.le_of_ble_eq_true rfl) (Nat.le_of_ble_eq_true rfl) drOk20 ?_
  dsimp only [Tryz.f20, dr20, dd20, Option.getD_some]
  refine ev_start ?_
  simp (disch := omega) only [at1_eq, echeckF_eq, hx', hI, a1, a2, a3, go_sem, evP_D, evD_guard, evD_cons, evD_zero, evD_nil]
 ·rw [if_neg hx]
  have hx' : ¬ enE x.1 x.2.1 x.2.2 = 0 := hx
  have e : enX x = enE x.1 x.2.1 x.2.2 := rfl
  have em : ByteArray.empty = ⟨#[]⟩ := rfl
  rw [e, em]
  unfold enW
  refine evFn (l := [(29, echeckF)]) (nv := nv0) (fz := fz0) (dr := dr20) (dd := dd20) (lam := []) (ms := ms0) ⟨echeck_snd hJ, trivial⟩ hJ trivial ms0_ok Tryz.func20 rfl rfl (Nat.le_of_ble_eq_true rfl) (Nat.le_of_ble_eq_true rfl) drOk20 ?_
  dsimp only [Tryz.f20, dr20, dd20, Option.getD_some]
  refine ev_start ?_
  simp (disch := omega) only [at1_eq, echeckF_eq, hx', go_sem, evP_D, evD_guard, evD_cons, evD_zero, evD_nil]
set_option maxHeartbeats 4000000 in
theorem text_sound {J : World → Prop} (hJ : Stable J) (x : En) (hx : enX x = 0) : SoundAt Tryz.prog J 22 [enW x] (.str (txtB x)) [] := by
 have hb := enX_ok hx
 have hk := key_size (enX_key hx)
 have hc := lnChk_code (enE_ok hx)
 have hs := plain_size hx
 have hS := rsum_sound hJ (plainT x) (by omega)
 have hr := sumB_rng (plainT x)
 have hi := itoa_size (n := sumB (plainT x)) (by omega) (by omega)
 have hI := decF2_eq (n := sumB (plainT x)) (by omega) (by omega)
 have hid := itoa_size (n := x.2.1) (by omega) (by omega)
 have hId := decF2_eq (n := x.2.1) (by omega) (by omega)
 have hls := fun k => lines_size hx k
 have z0 : (⟨#[32]⟩ : ByteArray).size = 1 := rfl
 have z1 : (⟨#[32, 61]⟩ : ByteArray).size = 2 := rfl
 have z2 : (⟨#[10]⟩ : ByteArray).size = 1 := rfl
 have z3 : (⟨#[58]⟩ : ByteArray).size = 1 := rfl
 have e : txtB x = plainT x ++ ⟨#[32, 61]⟩ ++ itoaB (sumB (plainT x)) ++ ⟨#[10]⟩ := rfl
 have eP : plainT x = linesT (headT x) x.2.2 := rfl
 have a1 := bin_add_str (x := plainT x) (y := ⟨#[32, 61]⟩) (by omega)
 have a2 := bin_add_str (x := plainT x ++ ⟨#[32, 61]⟩) (y := itoaB (sumB (plainT x))) (by rw [ByteArray.size_append]; omega)
 have a3 := bin_add_str (x := plainT x ++ ⟨#[32, 61]⟩ ++ itoaB (sumB (plainT x))) (y := ⟨#[10]⟩) (by rw [ByteArray.size_append, ByteArray.size_append]; omega)
 have b1 := bin_add_str (x := x.1) (y := ⟨#[32]⟩) (by omega)
 have b2 := bin_add_str (x := x.1 ++ ⟨#[32]⟩) (y := itoaB x.2.1) (by rw [ByteArray.size_append]; omega)
 have eH : headT x = x.1 ++ ⟨#[32]⟩ ++ itoaB x.2.1 := rfl
 rw [e]
 unfold enW
 obtain ⟨k, d, l⟩ := x
 simp only at *
 generalize hT0 : headT (k, d, l) = t0 at *
 refine evFn (l := [(60, decF2), (61, at1 _ (_, []))]) (nv := nv0) (fz := fz0) (dr := dr22) (dd := dd22) (lam := []) (ms := ms0) ⟨dec2_snd hJ, at1_snd hS, trivial⟩ hJ trivial ms0_ok Tryz.func22 rfl rfl (Nat.le_of_ble_eq_true rfl) (Nat.le_of_ble_eq_true rfl) drOk22 ?_
 dsimp only [Tryz.f22, dr22, dd22, Option.getD_some]
 refine ev_start ?_
 simp (disch := omega) only [hId, b1, b2, ← eH, List.length_map, go_sem, evPd, evDg, evDc, evDz, evDn]
 refine evQ_loop [3, 14, 15, 16] [] (fun σ => ∃ (j : Nat), j ≤ l.length ∧ σ = ⟨[(3, .str (linesT t0 (l.take j))), (14, .row 2 (l.map acV)), (15, .int .i64 l.length), (16, .int .i64 j)], []⟩)
  (fun σ => l.length - (match Ev.look 16 σ.env with | some (.int _ n) => n.toNat | _ => 0)) ?_ ?_
 ·simp only [go_sem, evPd, evDg, evDc, evDz, evDn]
  exact ⟨0, Nat.zero_le _, rfl⟩
 ·rintro σ ⟨j, hj, rfl⟩
  by_cases hlt : j < l.length
  case neg =>
   have hj' : j = l.length := by omega
   subst hj'
   have hlt' : ¬ ((l.length : Int) < l.length) := by omega
   rw [List.take_length, ← eP]
   simp (disch := (first | omega | assumption)) only [at1_eq, hlt', hI, a1, a2, a3, go_sem, evPd, evDg, evDc, evDz, evDn]
  have hlt' : (j : Int) < l.length := by omega
  obtain ⟨⟨c, n⟩, hcn⟩ : ∃ p, l[j]? = some p := ⟨_, List.getElem?_eq_getElem hlt⟩
  have hg := acV_get hcn
  have hm := List.mem_of_getElem? hcn
  have hn := hb.2.2 _ hm
  have h8 := code_size (hc _ hm)
  simp only at hn h8
  have hin := itoa_size hn.1 hn.2
  have hIn := decF2_eq (n := n) (by omega) (by omega)
  have hst := linesT_take t0 hcn
  have hl0 := hls j
  have c1 := bin_add_str (x := ⟨#[32]⟩) (y := c) (by omega)
  have c2 := bin_add_str (x := ⟨#[32]⟩ ++ c) (y := ⟨#[58]⟩) (by rw [ByteArray.size_append]; omega)
  have c3 := bin_add_str (x := ⟨#[32]⟩ ++ c ++ ⟨#[58]⟩) (y := itoaB n) (by rw [ByteArray.size_append, ByteArray.size_append]; omega)
  have c4 := bin_add_str (x := linesT t0 (l.take j)) (y := ⟨#[32]⟩ ++ c ++ ⟨#[58]⟩ ++ itoaB n) (by rw [ByteArray.size_append, ByteArray.size_append, ByteArray.size_append]; omega)
  have hms : l.length - ((j : Int) + 1).toNat < l.length - (j : Int).toNat := by
   have e3 : ((j : Int) + 1).toNat = j + 1 := by omega
   rw [e3, Int.toNat_natCast]; exact Nat.sub_lt_sub_left hlt (Nat.lt_succ_self j)
  simp (disch := (first | omega | assumption)) only [hlt', idx_nat, List.length_map, hg, hIn, c1, c2, c3, c4, go_sem, evPd, evDg, evDc, evDz, evDn]
  exact ⟨⟨j + 1, hlt, by rw [hst]; rfl⟩, hms⟩
end Go.Proofs.YtdmkmbaaemhhhaaGreatDoor
