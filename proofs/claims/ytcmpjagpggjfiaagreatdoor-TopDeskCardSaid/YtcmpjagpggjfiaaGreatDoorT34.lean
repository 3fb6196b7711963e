/-
  Steps of the proof of TopDesk: JobK JobL.
-/
import Derived.Test.YtcmpjagpggjfiaaGreatDoorT24
import Derived.WalkKit
import Derived.BigCall
import Derived.BigGuard
import Derived.BigQuiet
set_option linter.unusedVariables false
set_option linter.unusedSimpArgs false
section
namespace Go.Proofs.YtcmpjagpggjfiaaGreatDoor
open Go Go.Ev Go.RowKit Go.Job Go.Acc Go.Lib
theorem u8_of {a : Nat} (h : a < 10) : (((48 + a).toUInt8.toNat : Nat) : Int) = 48 + a := by
 have : (48 + a).toUInt8.toNat = 48 + a := by
  rw [Nat.toUInt8, UInt8.toNat_ofNat']
  omega
 omega
set_option maxHeartbeats 1000000 in
set_option maxRecDepth 100000 in
theorem jkey_any (s d c : ByteArray) (a1 a2 a3 a4 : Int) (k a b : Nat) (hs : s.size ≤ 9) (ha : (k : Int).tdiv 10 = a) (hb : (k : Int).tmod 10 = b) (ha2 : a < 10) (hb2 : b < 10) (w : World) :
  Calls Tryz.prog 175 #[.agg #[.string s, .int .i64 a1, .int .i64 a2, .int .i64 a3, .int .i64 a4, .string d, .string c], .int .i64 k] w fun e w' => e = .returned (.string (s ++ ⟨#[45]⟩ ++ ⟨#[(48 + a).toUInt8, (48 + b).toUInt8]⟩)) ∧ Below w.heap.size w w' := by
 have mixed := mixOk
 have hconv : ∀ (W : World), W.cell? ⟨w.heap.size + 1, 0, none⟩ = some (.int .u8 (48 + (a : Int))) → W.cell? ⟨w.heap.size + 1, 1, none⟩ = some (.int .u8 (48 + (b : Int))) →
   (convert 39 9 (.slice (some ⟨w.heap.size + 1, 0, none⟩) 2 2)).run Tryz.prog W = .ok (.string ⟨#[(48 + a).toUInt8, (48 + b).toUInt8]⟩) W := by
  intro W h0 h1
  refine run_convert_bytes_back W 39 9 5 ⟨w.heap.size + 1, 0, none⟩ 2 [(48 + a).toUInt8, (48 + b).toUInt8] (by kernel_rfl) (by kernel_rfl) (by kernel_rfl) fun j hj => ?_
  match j, hj with
  | 0, _ => simp only [List.getElem_cons_zero]; rw [u8_of ha2]; exact h0
  | 1, _ => simp only [List.getElem_cons_succ, List.getElem_cons_zero]; rw [u8_of hb2]; exact h1
  | _ + 2, hj => simp at hj; omega
 go_enter Tryz.func175, Tryz.ntmps175
 go_wp2
 refine bodyPost_ret (v := Value.string (s ++ ⟨#[45]⟩ ++ ⟨#[(48 + a).toUInt8, (48 + b).toUInt8]⟩)) (by simp [results, Tryz.results175, go_sem]) rfl ⟨rfl, ?_⟩
 (repeat' (first | (with_reducible exact Below.refl _ _) | (with_reducible assumption) | (with_reducible refine Below.alloc ?_ ?_ _) | (with_reducible refine Below.drew ?_) | (with_reducible refine below_drewN ?_ _) | (with_reducible refine Below.setCell ?_ ?_ _) | go_size))
theorem jkey_sound {J : World → Prop} (p : Pl) (k : Nat) (hs : p.key.size ≤ 9) (hk : k < 100) : SoundAt Tryz.prog J 175 [plV p, .int .i64 k] (.str (keyP p k)) [] := by
 have t1 : (k : Int).tdiv 10 = ((k / 10 : Nat) : Int) := by rw [Int.tdiv_eq_ediv_of_nonneg (by omega)]; omega
 have t2 : (k : Int).tmod 10 = ((k % 10 : Nat) : Int) := by rw [Int.tmod_eq_emod_of_nonneg (by omega)]; omega
 exact sound_plain (callOk Tryz.func175 rfl rfl) rfl rfl fun w _ => jkey_any p.key p.deb p.cre p.kind p.at_ p.amt p.num k (k / 10) (k % 10) hs t1 t2 (by omega) (by omega) w
end Go.Proofs.YtcmpjagpggjfiaaGreatDoor
end
section
namespace Go.Proofs.YtcmpjagpggjfiaaGreatDoor
open Go Go.Ev Go.RowKit Go.Job Go.Acc
set_option maxHeartbeats 4000000
def enJ (x : Job.En) : V := .agg [.str x.1, .int .i64 x.2.1, .row 2 (x.2.2.map acV)]
theorem enJ_P (p : Pl) (k : Nat) (n : Int) : enJ (enP p k n) = .agg [.str (keyP p k), .int .i64 (Cal.add p.at_ k), .row 2 [.agg [.str p.deb, .int .i64 n], .agg [.str p.cre, .int .i64 (-n)]]] := rfl
theorem partL_bd {p : Pl} (h : PlOk keyOk' codeOk p) (x : Int) (hx : x ∈ partL p) : 0 ≤ x ∧ x ≤ 1000000000000 := by
 obtain ⟨n, hn⟩ : ∃ n : Nat, p.num = n := ⟨p.num.toNat, by have := h.num; omega⟩
 have hb := h.num
 have ha := h.amt
 unfold partL at hx
 rw [hn, Int.toNat_natCast] at hx
 have := steps_bd (F := partF p) (n := n) (M := p.amt) (fun k hk => ?_) (fun k hk => ?_) x hx
 ·omega
 ·by_cases h1 : p.kind = 1
  ·rw [partF_1 h1, hn]; exact lnD_mono ha.1 (by omega) (by omega) hk
  ·rw [partF_0 h1, hn]; exact lnS_mono ha.1 (by omega) (by omega)
 ·by_cases h1 : p.kind = 1
  ·rw [partF_1 h1, hn]; exact lnD_bd ha.1 (by omega) (by omega) hk
  ·rw [partF_0 h1, hn]; exact lnS_bd ha.1 (by omega) (by omega) (by omega)
theorem due_len {day : Int} {p : Pl} (h : 1 ≤ p.num ∧ p.num ≤ 40) : (dueP day p).length ≤ 40 := by
 have h1 := dueFrom_len day p 0 (partL p)
 have h2 := partL_len h
 unfold dueP
 omega
theorem dueL_len {day : Int} : ∀ {l : List Pl}, (∀ p ∈ l, 1 ≤ p.num ∧ p.num ≤ 40) → (dueL day l).length ≤ l.length * 40
 | [], _ => by simp [dueL]
 | p :: l, h => by
  have h1 := due_len (day := day) (h p (by simp))
  have h2 := dueL_len (day := day) (l := l) fun q hq => h q (by simp [hq])
  unfold dueL at h2 ⊢
  rw [List.flatMap_cons, List.length_append, List.length_cons]
  omega
theorem dueL_succ {day : Int} {l : List Pl} {i : Nat} {p : Pl} (h : l[i]? = some p) : dueL day (l.take (i + 1)) = dueL day (l.take i) ++ dueP day p := by
 obtain ⟨hk, rfl⟩ := List.getElem?_eq_some_iff.1 h
 unfold dueL
 rw [List.take_succ_eq_append_getElem hk, List.flatMap_append]
 simp
theorem jkeyx {J : World → Prop} : ∃ F : List V → Option (V × List Ev.Blk), (∀ (p : Pl) (k : Nat), p.key.size ≤ 9 → k < 100 → F [plV p, .int .i64 k] = some (.str (keyP p k), [])) ∧ Snd Tryz.prog J 175 F := by
 obtain ⟨F, h1, h2⟩ := famj (P := Tryz.prog) (J := J) (f := 175) (fun q : { q : Pl × Nat // q.1.key.size ≤ 9 ∧ q.2 < 100 } => [plV q.1.1, .int .i64 q.1.2]) (fun q => (.str (keyP q.1.1 q.1.2), [])) (fun i j h => by
  simp only [List.cons.injEq, V.int.injEq, true_and, and_true] at h
  rw [plV_inj1 h.1, Int.ofNat.inj h.2]) fun q => jkey_sound q.1.1 q.1.2 q.2.1 q.2.2
 exact ⟨F, fun p k ha hb => h1 ⟨(p, k), ha, hb⟩, h2⟩
theorem jpartsx {J : World → Prop} (hJ : Stable J) : ∃ F : List V → Option (V × List Ev.Blk), (∀ p : Pl, PlOk keyOk' codeOk p → F [plV p] = some (.vec 0, [.vec 3 1 ((partL p).map (V.int .i64))])) ∧ Snd Tryz.prog J 174 F := by
 obtain ⟨F, h1, h2⟩ := famj (P := Tryz.prog) (J := J) (f := 174) (fun q : { p : Pl // PlOk keyOk' codeOk p } => [plV q.1]) (fun q => (.vec 0, [.vec 3 1 ((partL q.1).map (V.int .i64))])) (fun i j h => by
  simp only [List.cons.injEq, and_true] at h
  rw [plV_inj1 h]) fun q => jparts_sound hJ q.1 q.2
 exact ⟨F, fun p h => h1 ⟨p, h⟩, h2⟩
theorem jdue_bad (l : List Pl) (day : Int) (e : Int) (h : (if plChk keyOk' codeOk l = 0 then (if 0 ≤ day ∧ day ≤ 292193 then 0 else 1) else plChk keyOk' codeOk l) = e) (he : e ≠ 0) : SoundAt Tryz.prog Tab 142 [.row 7 (l.map plV), .int .i64 day] (.tup [.zero, .int .i64 e]) [] := by
 have hJ := stableTab
 have hC := jcheck_sound l
 refine evFn (l := [(90, at1 _ (_, [])), (38, dayF)]) (nv := nv0) (fz := fz0) (dr := dr142) (dd := dd142) (lam := []) (ms := ms0) ⟨at1_snd hC, is_snd hJ, trivial⟩ hJ trivial ms0_ok Tryz.func142 rfl rfl (Nat.le_of_ble_eq_true rfl) (Nat.le_of_ble_eq_true rfl) drOk142 ?_
 dsimp only [Tryz.f142, dr142, dd142, Option.getD_some]
 refine ev_start ?_
 by_cases h0 : plChk keyOk' codeOk l = 0
 ·rw [if_pos h0] at h
  by_cases hd : 0 ≤ day ∧ day ≤ 292193
  ·rw [if_pos hd] at h
   exact absurd h.symm he
  ·rw [if_neg hd] at h
   subst h
   have hd' : decide (0 ≤ day ∧ day ≤ 292193) = false := decide_eq_false hd
   simp (disch := omega) only [at1_eq, h0, dayF_eq, hd', go_sem, evP_D, evD_guard, evD_cons, evD_zero, evD_nil]
 ·rw [if_neg h0] at h
  rw [h] at hC ⊢
  simp (disch := omega) only [at1_eq, he, go_sem, evP_D, evD_guard, evD_cons, evD_zero, evD_nil]
set_option maxHeartbeats 8000000 in
theorem jdue_sound (l : List Pl) (day : Int) (hok : plChk keyOk' codeOk l = 0) (hd : 0 ≤ day ∧ day ≤ 292193) : SoundAt Tryz.prog Tab 142 [.row 7 (l.map plV), .int .i64 day] (.tup [.vec 0, .int .i64 0]) [.vec 55 3 ((dueL day l).map enJ)] := by
 have hJ := stableTab
 have hC := jcheck_sound l
 rw [hok] at hC
 obtain ⟨hl12, hall⟩ := chk_one keyOk' codeOk hok
 have hPl : ∀ p ∈ l, PlOk keyOk' codeOk p := fun p hp => one_ok keyOk' codeOk (hall p hp)
 obtain ⟨PF, hPF, sPF⟩ := jpartsx hJ
 obtain ⟨KF, hKF, sKF⟩ := jkeyx (J := Tab)
 refine evFn (l := [(90, at1 _ (_, [])), (38, dayF), (174, PF), (49, addF), (175, KF)]) (nv := (nvL [(7, (55, 3)), (62, (55, 3))])) (fz := fz0) (dr := dr142) (dd := dd142) (lam := []) (ms := ms0) ⟨at1_snd hC, is_snd hJ, sPF, add_snd, sKF, trivial⟩ hJ trivial ms0_ok Tryz.func142 rfl rfl (Nat.le_of_ble_eq_true rfl) (Nat.le_of_ble_eq_true rfl) drOk142 ?_
 dsimp only [Tryz.f142, dr142, dd142, Option.getD_some]
 refine ev_start ?_
 simp (disch := omega) only [at1_eq, dayF_eq, hd, and_self, List.length_map, go_sem, evP_D, evD_guard, evD_cons, evD_zero, evD_nil]
 refine evQ_loop [1, 7, 22, 23, 24] [56] (fun σ => ∃ (i : Nat), i ≤ l.length ∧ σ = ⟨[(1, .int .i64 day), (7, .vec 56), (22, .row 7 (l.map plV)), (23, .int .i64 l.length), (24, .int .i64 i)], [(56, .vec 55 3 ((dueL day (l.take i)).map enJ))]⟩)
  (fun σ => l.length - (match Ev.look 24 σ.env with | some (.int _ n) => n.toNat | _ => 0)) ?_ ?_
 ·simp only [go_sem, evP_D, evD_guard, evD_cons, evD_zero, evD_nil]
  exact ⟨0, Nat.zero_le _, rfl⟩
 ·rintro σ ⟨i, hi, rfl⟩
  by_cases hlt : i < l.length
  case neg =>
   have hi' : i = l.length := by omega
   subst hi'
   have hlt' : ¬ ((l.length : Int) < l.length) := by omega
   simp (disch := (first | omega | assumption)) only [hlt', List.take_length, go_sem, evP_D, evD_guard, evD_cons, evD_zero, evD_nil]
  have hlt' : (i : Int) < l.length := by omega
  obtain ⟨p, hp⟩ : ∃ p, l[i]? = some p := ⟨_, List.getElem?_eq_getElem hlt⟩
  have hg := plV_get hp
  have ok := hPl p (List.mem_of_getElem? hp)
  have hP1 := hPF p ok
  unfold plV at hP1
  have hsu := dueL_succ (day := day) hp
  have hnum := ok.num
  have hat := ok.at_
  have hlen := partL_len hnum
  have hbd := partL_bd ok
  have hol : (dueL day (l.take (i + 1))).length ≤ 480 := by
   have h1 := dueL_len (day := day) (l := l.take (i + 1)) fun q hq => (hPl q (List.mem_of_mem_take hq)).num
   have h2 : (l.take (i + 1)).length ≤ 12 := by rw [List.length_take]; omega
   have h3 : (l.take (i + 1)).length * 40 ≤ 12 * 40 := Nat.mul_le_mul_right _ h2
   omega
  have hms : l.length - ((i : Int) + 1).toNat < l.length - (i : Int).toNat := by
   have e3 : ((i : Int) + 1).toNat = i + 1 := by omega
   rw [e3, Int.toNat_natCast]; exact Nat.sub_lt_sub_left hlt (Nat.lt_succ_self i)
  have hKp := fun (j : Nat) (hj : j < 100) => hKF p j ok.key.2.1 hj
  unfold plV at hKp
  obtain ⟨L, hL⟩ : ∃ L, L = partL p := ⟨_, rfl⟩
  rw [← hL] at hlen hbd hP1
  simp (disch := (first | omega | assumption)) only [hlt', idx_nat, List.length_map, hg, hP1, go_sem, evP_D, evD_guard, evD_cons, evD_zero, evD_nil]
  refine evQ_loop [1, 7, 9, 22, 23, 24, 29, 30, 31] [56, 72, 232] (fun σ => ∃ (j : Nat) (O : List Job.En), (j ≤ L.length ∧ O ++ dueFrom day p j (L.drop j) = dueL day (l.take (i + 1))) ∧ σ = ⟨[(1, .int .i64 day), (7, .vec 56), (9, .ptr 72 0), (22, .row 7 (l.map plV)), (23, .int .i64 l.length), (24, .int .i64 i), (29, .vec 232), (30, .int .i64 L.length), (31, .int .i64 j)], [(56, .vec 55 3 (O.map enJ)), (72, .box (.agg [.str p.key, .int .i64 p.kind, .int .i64 p.at_, .int .i64 p.amt, .int .i64 p.num, .str p.deb, .str p.cre])), (232, .vec 3 1 (L.map (V.int .i64)))]⟩)
   (fun σ => L.length - (match Ev.look 31 σ.env with | some (.int _ n) => n.toNat | _ => 0)) ?_ ?_
  ·simp only [go_sem, evP_D, evD_guard, evD_cons, evD_zero, evD_nil]
   exact ⟨0, dueL day (l.take i), ⟨Nat.zero_le _, by rw [hsu, hL]; rfl⟩, rfl⟩
  ·rintro σ ⟨j, O, ⟨hj, hO⟩, rfl⟩
   by_cases hjt : j < L.length
   case neg =>
    have hj' : j = L.length := by omega
    subst hj'
    have hjt' : ¬ ((L.length : Int) < L.length) := by omega
    have e : O = dueL day (l.take (i + 1)) := by rw [← hO, List.drop_length]; simp [dueFrom]
    simp (disch := (first | omega | assumption)) only [hjt', go_sem, evP_D, evD_guard, evD_cons, evD_zero, evD_nil]
    exact ⟨⟨i + 1, hlt, by rw [e]; rfl⟩, hms⟩
   have hjt' : (j : Int) < L.length := by omega
   obtain ⟨n, hn⟩ : ∃ n, L[j]? = some n := ⟨_, List.getElem?_eq_getElem hjt⟩
   have hgn := get_map (V.int .i64) L j n hn
   have hnb := hbd n (List.mem_of_getElem? hn)
   have hdr := dueFrom_drop (day := day) (p := p) hn
   obtain ⟨hm1, hm2⟩ := add_month (k := (j : Int)) hat ok.add (by omega) (by omega)
   have hA := addF_eq (n := p.at_) (k := (j : Int)) (by omega)
   have eN : addN p.at_ j = Cal.add p.at_ j := if_pos hm1
   have eE : addE p.at_ j = 0 := if_pos hm1
   rw [eN, eE] at hA
   have hmj : L.length - ((j : Int) + 1).toNat < L.length - (j : Int).toNat := by
    have e3 : ((j : Int) + 1).toNat = j + 1 := by omega
    rw [e3, Int.toNat_natCast]; exact Nat.sub_lt_sub_left hjt (Nat.lt_succ_self j)
   have hOl : O.length ≤ 480 := by
    have := congrArg List.length hO
    rw [List.length_append] at this
    omega
   by_cases hgt : day < Cal.add p.at_ j
   ·have hno : dueFrom day p j (L.drop j) = [] := dueFrom_none j _ fun q h1 h2 => by
     rw [List.length_drop] at h2
     by_cases e : q = j
     ·rw [e]; exact hgt
     ·have := add_lt (j := (j : Int)) (k := (q : Int)) hat ok.add (by omega) (by omega) (by omega)
      omega
    have e : O = dueL day (l.take (i + 1)) := by rw [← hO, hno, List.append_nil]
    simp (disch := (first | omega | assumption)) only [hjt', idx_nat, List.length_map, hgn, hA, hgt, go_sem, evP_D, evD_guard, evD_cons, evD_zero, evD_nil]
    exact ⟨⟨i + 1, hlt, by rw [e]; rfl⟩, hms⟩
   ·by_cases hn0 : n = 0
    ·rw [if_neg (by omega), List.nil_append] at hdr
     simp (disch := (first | omega | assumption)) only [hjt', idx_nat, List.length_map, hgn, hA, hgt, hn0, go_sem, evP_D, evD_guard, evD_cons, evD_zero, evD_nil]
     exact ⟨⟨j + 1, O, ⟨hjt, by rw [← hdr]; exact hO⟩, rfl⟩, hmj⟩
    ·rw [if_pos (by omega)] at hdr
     have hK := hKp j (by omega)
     simp (disch := (first | omega | assumption)) only [hjt', idx_nat, List.length_map, hgn, hA, hgt, hn0, hK, Int.zero_sub, go_sem, evP_D, evD_guard, evD_cons, evD_zero, evD_nil]
     exact ⟨⟨j + 1, O ++ [enP p j n], ⟨hjt, by rw [List.append_assoc, ← hdr]; exact hO⟩, by rw [List.map_append, List.map_cons, enJ_P]; rfl⟩, hmj⟩
end Go.Proofs.YtcmpjagpggjfiaaGreatDoor
end
