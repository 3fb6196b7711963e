/-
  Steps of the proof of TopDesk: JobF JobH.
-/
import Derived.Test.YtcmpjagpggjfiaaGreatDoorT22
import Derived.Test.YtcmpjagpggjfiaaGreatDoorT18
import Derived.Test.YtcmpjagpggjfiaaGreatDoorT15
import Derived.Test.YtcmpjagpggjfiaaGreatDoorT21
set_option linter.unusedVariables false
set_option linter.unusedSimpArgs false
section
namespace Go.Proofs.YtcmpjagpggjfiaaGreatDoor
open Go Go.Ev Go.RowKit Go.Job Go.Acc
set_option maxHeartbeats 4000000
theorem indexP_sound {J : World → Prop} (hJ : Stable J) (g : FuncId) (cs : List V) (G : List V → Option (V × List Ev.Blk)) (hG : Snd Tryz.prog J g G) (hd : V.dataL cs = true) (p : Pl → Bool) (l : List Pl) (hp : ∀ n ∈ l, G (plV n :: cs) = some (.bool (p n), [])) :
  SoundAt Tryz.prog J 173 [.row 7 (l.map plV), .fn g cs] (.int .i64 (if l.any p = true then ((l.findIdx p : Nat) : Int) else -1)) [] := by
 refine SoundAt.row 0 rfl (callOk Tryz.func173 rfl rfl) fun hlen => ?_
 simp only [maxLen, List.length_map] at hlen
 refine evFn (l := [(g, G)]) (nv := nv0) (fz := fz0) (dr := dr173) (dd := dd173) (lam := []) (ms := ms0) ⟨hG, trivial⟩ hJ trivial ms0_ok Tryz.func173 rfl rfl (Nat.le_of_ble_eq_true rfl) (Nat.le_of_ble_eq_true rfl) drOk173 ?_
 dsimp only [Tryz.f173, dr173, dd173, Option.getD_some]
 refine ev_start ?_
 simp (disch := omega) only [go_sem, evP_D, evD_guard, evD_cons, evD_zero, evD_nil]
 refine evQ_loop [0, 1, 7, 8] [] (fun σ => ∃ k : Nat, (k ≤ l.length ∧ ∀ i (h : i < l.length), i < k → p l[i] = false) ∧ σ = ⟨[(0, .row 7 (l.map plV)), (1, .fn g cs), (7, .int .i64 l.length), (8, .int .i64 k)], []⟩) (fun σ => l.length - (match Ev.look 8 σ.env with | some (.int _ n) => n.toNat | _ => 0)) ?_ ?_
 ·simp only [go_sem, evP_D, evD_guard, evD_cons, evD_zero, evD_nil]
  exact ⟨refsInL_data hd, 0, ⟨Nat.zero_le _, fun _ _ h => by omega⟩, rfl⟩
 ·rintro σ ⟨k, ⟨hk, hall⟩, rfl⟩
  by_cases hlt : k < l.length
  ·have hlt' : (k : Int) < l.length := by omega
   have hg := plV_get (List.getElem?_eq_getElem hlt)
   have hpk := hp l[k] (List.getElem_mem hlt)
   unfold plV at hpk
   cases hb : p l[k] with
   | true =>
    rw [hb] at hpk
    have hany : l.any p = true := List.any_eq_true.2 ⟨l[k], List.getElem_mem hlt, hb⟩
    have hidx : l.findIdx p = k := (List.findIdx_eq hlt).2 ⟨hb, fun j hj => hall j (by omega) hj⟩
    simp (disch := (first | omega | assumption)) only [hlt', idx_nat, List.length_map, hg, hpk, hd, V.dataL, V.data, hany, hidx, go_sem, evP_D, evD_guard, evD_cons, evD_zero, evD_nil]
   | false =>
    rw [hb] at hpk
    simp (disch := (first | omega | assumption)) only [hlt', idx_nat, List.length_map, hg, hpk, hd, refsInL_data hd, scrubL_data hd, V.dataL, V.data, go_sem, evP_D, evD_guard, evD_cons, evD_zero, evD_nil]
    exact ⟨⟨k + 1, ⟨hlt, fun i hi hik => by
     by_cases e : i = k
     ·subst e; exact hb
     ·exact hall i hi (by omega)⟩, rfl⟩, by show l.length - ((k : Int) + 1).toNat < l.length - (k : Int).toNat; omega⟩
  ·have hk' : k = l.length := by omega
   subst hk'
   have hlt' : ¬ ((l.length : Int) < l.length) := by omega
   have hany : l.any p = false := by
    rw [List.any_eq_false]
    intro x hx
    obtain ⟨i, hi, rfl⟩ := List.mem_iff_getElem.1 hx
    simp [hall i hi hi]
   simp (disch := (first | omega | assumption)) only [hlt', hany, go_sem, evP_D, evD_guard, evD_cons, evD_zero, evD_nil]
theorem containsP_sound {J : World → Prop} (hJ : Stable J) (g : FuncId) (cs : List V) (G : List V → Option (V × List Ev.Blk)) (hG : Snd Tryz.prog J g G) (hd : V.dataL cs = true) (p : Pl → Bool) (l : List Pl) (hp : ∀ n ∈ l, G (plV n :: cs) = some (.bool (p n), [])) :
  SoundAt Tryz.prog J 140 [.row 7 (l.map plV), .fn g cs] (.bool (l.any p)) [] := by
 have hS := indexP_sound hJ g cs G hG hd p l hp
 refine evFn (l := [(173, at1 [.row 7 (l.map plV), .fn g cs] (.int .i64 (if l.any p = true then ((l.findIdx p : Nat) : Int) else -1), []))]) (nv := nv0) (fz := fz0) (dr := dr140) (dd := dd140) (lam := []) (ms := ms0) ⟨at1_snd hS, trivial⟩ hJ trivial ms0_ok Tryz.func140 rfl rfl (Nat.le_of_ble_eq_true rfl) (Nat.le_of_ble_eq_true rfl) drOk140 ?_
 dsimp only [Tryz.f140, dr140, dd140, Option.getD_some]
 refine ev_start ?_
 cases hb : l.any p with
 | true =>
  have h1 : (0 : Int) ≤ ((l.findIdx p : Nat) : Int) := by omega
  simp (disch := omega) only [at1_eq, h1, hd, hb, V.dataL, V.data, go_sem, evP_D, evD_guard, evD_cons, evD_zero, evD_nil]
 | false =>
  have h2 : ¬ (0 ≤ (-1 : Int)) := by omega
  simp (disch := omega) only [at1_eq, h2, hd, hb, V.dataL, V.data, go_sem, evP_D, evD_guard, evD_cons, evD_zero, evD_nil]
def jc1F : List V → Option (V × List Ev.Blk)
 | [.agg [.str k, .int .i64 _, .int .i64 _, .int .i64 _, .int .i64 _, .str _, .str _], .rd (.agg [.str k', .int .i64 _, .int .i64 _, .int .i64 _, .int .i64 _, .str _, .str _]) 0] => some (.bool (decide (k = k')), [])
 | _ => none
theorem jc1_snd {J : World → Prop} (hJ : Stable J) : Snd Tryz.prog J 141 jc1F := by
 intro args r bs h
 unfold jc1F at h
 split at h
 ·obtain ⟨rfl, rfl⟩ := some_pair h
  refine evFn (l := []) (nv := nv0) (fz := fz0) (dr := dr141) (dd := dd141) (lam := []) (ms := ms0) trivial hJ trivial ms0_ok Tryz.func141 rfl rfl (Nat.le_of_ble_eq_true rfl) (Nat.le_of_ble_eq_true rfl) drOk141 ?_
  dsimp only [Tryz.f141, dr141, dd141, Option.getD_some]
  refine ev_start ?_
  simp (disch := omega) only [bin_eql_str, go_sem, evP_D, evD_guard, evD_cons, evD_zero, evD_nil]
 ·cases h
theorem jconx {J : World → Prop} (hJ : Stable J) : ∃ F : List V → Option (V × List Ev.Blk), (∀ (l : List Pl) (p : Pl), F [.row 7 (l.map plV), .fn 141 [.rd (plV p) 0]] = some (.bool (l.any fun q => decide (q.key = p.key)), [])) ∧ Snd Tryz.prog J 140 F := by
 obtain ⟨F, h1, h2⟩ := famj (P := Tryz.prog) (J := J) (f := 140) (fun q : List Pl × Pl => [V.row 7 (q.1.map plV), .fn 141 [.rd (plV q.2) 0]]) (fun q => (.bool (q.1.any fun x => decide (x.key = q.2.key)), [])) (fun i j h => by
  simp only [List.cons.injEq, V.row.injEq, V.fn.injEq, V.rd.injEq, true_and, and_true] at h
  rw [plV_inj h.1, plV_inj1 h.2]) fun q => containsP_sound hJ 141 [.rd (plV q.2) 0] jc1F (jc1_snd hJ) (by simp [V.dataL, V.data, plV]) (fun x => decide (x.key = q.2.key)) q.1 fun x _ => rfl
 exact ⟨F, fun l p => h1 (l, p), h2⟩
set_option maxHeartbeats 2000000 in
theorem jcheck_sound (l : List Pl) : SoundAt Tryz.prog Tab 90 [.row 7 (l.map plV)] (.int .i64 (plChk keyOk' codeOk l)) [] := by
 refine SoundAt.row 0 rfl (callOk Tryz.func90 rfl rfl) fun hlen => ?_
 simp only [maxLen, List.length_map] at hlen
 have hJ := stableTab
 obtain ⟨OF, hOF, sOF⟩ := onex
 obtain ⟨KF, hKF, sKF⟩ := jconx hJ
 refine evFn (l := [(139, OF), (140, KF)]) (nv := nv0) (fz := fz0) (dr := dr90) (dd := dd90) (lam := []) (ms := ms0) ⟨sOF, sKF, trivial⟩ hJ trivial ms0_ok Tryz.func90 rfl rfl (Nat.le_of_ble_eq_true rfl) (Nat.le_of_ble_eq_true rfl) drOk90 ?_
 dsimp only [Tryz.f90, dr90, dd90, Option.getD_some]
 refine ev_start ?_
 by_cases h3 : 12 < l.length
 ·have h3' : (12 : Int) < l.length := by omega
  have e : plChk keyOk' codeOk l = 2 := by unfold plChk; rw [if_pos h3]
  simp (disch := omega) only [h3', e, List.length_map, go_sem, evP_D, evD_guard, evD_cons, evD_zero, evD_nil]
 have h3' : ¬ (12 : Int) < l.length := by omega
 have e : plChk keyOk' codeOk l = plE keyOk' codeOk l l.length := by unfold plChk; rw [if_neg h3]
 rw [e]
 simp (disch := omega) only [h3', List.length_map, go_sem, evP_D, evD_guard, evD_cons, evD_zero, evD_nil]
 refine evQ_loop [0, 9, 10, 11] [] (fun σ => ∃ (k : Nat), (k ≤ l.length ∧ plE keyOk' codeOk l k = 0) ∧ σ = ⟨[(0, .row 7 (l.map plV)), (9, .row 7 (l.map plV)), (10, .int .i64 l.length), (11, .int .i64 k)], []⟩)
  (fun σ => l.length - (match Ev.look 11 σ.env with | some (.int _ n) => n.toNat | _ => 0)) ?_ ?_
 ·simp only [go_sem, evP_D, evD_guard, evD_cons, evD_zero, evD_nil]
  exact ⟨0, ⟨Nat.zero_le _, rfl⟩, rfl⟩
 ·rintro σ ⟨k, ⟨hk, hpre⟩, rfl⟩
  by_cases hlt : k < l.length
  ·have hlt' : (k : Int) < l.length := by omega
   obtain ⟨p, hp⟩ : ∃ p, l[k]? = some p := ⟨_, List.getElem?_eq_getElem hlt⟩
   have hg := plV_get hp
   have hO := hOF p
   have hK := hKF (l.take k) p
   rw [List.map_take] at hK
   unfold plV at hO
   rw [show plV p = .agg [.str p.key, .int .i64 p.kind, .int .i64 p.at_, .int .i64 p.amt, .int .i64 p.num, .str p.deb, .str p.cre] from rfl] at hK
   have hst := plE_step keyOk' codeOk hpre hp
   have hfin := fun (h : plE keyOk' codeOk l (k + 1) ≠ 0) => plE_fin keyOk' codeOk (show k + 1 ≤ l.length by omega) h
   have hms : l.length - ((k : Int) + 1).toNat < l.length - (k : Int).toNat := by
    have e3 : ((k : Int) + 1).toNat = k + 1 := by omega
    rw [e3, Int.toNat_natCast]; omega
   have g0 : (0 : Int) ≤ k := by omega
   have g1 : (k : Int) ≤ l.length := by omega
   by_cases ho : oneE keyOk' codeOk p = 0
   ·rw [if_pos ho] at hst
    rw [ho] at hO
    cases hc : (l.take k).any fun q => decide (q.key = p.key) with
    | true =>
     rw [hc, if_pos rfl] at hst
     rw [hc] at hK
     have hR : plE keyOk' codeOk l l.length = 5 := by rw [hfin (by omega), hst]
     simp (disch := (first | omega | assumption)) only [hlt', idx_nat, List.length_map, hg, hO, hK, hR, g0, g1, and_self, Int.toNat_natCast, Nat.sub_zero, List.drop_zero, List.mapM_cons, List.mapM_nil, Option.bind_eq_bind, Option.pure_def, Option.bind_some, go_sem, evP_D, evD_guard, evD_cons, evD_zero, evD_nil]
    | false =>
     rw [hc, if_neg (by simp)] at hst
     rw [hc] at hK
     simp (disch := (first | omega | assumption)) only [hlt', idx_nat, List.length_map, hg, hO, hK, g0, g1, and_self, Int.toNat_natCast, Nat.sub_zero, List.drop_zero, List.mapM_cons, List.mapM_nil, Option.bind_eq_bind, Option.pure_def, Option.bind_some, go_sem, evP_D, evD_guard, evD_cons, evD_zero, evD_nil]
     exact ⟨⟨k + 1, ⟨hlt, hst⟩, rfl⟩, hms⟩
   ·rw [if_neg ho] at hst
    have hR : plE keyOk' codeOk l l.length = oneE keyOk' codeOk p := by rw [hfin (by rw [hst]; exact ho), hst]
    rw [hR]
    simp (disch := (first | omega | assumption)) only [hlt', idx_nat, List.length_map, hg, hO, ho, go_sem, evP_D, evD_guard, evD_cons, evD_zero, evD_nil]
  ·have hk' : k = l.length := by omega
   subst hk'
   have hlt' : ¬ ((l.length : Int) < l.length) := by omega
   simp (disch := (first | omega | assumption)) only [hlt', hpre, go_sem, evP_D, evD_guard, evD_cons, evD_zero, evD_nil]
end Go.Proofs.YtcmpjagpggjfiaaGreatDoor
end
section
namespace Go.Proofs.YtcmpjagpggjfiaaGreatDoor
open Go Go.Ev Go.RowKit Go.Job Go.Acc
set_option maxHeartbeats 4000000
theorem partL_len {p : Pl} (h : 1 ≤ p.num ∧ p.num ≤ 40) : ((partL p).length : Int) = p.num := by
 unfold partL
 rw [steps_len]
 omega
theorem partF_1 {p : Pl} (h : p.kind = 1) : partF p = lnD p.amt p.num := by funext k; unfold partF; rw [if_pos h]
theorem partF_0 {p : Pl} (h : ¬ p.kind = 1) : partF p = lnS p.amt p.num := by funext k; unfold partF; rw [if_neg h]
theorem jparts_sound {J : World → Prop} (hJ : Stable J) (p : Pl) (h : PlOk keyOk' codeOk p) : SoundAt Tryz.prog J 174 [plV p] (.vec 0) [.vec 3 1 ((partL p).map (V.int .i64))] := by
 obtain ⟨n, hn⟩ : ∃ n : Nat, p.num = n := ⟨p.num.toNat, by have := h.num; omega⟩
 have hb := h.num
 have ha := h.amt
 have hk := h.kind
 have hD := digits_sound hJ p.amt 0 n (by omega) (by omega) (by omega) (by omega) (by omega)
 have hS := straight_sound hJ p.amt 0 n (by omega) (by omega) (by omega) (by omega) (by omega)
 rw [Int.sub_zero] at hD hS
 unfold plV
 by_cases h1 : p.kind = 1
 ·have e : partL p = steps (lnD p.amt n) n := by unfold partL; rw [partF_1 h1, hn, Int.toNat_natCast]
  rw [e]
  refine evFn (l := [(60, at1 _ (_, [.vec 3 1 ((steps (lnD p.amt n) n).map (V.int .i64))]))]) (nv := nv0) (fz := fz0) (dr := dr174) (dd := dd174) (lam := []) (ms := ms0) ⟨at1_snd hD, trivial⟩ hJ trivial ms0_ok Tryz.func174 rfl rfl (Nat.le_of_ble_eq_true rfl) (Nat.le_of_ble_eq_true rfl) drOk174 ?_
  dsimp only [Tryz.f174, dr174, dd174, Option.getD_some]
  refine ev_start ?_
  simp (disch := omega) only [at1_eq, h1, hn, go_sem, evP_D, evD_guard, evD_cons, evD_zero, evD_nil]
 ·have e : partL p = steps (lnS p.amt n) n := by unfold partL; rw [partF_0 h1, hn, Int.toNat_natCast]
  rw [e]
  refine evFn (l := [(58, at1 _ (_, [.vec 3 1 ((steps (lnS p.amt n) n).map (V.int .i64))]))]) (nv := nv0) (fz := fz0) (dr := dr174) (dd := dd174) (lam := []) (ms := ms0) ⟨at1_snd hS, trivial⟩ hJ trivial ms0_ok Tryz.func174 rfl rfl (Nat.le_of_ble_eq_true rfl) (Nat.le_of_ble_eq_true rfl) drOk174 ?_
  dsimp only [Tryz.f174, dr174, dd174, Option.getD_some]
  refine ev_start ?_
  simp (disch := omega) only [at1_eq, h1, hn, go_sem, evP_D, evD_guard, evD_cons, evD_zero, evD_nil]
end Go.Proofs.YtcmpjagpggjfiaaGreatDoor
end
