/-
  Steps of the proof of LogReplays: AcF AcG.
-/
import Derived.Test.YtdmkmbaaemhhhaaGreatDoorP13
set_option linter.unusedVariables false
set_option linter.unusedSimpArgs false
section
namespace Go.Acc
open Go
def prv (l : List (ByteArray × Int)) (k : Nat) : Option ByteArray := if k = 0 then none else (l[k - 1]?).map (·.1)
theorem acE_drop {l : List (ByteArray × Int)} {k : Nat} {c : ByteArray} {n : Int} (h : l[k]? = some (c, n)) :
  acE (prv l k) (l.drop k) = if codeOk c = false then 3 else if ¬ (0 ≤ n ∧ n ≤ 4) then 1 else if (match prv l k with | some p => !Op.bytesLess p.toList c.toList | none => false) = true then 3 else acE (prv l (k + 1)) (l.drop (k + 1)) := by
 have hlt : k < l.length := (List.getElem?_eq_some_iff.1 h).1
 have he : l[k] = (c, n) := (List.getElem?_eq_some_iff.1 h).2
 have hp : prv l (k + 1) = some c := by unfold prv; rw [if_neg (by omega), Nat.add_sub_cancel, h]; rfl
 rw [List.drop_eq_getElem_cons hlt, he, hp]
 rfl
end Go.Acc
namespace Go.Proofs.YtdmkmbaaemhhhaaGreatDoor
open Go Go.Ev Go.RowKit Go.Acc
set_option maxHeartbeats 4000000
def acV (p : ByteArray × Int) : V := .agg [.str p.1, .int .i64 p.2]
def unAc : List V → Option (List (ByteArray × Int))
 | [] => some []
 | .agg [.str c, .int .i64 k] :: l => (unAc l).map fun r => (c, k) :: r
 | _ => none
theorem unAc_map : ∀ l : List (ByteArray × Int), unAc (l.map acV) = some l
 | [] => rfl
 | (c, k) :: l => by simp only [List.map_cons, acV, unAc]; rw [unAc_map l]; rfl
theorem unAc_eq : ∀ {es : List V} {l : List (ByteArray × Int)}, unAc es = some l → es = l.map acV
 | [], l, h => by simp only [unAc, Option.some.injEq] at h; subst h; rfl
 | v :: es, l, h => by
  unfold unAc at h
  split at h
  ·rename_i heq; cases heq
  ·rename_i c k t heq
   cases heq
   simp only [Option.map_eq_some_iff] at h
   obtain ⟨r, hr, rfl⟩ := h
   rw [unAc_eq hr]
   rfl
  ·cases h
def chkF : List V → Option (V × List Ev.Blk)
 | [.row 2 es] => (unAc es).map fun l => (.int .i64 (acChk l), [])
 | _ => none
theorem chkF_eq (l : List (ByteArray × Int)) : chkF [.row 2 (l.map acV)] = some (.int .i64 (acChk l), []) := by
 simp only [chkF, unAc_map, Option.map_some]
theorem acV_get {l : List (ByteArray × Int)} {k : Nat} {c : ByteArray} {n : Int} (h : l[k]? = some (c, n)) : (l.map acV)[k]? = some (.agg [.str c, .int .i64 n]) := by rw [List.getElem?_map, h]; rfl
theorem check_sound {J : World → Prop} (hJ : Stable J) (l : List (ByteArray × Int)) : SoundAt Tryz.prog J 41 [.row 2 (l.map acV)] (.int .i64 (acChk l)) [] := by
 refine SoundAt.row 0 rfl (callOk Tryz.func41 rfl rfl) fun hlen => ?_
 simp only [maxLen, List.length_map] at hlen
 refine evFn (l := [(85, codeF)]) (nv := nv0) (fz := fz0) (dr := dr41) (dd := dd41) (lam := []) (ms := ms0) ⟨code_snd hJ, trivial⟩ hJ trivial ms0_ok Tryz.func41 rfl rfl (Nat.le_of_ble_eq_true rfl) (Nat.le_of_ble_eq_true rfl) drOk41 ?_
 dsimp only [Tryz.f41, dr41, dd41, Option.getD_some]
 refine ev_start ?_
 by_cases h3 : 24 < l.length
 ·have h3' : (24 : Int) < l.length := by omega
  have e : acChk l = 2 := by unfold acChk; rw [if_pos h3]
  simp (disch := omega) only [h3', e, go_sem, evP_D, evD_guard, evD_cons, evD_zero, evD_nil]
 have h3' : ¬ (24 : Int) < l.length := by omega
 have e : acChk l = acE none l := by unfold acChk; rw [if_neg h3]
 rw [e]
 generalize hR : acE none l = R
 simp (disch := omega) only [h3', go_sem, evP_D, evD_guard, evD_cons, evD_zero, evD_nil]
 refine evQ_loop [0, 8, 9, 10] [] (fun σ => ∃ (k : Nat), (k ≤ l.length ∧ R = acE (prv l k) (l.drop k)) ∧ σ = ⟨[(0, .row 2 (l.map acV)), (8, .row 2 (l.map acV)), (9, .int .i64 l.length), (10, .int .i64 k)], []⟩)
  (fun σ => l.length - (match Ev.look 10 σ.env with | some (.int _ n) => n.toNat | _ => 0)) ?_ ?_
 ·simp only [go_sem, evP_D, evD_guard, evD_cons, evD_zero, evD_nil]
  exact ⟨0, ⟨Nat.zero_le _, hR.symm⟩, rfl⟩
 ·rintro σ ⟨k, ⟨hk, hall⟩, rfl⟩
  by_cases hlt : k < l.length
  ·have hlt' : (k : Int) < l.length := by omega
   obtain ⟨⟨c, n⟩, hcn⟩ : ∃ p, l[k]? = some p := ⟨_, List.getElem?_eq_getElem hlt⟩
   have hg := acV_get hcn
   rw [acE_drop hcn] at hall
   have hms : l.length - ((k : Int) + 1).toNat < l.length - (k : Int).toNat := by
    have e3 : ((k : Int) + 1).toNat = k + 1 := by omega
    rw [e3, Int.toNat_natCast]; exact Nat.sub_lt_sub_left hlt (Nat.lt_succ_self k)
   cases hc : codeOk c with
   | false => (have hv := hall; simp only [hc, Bool.not_false, not_true, not_false_eq_true, Bool.true_eq_false, Bool.false_eq_true, if_true, if_false, and_self] at hv; simp (disch := (first | omega | assumption)) only [hlt', idx_nat, List.length_map, hg, codeF_eq, hc, hv, go_sem, evP_D, evD_guard, evD_cons, evD_zero, evD_nil])
   | true =>
    by_cases n1 : n < 0
    ·have hn : ¬ (0 ≤ n ∧ n ≤ 4) := by omega
     (have hv := hall; simp only [hc, hn, Bool.not_false, not_true, not_false_eq_true, Bool.true_eq_false, Bool.false_eq_true, if_true, if_false, and_self] at hv; simp (disch := (first | omega | assumption)) only [hlt', idx_nat, List.length_map, hg, codeF_eq, hc, n1, hn, not_false_eq_true, hv, go_sem, evP_D, evD_guard, evD_cons, evD_zero, evD_nil])
    by_cases n2 : 4 < n
    ·have hn : ¬ (0 ≤ n ∧ n ≤ 4) := by omega
     (have hv := hall; simp only [hc, hn, Bool.not_false, not_true, not_false_eq_true, Bool.true_eq_false, Bool.false_eq_true, if_true, if_false, and_self] at hv; simp (disch := (first | omega | assumption)) only [hlt', idx_nat, List.length_map, hg, codeF_eq, hc, n1, n2, hn, not_false_eq_true, hv, go_sem, evP_D, evD_guard, evD_cons, evD_zero, evD_nil])
    have hn : 0 ≤ n ∧ n ≤ 4 := by omega
    by_cases hk0 : k = 0
    ·subst hk0
     have hp : prv l 0 = none := rfl
     have h0 : ¬ (0 : Int) < ((0 : Nat) : Int) := by omega
     have z0 : ((0 : Nat) : Int) = 0 := rfl
     have hi0 := idx_nat l.length 0 hlt
     rw [z0] at hlt' h0 hi0 hms ⊢
     simp (disch := (first | omega | assumption)) only [hlt', hi0, List.length_map, hg, codeF_eq, hc, n1, n2, hn, hp, h0, not_true, go_sem, evP_D, evD_guard, evD_cons, evD_zero, evD_nil]
     simp only [hc, hn, hp, not_true, and_self, Bool.true_eq_false, Bool.false_eq_true, if_false] at hall
     exact ⟨⟨1, ⟨hlt, hall⟩, rfl⟩, hms⟩
    ·have h0 : (0 : Int) < k := by omega
     have hk1 : k - 1 < l.length := by omega
     obtain ⟨⟨c', n'⟩, hcn'⟩ : ∃ p, l[k - 1]? = some p := ⟨_, List.getElem?_eq_getElem hk1⟩
     have hg' := acV_get hcn'
     have hp : prv l k = some c' := by unfold prv; rw [if_neg hk0, hcn']; rfl
     have e1 : (k : Int) - 1 = ((k - 1 : Nat) : Int) := by omega
     cases hb : Op.bytesLess c'.toList c.toList with
     | false => (have hv := hall; simp only [hc, hn, hp, hb, Bool.not_false, not_true, not_false_eq_true, Bool.true_eq_false, Bool.false_eq_true, if_true, if_false, and_self] at hv; simp (disch := (first | omega | assumption)) only [hlt', idx_nat, List.length_map, hg, hg', codeF_eq, hc, n1, n2, hn, hp, h0, e1, hb, bin_geq_str, not_true, hv, go_sem, evP_D, evD_guard, evD_cons, evD_zero, evD_nil])
     | true =>
      simp (disch := (first | omega | assumption)) only [hlt', idx_nat, List.length_map, hg, hg', codeF_eq, hc, n1, n2, hn, hp, h0, e1, hb, bin_geq_str, not_true, go_sem, evP_D, evD_guard, evD_cons, evD_zero, evD_nil]
      simp only [hc, hn, hp, hb, not_true, and_self, Bool.not_true, Bool.true_eq_false, Bool.false_eq_true, if_false] at hall
      exact ⟨⟨k + 1, ⟨hlt, hall⟩, rfl⟩, hms⟩
  ·have hk' : k = l.length := by omega
   subst hk'
   have hlt' : ¬ ((l.length : Int) < l.length) := by omega
   have e0 : R = 0 := by rw [hall, List.drop_length]; rfl
   simp (disch := (first | omega | assumption)) only [hlt', e0, go_sem, evP_D, evD_guard, evD_cons, evD_zero, evD_nil]
theorem check_snd {J : World → Prop} (hJ : Stable J) : Snd Tryz.prog J 41 chkF := by
 intro args r bs h
 unfold chkF at h
 split at h
 ·rename_i es
  simp only [Option.map_eq_some_iff] at h
  obtain ⟨l, hl, h⟩ := h
  obtain ⟨rfl, rfl⟩ := some_pair (congrArg some h)
  rw [unAc_eq hl]
  exact check_sound hJ l
 ·cases h
theorem accts_sound {J : World → Prop} (hJ : Stable J) (l : List (ByteArray × Int)) : SoundAt Tryz.prog J 38 [.row 2 (l.map acV)] (.int .i64 (acChk l)) [] := by
 refine SoundAt.row 0 rfl (callOk Tryz.func38 rfl rfl) fun hlen => ?_
 simp only [maxLen, List.length_map] at hlen
 refine evFn (l := [(58, codeF), (69, withinF)]) (nv := nv0) (fz := fz0) (dr := dr38) (dd := dd38) (lam := []) (ms := ms0) ⟨rcode_snd hJ, within_snd hJ, trivial⟩ hJ trivial ms0_ok Tryz.func38 rfl rfl (Nat.le_of_ble_eq_true rfl) (Nat.le_of_ble_eq_true rfl) drOk38 ?_
 dsimp only [Tryz.f38, dr38, dd38, Option.getD_some]
 refine ev_start ?_
 by_cases h3 : 24 < l.length
 ·have h3' : (24 : Int) < l.length := by omega
  have e : acChk l = 2 := by unfold acChk; rw [if_pos h3]
  simp (disch := omega) only [h3', e, go_sem, evP_D, evD_guard, evD_cons, evD_zero, evD_nil]
 have h3' : ¬ (24 : Int) < l.length := by omega
 have e : acChk l = acE none l := by unfold acChk; rw [if_neg h3]
 rw [e]
 generalize hR : acE none l = R
 simp (disch := omega) only [h3', go_sem, evP_D, evD_guard, evD_cons, evD_zero, evD_nil]
 refine evQ_loop [3, 9, 10, 11] [] (fun σ => ∃ (k : Nat), (k ≤ l.length ∧ R = acE (prv l k) (l.drop k)) ∧ σ = ⟨[(3, .str ((prv l k).getD ⟨#[]⟩)), (9, .row 2 (l.map acV)), (10, .int .i64 l.length), (11, .int .i64 k)], []⟩)
  (fun σ => l.length - (match Ev.look 11 σ.env with | some (.int _ n) => n.toNat | _ => 0)) ?_ ?_
 ·simp only [go_sem, evP_D, evD_guard, evD_cons, evD_zero, evD_nil]
  exact ⟨0, ⟨Nat.zero_le _, hR.symm⟩, rfl⟩
 ·rintro σ ⟨k, ⟨hk, hall⟩, rfl⟩
  by_cases hlt : k < l.length
  ·have hlt' : (k : Int) < l.length := by omega
   obtain ⟨⟨c, n⟩, hcn⟩ : ∃ p, l[k]? = some p := ⟨_, List.getElem?_eq_getElem hlt⟩
   have hg := acV_get hcn
   rw [acE_drop hcn] at hall
   have hpn : prv l (k + 1) = some c := by unfold prv; rw [if_neg (by omega), Nat.add_sub_cancel, hcn]; rfl
   have hms : l.length - ((k : Int) + 1).toNat < l.length - (k : Int).toNat := by
    have e3 : ((k : Int) + 1).toNat = k + 1 := by omega
    rw [e3, Int.toNat_natCast]; exact Nat.sub_lt_sub_left hlt (Nat.lt_succ_self k)
   cases hc : codeOk c with
   | false => (have hv := hall; simp only [hc, Bool.not_false, not_true, not_false_eq_true, Bool.true_eq_false, Bool.false_eq_true, if_true, if_false, and_self] at hv; simp (disch := (first | omega | assumption)) only [hlt', idx_nat, List.length_map, hg, codeF_eq, hc, hv, go_sem, evP_D, evD_guard, evD_cons, evD_zero, evD_nil])
   | true =>
    by_cases hn : 0 ≤ n ∧ n ≤ 4
    ·have hn' : (decide (0 ≤ n ∧ n ≤ 4)) = true := decide_eq_true hn
     have hps : (match prv l k with | some p => !Op.bytesLess p.toList c.toList | none => false) = !Op.bytesLess ((prv l k).getD ⟨#[]⟩).toList c.toList := by
      cases hp : prv l k with
      | some p => rfl
      | none =>
       have hsz : 0 < c.size := by
        unfold codeOk at hc
        simp only [Bool.and_eq_true, decide_eq_true_eq] at hc
        exact hc.1.1
       have : c.toList ≠ [] := by
        rw [ByteArray.toList_eq]
        intro h0
        have h4 := congrArg List.length h0
        rw [str_size] at h4
        have h5 : c.size = 0 := h4
        omega
       obtain ⟨y, t, hy⟩ := List.exists_cons_of_ne_nil this
       have h00 : (ByteArray.mk #[]).toList = [] := by rw [ByteArray.toList_eq]
       simp only [Option.getD_none, hy, h00, Op.bytesLess]
       rfl
     rw [hps] at hall
     generalize ((prv l k).getD ⟨#[]⟩) = q at *
     cases hb : Op.bytesLess q.toList c.toList with
     | false => (have hv := hall; simp only [hc, hn, hb, Bool.not_false, not_true, not_false_eq_true, Bool.true_eq_false, Bool.false_eq_true, if_true, if_false, and_self] at hv; simp (disch := (first | omega | assumption)) only [hlt', idx_nat, List.length_map, hg, codeF_eq, withinF_eq, hc, hn', hn, hb, bin_leq_str, not_true, hv, go_sem, evP_D, evD_guard, evD_cons, evD_zero, evD_nil])
     | true =>
      simp (disch := (first | omega | assumption)) only [hlt', idx_nat, List.length_map, hg, codeF_eq, withinF_eq, hc, hn', hn, hb, bin_leq_str, not_true, go_sem, evP_D, evD_guard, evD_cons, evD_zero, evD_nil]
      simp only [hc, hn, hb, not_true, and_self, Bool.not_true, Bool.true_eq_false, Bool.false_eq_true, if_false] at hall
      exact ⟨⟨k + 1, ⟨hlt, hall⟩, by rw [hpn]; rfl⟩, hms⟩
    ·have hn' : (decide (0 ≤ n ∧ n ≤ 4)) = false := decide_eq_false hn
     (have hv := hall; simp only [hc, hn, Bool.not_false, not_true, not_false_eq_true, Bool.true_eq_false, Bool.false_eq_true, if_true, if_false, and_self] at hv; simp (disch := (first | omega | assumption)) only [hlt', idx_nat, List.length_map, hg, codeF_eq, withinF_eq, hc, hn', hn, not_false_eq_true, hv, go_sem, evP_D, evD_guard, evD_cons, evD_zero, evD_nil])
  ·have hk' : k = l.length := by omega
   subst hk'
   have hlt' : ¬ ((l.length : Int) < l.length) := by omega
   have e0 : R = 0 := by rw [hall, List.drop_length]; rfl
   simp (disch := (first | omega | assumption)) only [hlt', e0, go_sem, evP_D, evD_guard, evD_cons, evD_zero, evD_nil]
end Go.Proofs.YtdmkmbaaemhhhaaGreatDoor
end
section
namespace Go.Acc
open Go
def isC (code : ByteArray) (p : ByteArray × Int) : Bool := decide (p.1 = code)
def fidx (code : ByteArray) (l : List (ByteArray × Int)) : Int := if l.any (isC code) = true then ((l.findIdx (isC code) : Nat) : Int) else -1
end Go.Acc
namespace Go.Proofs.YtdmkmbaaemhhhaaGreatDoor
open Go Go.Ev Go.RowKit Go.Acc
set_option maxHeartbeats 4000000
theorem indexA_sound {J : World → Prop} (hJ : Stable J) (g : FuncId) (cs : List V) (G : List V → Option (V × List Ev.Blk)) (hG : Snd Tryz.prog J g G) (hd : V.dataL cs = true) (p : ByteArray × Int → Bool) (l : List (ByteArray × Int)) (hp : ∀ n ∈ l, G (acV n :: cs) = some (.bool (p n), [])) :
  SoundAt Tryz.prog J 117 [.row 2 (l.map acV), .fn g cs] (.int .i64 (if l.any p = true then ((l.findIdx p : Nat) : Int) else -1)) [] := by
 refine SoundAt.row 0 rfl (callOk Tryz.func117 rfl rfl) fun hlen => ?_
 simp only [maxLen, List.length_map] at hlen
 refine evFn (l := [(g, G)]) (nv := nv0) (fz := fz0) (dr := dr117) (dd := dd117) (lam := []) (ms := ms0) ⟨hG, trivial⟩ hJ trivial ms0_ok Tryz.func117 rfl rfl (Nat.le_of_ble_eq_true rfl) (Nat.le_of_ble_eq_true rfl) drOk117 ?_
 dsimp only [Tryz.f117, dr117, dd117, Option.getD_some]
 refine ev_start ?_
 simp (disch := omega) only [go_sem, evP_D, evD_guard, evD_cons, evD_zero, evD_nil]
 refine evQ_loop [0, 1, 7, 8] [] (fun σ => ∃ k : Nat, (k ≤ l.length ∧ ∀ i (h : i < l.length), i < k → p l[i] = false) ∧ σ = ⟨[(0, .row 2 (l.map acV)), (1, .fn g cs), (7, .int .i64 l.length), (8, .int .i64 k)], []⟩) (fun σ => l.length - (match Ev.look 8 σ.env with | some (.int _ n) => n.toNat | _ => 0)) ?_ ?_
 ·simp only [go_sem, evP_D, evD_guard, evD_cons, evD_zero, evD_nil]
  exact ⟨refsInL_data hd, 0, ⟨Nat.zero_le _, fun _ _ h => by omega⟩, rfl⟩
 ·rintro σ ⟨k, ⟨hk, hall⟩, rfl⟩
  by_cases hlt : k < l.length
  ·have hlt' : (k : Int) < l.length := by omega
   have hg : (l.map acV)[k]? = some (.agg [.str l[k].1, .int .i64 l[k].2]) := acV_get (c := l[k].1) (n := l[k].2) (List.getElem?_eq_getElem hlt)
   have hpk := hp l[k] (List.getElem_mem hlt)
   simp only [acV] at hpk
   cases hb : p l[k] with
   | true =>
    rw [hb] at hpk
    have hany : l.any p = true := List.any_eq_true.2 ⟨l[k], List.getElem_mem hlt, hb⟩
    have hidx : l.findIdx p = k := (List.findIdx_eq hlt).2 ⟨hb, fun j hj => hall j (by omega) hj⟩
    simp (disch := (first | omega | assumption)) only [hlt', idx_nat, List.length_map, hg, hpk, hd, V.dataL, V.data, hany, hidx, go_sem, evP_D, evD_guard, evD_cons, evD_zero, evD_nil]
   | false =>
    rw [hb] at hpk
    simp (disch := (first | omega | assumption)) only [hlt', idx_nat, List.length_map, hg, hpk, hd, refsInL_data hd, scrubL_data hd, V.dataL, V.data, go_sem, evP_D, evD_guard, evD_cons, evD_zero, evD_nil]
    exact ⟨⟨k + 1, ⟨hlt, fun i hi hik => by
     by_cases e : i = k
     ·subst e; exact hb
     ·exact hall i hi (by omega)⟩, rfl⟩, by show l.length - ((k : Int) + 1).toNat < l.length - (k : Int).toNat; omega⟩
  ·have hk' : k = l.length := by omega
   subst hk'
   have hlt' : ¬ ((l.length : Int) < l.length) := by omega
   have hany : l.any p = false := by
    rw [List.any_eq_false]
    intro x hx
    obtain ⟨i, hi, rfl⟩ := List.mem_iff_getElem.1 hx
    simp [hall i hi hi]
   simp (disch := (first | omega | assumption)) only [hlt', hany, go_sem, evP_D, evD_guard, evD_cons, evD_zero, evD_nil]
def find1F : List V → Option (V × List Ev.Blk)
 | [.agg [.str c, .int .i64 n], .rd (.str code) 0] => some (.bool (isC code (c, n)), [])
 | _ => none
theorem find1_snd {J : World → Prop} (hJ : Stable J) : Snd Tryz.prog J 118 find1F := by
 intro args r bs h
 unfold find1F at h
 split at h
 ·rename_i c n code
  obtain ⟨rfl, rfl⟩ := some_pair h
  refine evFn (l := []) (nv := nv0) (fz := fz0) (dr := dr118) (dd := dd118) (lam := []) (ms := ms0) trivial hJ trivial ms0_ok Tryz.func118 rfl rfl (Nat.le_of_ble_eq_true rfl) (Nat.le_of_ble_eq_true rfl) drOk118 ?_
  dsimp only [Tryz.f118, dr118, dd118, Option.getD_some]
  refine ev_start ?_
  simp (disch := omega) only [bin_eql_str, isC, go_sem, evP_D, evD_guard, evD_cons, evD_zero, evD_nil]
 ·cases h
theorem find_sound {J : World → Prop} (hJ : Stable J) (l : List (ByteArray × Int)) (code : ByteArray) : SoundAt Tryz.prog J 81 [.row 2 (l.map acV), .str code] (.int .i64 (fidx code l)) [] := by
 have hI := indexA_sound hJ 118 [.rd (.str code) 0] find1F (find1_snd hJ) rfl (isC code) l fun _ _ => rfl
 refine evFn (l := [(117, at1 [.row 2 (l.map acV), .fn 118 [.rd (.str code) 0]] (.int .i64 (fidx code l), []))]) (nv := nv0) (fz := fz0) (dr := dr81) (dd := dd81) (lam := []) (ms := ms0) ⟨at1_snd hI, trivial⟩ hJ trivial ms0_ok Tryz.func81 rfl rfl (Nat.le_of_ble_eq_true rfl) (Nat.le_of_ble_eq_true rfl) drOk81 ?_
 dsimp only [Tryz.f81, dr81, dd81, Option.getD_some]
 refine ev_start ?_
 simp (disch := omega) only [at1_eq, List.mapM_cons, List.mapM_nil, Option.bind_eq_bind, Option.pure_def, Option.bind_some, go_sem, evP_D, evD_guard, evD_cons, evD_zero, evD_nil]
end Go.Proofs.YtdmkmbaaemhhhaaGreatDoor
end
