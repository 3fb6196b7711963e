/-
  The lines of an entry, run by the machine.
-/
import Derived.Test.YtdmkmbaaemhhhaaGreatDoorP15
set_option linter.unusedVariables false
set_option linter.unusedSimpArgs false
namespace Go.Acc
open Go
theorem lnSum_succ {l : List (ByteArray × Int)} {k : Nat} {c : ByteArray} {n : Int} (h : l[k]? = some (c, n)) : lnSum l (k + 1) = lnSum l k + n := by
 show lnSum l k + (l[k]?).elim 0 (·.2) = _
 rw [h]; rfl
theorem codes_succ {l : List (ByteArray × Int)} {k : Nat} {c : ByteArray} {n : Int} (h : l[k]? = some (c, n)) : codesTo l (k + 1) = codesTo l k ++ [c] := by
 have hlt : k < l.length := (List.getElem?_eq_some_iff.1 h).1
 have he : l[k] = (c, n) := (List.getElem?_eq_some_iff.1 h).2
 unfold codesTo
 rw [List.take_succ_eq_append_getElem hlt, he, List.map_append]
 rfl
theorem codes_len (l : List (ByteArray × Int)) {k : Nat} (h : k ≤ l.length) : (codesTo l k).length = k := by unfold codesTo; rw [List.length_map, List.length_take]; omega
theorem codes_any (l : List (ByteArray × Int)) (k : Nat) (c : ByteArray) : (l.take k).any (isC c) = hasC c (codesTo l k) := by
 unfold codesTo hasC
 rw [List.any_map]
 rfl
end Go.Acc
namespace Go.Proofs.YtdmkmbaaemhhhaaGreatDoor
open Go Go.Ev Go.RowKit Go.Acc
set_option maxHeartbeats 4000000
theorem indexL_sound {J : World → Prop} (hJ : Stable J) (g : FuncId) (cs : List V) (G : List V → Option (V × List Blk)) (hG : Snd Tryz.prog J g G) (hd : V.dataL cs = true) (p : ByteArray × Int → Bool) (l : List (ByteArray × Int)) (hp : ∀ n ∈ l, G (acV n :: cs) = some (.bool (p n), [])) :
  SoundAt Tryz.prog J 116 [.row 2 (l.map acV), .fn g cs] (.int .i64 (if l.any p = true then ((l.findIdx p : Nat) : Int) else -1)) [] := by
 refine SoundAt.row 0 rfl (callOk Tryz.func116 rfl rfl) fun hlen => ?_
 simp only [maxLen, List.length_map] at hlen
 refine evFn (l := [(g, G)]) (nv := nv0) (fz := fz0) (dr := dr116) (dd := dd116) (lam := []) (ms := ms0) ⟨hG, trivial⟩ hJ trivial ms0_ok Tryz.func116 rfl rfl (Nat.le_of_ble_eq_true rfl) (Nat.le_of_ble_eq_true rfl) drOk116 ?_
 dsimp only [Tryz.f116, dr116, dd116, Option.getD_some]
 refine ev_start ?_
 simp (disch := omega) only [go_sem, evP_D, evD_guard, evD_cons, evD_zero, evD_nil]
 refine evQ_loop [0, 1, 7, 8] [] (fun σ => ∃ k : Nat, (k ≤ l.length ∧ ∀ i (h : i < l.length), i < k → p l[i] = false) ∧ σ = ⟨[(0, .row 2 (l.map acV)), (1, .fn g cs), (7, .int .i64 l.length), (8, .int .i64 k)], []⟩) (fun σ => l.length - (match Ev.look 8 σ.env with | some (.int _ n) => n.toNat | _ => 0)) ?_ ?_
 ·simp only [go_sem, evP_D, evD_guard, evD_cons, evD_zero, evD_nil]
  exact ⟨refsInL_data hd, 0, ⟨Nat.zero_le _, fun _ _ h => by omega⟩, rfl⟩
 ·rintro σ ⟨k, ⟨hk, hall⟩, rfl⟩
  by_cases hlt : k < l.length
  ·have hlt' : (k : Int) < l.length := by omega
   have hg : (l.map acV)[k]? = some (.agg [.str l[k].1, .int .i64 l[k].2]) := acV_get (c := l[k].1) (n := l[k].2) (List.getElem?_eq_getElem hlt)
   have hpk := hp l[k] (List.getElem_mem hlt)
   simp only [acV] at hpk
   cases hb : p l[k] with
   | true =>
    rw [hb] at hpk
    have hany : l.any p = true := List.any_eq_true.2 ⟨l[k], List.getElem_mem hlt, hb⟩
    have hidx : l.findIdx p = k := (List.findIdx_eq hlt).2 ⟨hb, fun j hj => hall j (by omega) hj⟩
    simp (disch := (first | omega | assumption)) only [hlt', idx_nat, List.length_map, hg, hpk, hd, V.dataL, V.data, hany, hidx, go_sem, evP_D, evD_guard, evD_cons, evD_zero, evD_nil]
   | false =>
    rw [hb] at hpk
    simp (disch := (first | omega | assumption)) only [hlt', idx_nat, List.length_map, hg, hpk, hd, refsInL_data hd, scrubL_data hd, V.dataL, V.data, go_sem, evP_D, evD_guard, evD_cons, evD_zero, evD_nil]
    exact ⟨⟨k + 1, ⟨hlt, fun i hi hik => by
     by_cases e : i = k
     ·subst e; exact hb
     ·exact hall i hi (by omega)⟩, rfl⟩, by show l.length - ((k : Int) + 1).toNat < l.length - (k : Int).toNat; omega⟩
  ·have hk' : k = l.length := by omega
   subst hk'
   have hlt' : ¬ ((l.length : Int) < l.length) := by omega
   have hany : l.any p = false := by
    rw [List.any_eq_false]
    intro x hx
    obtain ⟨i, hi, rfl⟩ := List.mem_iff_getElem.1 hx
    simp [hall i hi hi]
   simp (disch := (first | omega | assumption)) only [hlt', hany, go_sem, evP_D, evD_guard, evD_cons, evD_zero, evD_nil]
theorem containsL_sound {J : World → Prop} (hJ : Stable J) (g : FuncId) (cs : List V) (G : List V → Option (V × List Blk)) (hG : Snd Tryz.prog J g G) (hd : V.dataL cs = true) (p : ByteArray × Int → Bool) (l : List (ByteArray × Int)) (hp : ∀ n ∈ l, G (acV n :: cs) = some (.bool (p n), [])) :
  SoundAt Tryz.prog J 79 [.row 2 (l.map acV), .fn g cs] (.bool (l.any p)) [] := by
 have hS := indexL_sound hJ g cs G hG hd p l hp
 refine evFn (l := [(116, at1 [.row 2 (l.map acV), .fn g cs] (.int .i64 (if l.any p = true then ((l.findIdx p : Nat) : Int) else -1), []))]) (nv := nv0) (fz := fz0) (dr := dr79) (dd := dd79) (lam := []) (ms := ms0) ⟨at1_snd hS, trivial⟩ hJ trivial ms0_ok Tryz.func79 rfl rfl (Nat.le_of_ble_eq_true rfl) (Nat.le_of_ble_eq_true rfl) drOk79 ?_
 dsimp only [Tryz.f79, dr79, dd79, Option.getD_some]
 refine ev_start ?_
 cases hb : l.any p with
 | true =>
  have h1 : (0 : Int) ≤ ((l.findIdx p : Nat) : Int) := by omega
  simp (disch := omega) only [at1_eq, h1, hd, hb, V.dataL, V.data, go_sem, evP_D, evD_guard, evD_cons, evD_zero, evD_nil]
 | false =>
  have h2 : ¬ (0 ≤ (-1 : Int)) := by omega
  simp (disch := omega) only [at1_eq, h2, hd, hb, V.dataL, V.data, go_sem, evP_D, evD_guard, evD_cons, evD_zero, evD_nil]
def ln1F : List V → Option (V × List Blk)
 | [.agg [.str c, .int .i64 n], .rd (.agg [.str code, .int .i64 m]) 0] => some (.bool (isC code (c, n)), [])
 | _ => none
theorem ln1_snd {J : World → Prop} (hJ : Stable J) : Snd Tryz.prog J 115 ln1F := by
 intro args r bs h
 unfold ln1F at h
 split at h
 ·rename_i c n code m
  obtain ⟨rfl, rfl⟩ := some_pair h
  refine evFn (l := []) (nv := nv0) (fz := fz0) (dr := dr115) (dd := dd115) (lam := []) (ms := ms0) trivial hJ trivial ms0_ok Tryz.func115 rfl rfl (Nat.le_of_ble_eq_true rfl) (Nat.le_of_ble_eq_true rfl) drOk115 ?_
  dsimp only [Tryz.f115, dr115, dd115, Option.getD_some]
  refine ev_start ?_
  simp (disch := omega) only [bin_eql_str, isC, go_sem, evP_D, evD_guard, evD_cons, evD_zero, evD_nil]
 ·cases h
noncomputable def ctF : List V → Option (V × List Blk)
 | [.row 2 es, .fn f [.rd (.agg [.str code, .int .i64 m]) 0]] => if f = 115 then (unAc es).map fun l => (.bool (l.any (isC code)), []) else none
 | _ => none
theorem ctF_eq (l : List (ByteArray × Int)) (code : ByteArray) (m : Int) : ctF [.row 2 (l.map acV), .fn 115 [.rd (.agg [.str code, .int .i64 m]) 0]] = some (.bool (l.any (isC code)), []) := by simp only [ctF, unAc_map, Option.map_some, if_true]
theorem ct_snd {J : World → Prop} (hJ : Stable J) : Snd Tryz.prog J 79 ctF := by
 intro args r bs h
 unfold ctF at h
 split at h
 ·rename_i es f code m
  split at h
  ·rename_i hf
   subst hf
   simp only [Option.map_eq_some_iff] at h
   obtain ⟨l, hl, h⟩ := h
   obtain ⟨rfl, rfl⟩ := some_pair (congrArg some h)
   rw [unAc_eq hl]
   exact containsL_sound hJ _ _ ln1F (ln1_snd hJ) rfl (isC code) l fun _ _ => rfl
  ·cases h
 ·cases h
set_option maxHeartbeats 4000000 in
theorem lines_sound {J : World → Prop} (hJ : Stable J) (l : List (ByteArray × Int)) : SoundAt Tryz.prog J 75 [.row 2 (l.map acV)] (.int .i64 (lnChk l)) [] := by
 refine SoundAt.row 0 rfl (callOk Tryz.func75 rfl rfl) fun hlen => ?_
 simp only [maxLen, List.length_map] at hlen
 refine evFn (l := [(85, codeF), (114, moneyF), (79, ctF)]) (nv := nv0) (fz := fz0) (dr := dr75) (dd := dd75) (lam := []) (ms := ms0) ⟨code_snd hJ, spmoney_snd hJ, ct_snd hJ, trivial⟩ hJ trivial ms0_ok Tryz.func75 rfl rfl (Nat.le_of_ble_eq_true rfl) (Nat.le_of_ble_eq_true rfl) drOk75 ?_
 dsimp only [Tryz.f75, dr75, dd75, Option.getD_some]
 refine ev_start ?_
 by_cases h3 : 12 < l.length
 ·have h3' : (12 : Int) < l.length := by omega
  have e : lnChk l = 2 := by unfold lnChk; rw [if_pos h3]
  simp (disch := omega) only [h3', e, go_sem, evP_D, evD_guard, evD_cons, evD_zero, evD_nil]
 have h3' : ¬ (12 : Int) < l.length := by omega
 obtain ⟨R, hR⟩ : ∃ R, R = lnE [] l := ⟨_, rfl⟩
 have e : lnChk l = if R ≠ 0 then R else if l.length < 2 ∨ lnSum l l.length ≠ 0 then 7 else 0 := by unfold lnChk; rw [if_neg h3, hR]
 rw [e]
 simp (disch := omega) only [h3', go_sem, evP_D, evD_guard, evD_cons, evD_zero, evD_nil]
 refine evQ_loop [0, 3, 9, 10, 11] [] (fun σ => ∃ (k : Nat), (k ≤ l.length ∧ R = lnE (codesTo l k) (l.drop k) ∧ -(k * 1000000000000) ≤ lnSum l k ∧ lnSum l k ≤ k * 1000000000000) ∧ σ = ⟨[(0, .row 2 (l.map acV)), (3, .int .i64 (lnSum l k)), (9, .row 2 (l.map acV)), (10, .int .i64 l.length), (11, .int .i64 k)], []⟩)
  (fun σ => l.length - (match Ev.look 11 σ.env with | some (.int _ n) => n.toNat | _ => 0)) ?_ ?_
 ·simp only [go_sem, evP_D, evD_guard, evD_cons, evD_zero, evD_nil]
  exact ⟨0, ⟨Nat.zero_le _, hR, by simp [lnSum], by simp [lnSum]⟩, rfl⟩
 ·rintro σ ⟨k, ⟨hk, hall, hs1, hs2⟩, rfl⟩
  by_cases hlt : k < l.length
  ·have hlt' : (k : Int) < l.length := by omega
   obtain ⟨⟨c, n⟩, hcn⟩ : ∃ p, l[k]? = some p := ⟨_, List.getElem?_eq_getElem hlt⟩
   have hg := acV_get hcn
   have hsum := lnSum_succ hcn
   rw [lnE_drop hcn] at hall
   have hms : l.length - ((k : Int) + 1).toNat < l.length - (k : Int).toNat := by
    have e3 : ((k : Int) + 1).toNat = k + 1 := by omega
    rw [e3, Int.toNat_natCast]; exact Nat.sub_lt_sub_left hlt (Nat.lt_succ_self k)
   have fin : ∀ x : Int, x ≠ 0 → R = x → (if R ≠ 0 then R else if l.length < 2 ∨ lnSum l l.length ≠ 0 then 7 else 0) = x := fun x hx hr => by rw [hr, if_pos hx]
   cases hc : codeOk c with
   | false =>
    have hv := fin 3 (by omega) (by rw [hall, if_pos hc])
    rw [hv]
    simp (disch := (first | omega | assumption)) only [hlt', idx_nat, List.length_map, hg, codeF_eq, hc, go_sem, evP_D, evD_guard, evD_cons, evD_zero, evD_nil]
   | true =>
    rw [if_neg (by rw [hc]; simp)] at hall
    by_cases hn : -1000000000000 ≤ n ∧ n ≤ 1000000000000
    ·have hn' : (decide (-1000000000000 ≤ n ∧ n ≤ 1000000000000)) = true := decide_eq_true hn
     by_cases hz : n = 0
     ·have hv := fin 1 (by omega) (by rw [hall, if_pos (fun h => h.2 hz)])
      rw [hv]
      simp (disch := (first | omega | assumption)) only [hlt', idx_nat, List.length_map, hg, codeF_eq, moneyF_eq, hc, hn', hz, go_sem, evP_D, evD_guard, evD_cons, evD_zero, evD_nil]
     ·rw [if_neg (fun h => h ⟨hn, hz⟩)] at hall
      have hcont := codes_any l k c
      have hmap : (l.map acV).take k = (l.take k).map acV := List.map_take.symm
      have hct := ctF_eq (l.take k) c n
      rw [← hmap] at hct
      have hk0 : 0 ≤ (k : Int) ∧ (k : Int) ≤ l.length := by omega
      cases hcs : hasC c (codesTo l k) with
      | true =>
       rw [hcs] at hcont
       rw [hcont] at hct
       have hv := fin 5 (by omega) (by rw [hall, if_pos hcs])
       rw [hv]
       simp (disch := (first | omega | assumption)) only [hlt', idx_nat, List.length_map, hg, codeF_eq, moneyF_eq, hc, hn', hz, hk0, hct, and_self, Int.toNat_natCast, List.mapM_cons, List.mapM_nil, Option.bind_eq_bind, Option.pure_def, Option.bind_some, go_sem, evP_D, evD_guard, evD_cons, evD_zero, evD_nil]
      | false =>
       rw [hcs] at hcont
       rw [hcont] at hct
       rw [if_neg (by rw [hcs]; simp)] at hall
       simp (disch := (first | omega | assumption)) only [hlt', idx_nat, List.length_map, hg, codeF_eq, moneyF_eq, hc, hn', hz, hk0, hct, and_self, Int.toNat_natCast, List.mapM_cons, List.mapM_nil, Option.bind_eq_bind, Option.pure_def, Option.bind_some, go_sem, evP_D, evD_guard, evD_cons, evD_zero, evD_nil]
       exact ⟨⟨k + 1, ⟨hlt, hall, by rw [hsum]; omega, by rw [hsum]; omega⟩, by rw [hsum]; rfl⟩, hms⟩
    ·have hn' : (decide (-1000000000000 ≤ n ∧ n ≤ 1000000000000)) = false := decide_eq_false hn
     have hv := fin 1 (by omega) (by rw [hall, if_pos (fun h => hn h.1)])
     rw [hv]
     simp (disch := (first | omega | assumption)) only [hlt', idx_nat, List.length_map, hg, codeF_eq, moneyF_eq, hc, hn', go_sem, evP_D, evD_guard, evD_cons, evD_zero, evD_nil]
  ·have hk' : k = l.length := by omega
   subst hk'
   have hlt' : ¬ ((l.length : Int) < l.length) := by omega
   have e0 : R = 0 := by rw [hall, List.drop_length]; rfl
   rw [e0, if_neg (by simp)]
   by_cases h2 : l.length < 2
   ·have h2' : (l.length : Int) < 2 := by omega
    simp (disch := (first | omega | assumption)) only [hlt', h2, h2', true_or, go_sem, evP_D, evD_guard, evD_cons, evD_zero, evD_nil]
   ·have h2' : ¬ (l.length : Int) < 2 := by omega
    by_cases hz : lnSum l l.length = 0
    ·simp (disch := (first | omega | assumption)) only [hlt', h2, h2', hz, ne_eq, not_true, or_self, go_sem, evP_D, evD_guard, evD_cons, evD_zero, evD_nil]
    ·simp (disch := (first | omega | assumption)) only [hlt', h2, h2', hz, ne_eq, not_false_eq_true, or_true, go_sem, evP_D, evD_guard, evD_cons, evD_zero, evD_nil]
end Go.Proofs.YtdmkmbaaemhhhaaGreatDoor
