/-
  Steps of the proof of TopDesk: EnI BkP BkE BkF BkH.
-/
import Derived.Test.YtcmpjagpggjfiaaGreatDoorT18
import Derived.Test.YtcmpjagpggjfiaaGreatDoorT13
set_option linter.unusedVariables false
set_option linter.unusedSimpArgs false
section
namespace Go.Acc
open Go
theorem lnE_ok : ∀ (l : List (ByteArray × Int)) (seen : List ByteArray), lnE seen l = 0 → ∀ x ∈ l, -1000000000000 ≤ x.2 ∧ x.2 ≤ 1000000000000
 | [], _, _ => by simp
 | (c, n) :: l, seen, h => by
  unfold lnE at h
  by_cases h1 : codeOk c = false
  ·rw [if_pos h1] at h; omega
  rw [if_neg h1] at h
  by_cases h2 : ¬ ((-1000000000000 ≤ n ∧ n ≤ 1000000000000) ∧ n ≠ 0)
  ·rw [if_pos h2] at h; omega
  rw [if_neg h2] at h
  by_cases h3 : hasC c seen = true
  ·rw [if_pos h3] at h; omega
  rw [if_neg h3] at h
  intro x hx
  rcases List.mem_cons.1 hx with rfl | hx
  ·exact (Decidable.not_not.1 h2).1
  ·exact lnE_ok l _ h x hx
theorem lnChk_ok {l : List (ByteArray × Int)} (h : lnChk l = 0) : 2 ≤ l.length ∧ l.length ≤ 12 ∧ ∀ x ∈ l, -1000000000000 ≤ x.2 ∧ x.2 ≤ 1000000000000 := by
 unfold lnChk at h
 by_cases h1 : 12 < l.length
 ·rw [if_pos h1] at h; omega
 rw [if_neg h1] at h
 by_cases h2 : lnE [] l = 0
 ·rw [if_neg (fun hh => hh h2)] at h
  by_cases h3 : l.length < 2 ∨ lnSum l l.length ≠ 0
  ·rw [if_pos h3] at h; omega
  ·exact ⟨by omega, by omega, lnE_ok l [] h2⟩
 ·rw [if_pos h2] at h; exact absurd h h2
theorem enE_ok {key : ByteArray} {day : Int} {l : List (ByteArray × Int)} (h : enE key day l = 0) : lnChk l = 0 := by
 unfold enE at h
 by_cases h1 : keyOk' key = false
 ·rw [if_pos h1] at h; omega
 rw [if_neg h1] at h
 by_cases h2 : ¬ (0 ≤ day ∧ day ≤ 292193)
 ·rw [if_pos h2] at h; omega
 rw [if_neg h2] at h
 exact h
end Go.Acc
namespace Go.Proofs.YtcmpjagpggjfiaaGreatDoor
open Go Go.Ev Go.RowKit Go.Acc
set_option maxHeartbeats 4000000
theorem turnL_step {l : List (ByteArray × Int)} {k : Nat} {c : ByteArray} {n : Int} (h : l[k]? = some (c, n)) : turnL (l.take (k + 1)) = turnL (l.take k) ++ [(c, 0 - n)] := by
 obtain ⟨hk, he⟩ := List.getElem?_eq_some_iff.1 h
 unfold turnL
 rw [List.take_succ_eq_append_getElem hk, he, List.map_append]
 rfl
set_option maxHeartbeats 4000000 in
theorem turned_sound {J : World → Prop} (hJ : Stable J) (key : ByteArray) (day : Int) (l : List (ByteArray × Int)) (k : ByteArray) (d : Int) (he : enE key day l = 0) (hk : keyOk' k = true) (hd : 0 ≤ d ∧ d ≤ 292193) :
  SoundAt Tryz.prog J 138 [enV key day (.row 2 (l.map acV)), .str k, .int .i64 d] (.tup [enV k d (.vec 0), .int .i64 0]) [.vec 85 2 ((turnL l).map acV)] := by
 have hd' : (decide (0 ≤ d ∧ d ≤ 292193)) = true := decide_eq_true hd
 obtain ⟨h2, h12, hnn⟩ := lnChk_ok (enE_ok he)
 unfold enV
 refine evFn (l := [(27, echeckF), (95, keyF), (38, dayF)]) (nv := nv0) (fz := fz0) (dr := dr138) (dd := dd138) (lam := []) (ms := ms0) ⟨echeck_snd hJ, key_snd hJ, is_snd hJ, trivial⟩ hJ trivial ms0_ok Tryz.func138 rfl rfl (Nat.le_of_ble_eq_true rfl) (Nat.le_of_ble_eq_true rfl) drOk138 ?_
 dsimp only [Tryz.f138, dr138, dd138, Option.getD_some]
 refine ev_start ?_
 simp (disch := omega) only [echeckF_eq, keyF_eq, dayF_eq, he, hk, hd', go_sem, evP_D, evD_guard, evD_cons, evD_zero, evD_nil]
 refine evQ_loop [6, 9, 30, 31, 32] [48, 72, 352] (fun σ => ∃ j : Nat, j ≤ l.length ∧ ((j = 0 ∧ σ = ⟨[(6, .ptr 48 0), (9, .ptr 72 0), (30, .row 2 (l.map acV)), (31, .int .i64 l.length), (32, .int .i64 j)], [(48, .box (.agg [.str ByteArray.empty, .int .i64 0, .zero])), (72, .box (.agg [.str k, .int .i64 d, .zero]))]⟩) ∨
   (0 < j ∧ σ = ⟨[(6, .ptr 48 0), (9, .ptr 72 0), (30, .row 2 (l.map acV)), (31, .int .i64 l.length), (32, .int .i64 j)], [(48, .box (.agg [.str ByteArray.empty, .int .i64 0, .zero])), (72, .box (.agg [.str k, .int .i64 d, .vec 352])), (352, .vec 85 2 ((turnL (l.take j)).map acV))]⟩)))
  (fun σ => l.length - (match Ev.look 32 σ.env with | some (.int _ n) => n.toNat | _ => 0)) ?_ ?_
 ·simp only [go_sem, evP_D, evD_guard, evD_cons, evD_zero, evD_nil]
  exact ⟨0, Nat.zero_le _, .inl ⟨rfl, rfl⟩⟩
 ·rintro σ ⟨j, hj, hσ⟩
  by_cases hlt : j < l.length
  ·have hlt' : (j : Int) < l.length := by omega
   obtain ⟨⟨c, n⟩, hcn⟩ : ∃ p, l[j]? = some p := ⟨_, List.getElem?_eq_getElem hlt⟩
   have hg := acV_get hcn
   have hn := hnn (c, n) (List.mem_of_getElem? hcn)
   simp only at hn
   have hst := turnL_step hcn
   have hms : l.length - ((j : Int) + 1).toNat < l.length - (j : Int).toNat := by
    have e3 : ((j : Int) + 1).toNat = j + 1 := by omega
    rw [e3, Int.toNat_natCast]; exact Nat.sub_lt_sub_left hlt (Nat.lt_succ_self j)
   have hlen2 : (turnL (l.take j)).length ≤ l.length := by unfold turnL; rw [List.length_map]; exact List.length_take_le' _ _
   rcases hσ with ⟨hj0, rfl⟩ | ⟨hj0, rfl⟩
   ·subst hj0
    have z0 : ((0 : Nat) : Int) = 0 := rfl
    have hi0 := idx_nat l.length 0 hlt
    rw [z0] at hlt' hi0 hms ⊢
    simp (disch := (first | omega | assumption)) only [hlt', hi0, List.length_map, hg, go_sem, evP_D, evD_guard, evD_cons, evD_zero, evD_nil]
    exact ⟨⟨1, hlt, .inr ⟨by omega, by rw [hst]; rfl⟩⟩, hms⟩
   ·simp (disch := (first | omega | assumption)) only [hlt', idx_nat, List.length_map, hg, go_sem, evP_D, evD_guard, evD_cons, evD_zero, evD_nil]
    exact ⟨⟨j + 1, hlt, .inr ⟨by omega, by rw [hst, List.map_append]; rfl⟩⟩, hms⟩
  ·have hj' : j = l.length := by omega
   subst hj'
   have hlt' : ¬ ((l.length : Int) < l.length) := by omega
   rcases hσ with ⟨hj0, rfl⟩ | ⟨hj0, rfl⟩
   ·omega
   ·simp (disch := (first | omega | assumption)) only [hlt', List.take_length, go_sem, evP_D, evD_guard, evD_cons, evD_zero, evD_nil]
end Go.Proofs.YtcmpjagpggjfiaaGreatDoor
end
section
namespace Go.Acc
open Go
abbrev En := ByteArray × Int × List (ByteArray × Int)
def enX (x : En) : Int := enE x.1 x.2.1 x.2.2
def hasA (A : List (ByteArray × Int)) (c : ByteArray) : Bool := A.any (isC c)
def knownB (A : List (ByteArray × Int)) (x : En) : Bool := x.2.2.all fun l => hasA A l.1
def ltB (x y : En) : Bool := decide (x.2.1 < y.2.1) || (decide (x.2.1 = y.2.1) && Op.bytesLess x.1.toList y.1.toList)
def cmpE (x y : En) : Int := if x.2.1 = y.2.1 then Lib.compareBytes x.1.data.toList y.1.data.toList else x.2.1 - y.2.1
theorem cmpL_less : ∀ a b : List UInt8, (0 ≤ Lib.compareBytes a b) ↔ Op.bytesLess a b = false
 | [], [] => by simp [Lib.compareBytes, Op.bytesLess]
 | [], y :: ys => by simp [Lib.compareBytes, Op.bytesLess]
 | x :: xs, [] => by simp [Lib.compareBytes, Op.bytesLess]
 | x :: xs, y :: ys => by
  have ih := cmpL_less xs ys
  unfold Lib.compareBytes Op.bytesLess
  by_cases h1 : x < y
  ·rw [if_pos h1, decide_eq_true h1]; simp
  ·rw [if_neg h1, decide_eq_false h1, Bool.false_or]
   by_cases h2 : y < x
   ·have e : (x == y) = false := by
     rw [beq_eq_false_iff_ne]
     intro e; subst e; exact h1 h2
    rw [if_pos h2, e]; simp
   ·have e : x = y := by
     rw [UInt8.lt_iff_toNat_lt] at h1 h2
     exact UInt8.toNat_inj.1 (by omega)
    subst e
    rw [if_neg h2, ih, beq_self_eq_true, Bool.true_and]
theorem cmpE_ge (x y : En) : (0 ≤ cmpE x y) ↔ ltB x y = false := by
 unfold cmpE ltB
 by_cases h : x.2.1 = y.2.1
 ·rw [if_pos h, decide_eq_true h, decide_eq_false (by omega : ¬ x.2.1 < y.2.1), cmpL_less, Bool.false_or, Bool.true_and, ByteArray.toList_eq, ByteArray.toList_eq]
 ·rw [if_neg h, decide_eq_false h, Bool.false_and, Bool.or_false, decide_eq_false_iff_not]
  omega
def prvE (E : List En) (k : Nat) : Option En := if k = 0 then none else E[k - 1]?
def keysTo (E : List En) (k : Nat) : List ByteArray := (E.take k).map (·.1)
def badO (p : Option En) (x : En) : Bool := match p with
 | some y => !ltB y x
 | none => false
def bkE (A : List (ByteArray × Int)) (ks : List ByteArray) (p : Option En) : List En → Int
 | [] => 0
 | x :: r => if enX x ≠ 0 then enX x else if knownB A x = false then 4 else if hasC x.1 ks = true then 5 else if badO p x = true then 3 else bkE A (ks ++ [x.1]) (some x) r
theorem keysTo_succ {E : List En} {k : Nat} {x : En} (h : E[k]? = some x) : keysTo E (k + 1) = keysTo E k ++ [x.1] := by
 have hlt : k < E.length := (List.getElem?_eq_some_iff.1 h).1
 have he : E[k] = x := (List.getElem?_eq_some_iff.1 h).2
 unfold keysTo
 rw [List.take_succ_eq_append_getElem hlt, he, List.map_append]
 rfl
theorem bkE_drop {A : List (ByteArray × Int)} {E : List En} {k : Nat} {x : En} (h : E[k]? = some x) :
  bkE A (keysTo E k) (prvE E k) (E.drop k) = if enX x ≠ 0 then enX x else if knownB A x = false then 4 else if hasC x.1 (keysTo E k) = true then 5 else if badO (prvE E k) x = true then 3 else bkE A (keysTo E (k + 1)) (prvE E (k + 1)) (E.drop (k + 1)) := by
 have hlt : k < E.length := (List.getElem?_eq_some_iff.1 h).1
 have he : E[k] = x := (List.getElem?_eq_some_iff.1 h).2
 have hp : prvE E (k + 1) = some x := by unfold prvE; rw [if_neg (by omega), Nat.add_sub_cancel, h]
 rw [List.drop_eq_getElem_cons hlt, he, hp, keysTo_succ h]
 rfl
def bkChk (A : List (ByteArray × Int)) (E : List En) (s : Int) : Int := if acChk A ≠ 0 then acChk A else if ¬ (-1 ≤ s ∧ s ≤ 292193) then 1 else if 60 < E.length then 2 else bkE A [] none E
theorem bkE_ok : ∀ (E : List En) {A : List (ByteArray × Int)} {ks : List ByteArray} {p : Option En}, bkE A ks p E = 0 → ∀ x ∈ E, enX x = 0 ∧ knownB A x = true
 | [], _, _, _, _ => by simp
 | x :: r, A, ks, p, h => by
  unfold bkE at h
  by_cases h1 : enX x = 0
  ·rw [if_neg (fun hh => hh h1)] at h
   cases h2 : knownB A x with
   | false => rw [if_pos h2] at h; omega
   | true =>
    rw [if_neg (by rw [h2]; simp)] at h
    by_cases h3 : hasC x.1 ks = true
    ·rw [if_pos h3] at h; omega
    rw [if_neg h3] at h
    by_cases h4 : badO p x = true
    ·rw [if_pos h4] at h; omega
    ·rw [if_neg h4] at h
     intro y hy
     rcases List.mem_cons.1 hy with rfl | hy
     ·exact ⟨h1, h2⟩
     ·exact bkE_ok r h y hy
  ·rw [if_pos h1] at h; exact absurd h h1
theorem bkChk_ok {A : List (ByteArray × Int)} {E : List En} {s : Int} (h : bkChk A E s = 0) : acChk A = 0 ∧ (-1 ≤ s ∧ s ≤ 292193) ∧ E.length ≤ 60 ∧ ∀ x ∈ E, enX x = 0 ∧ knownB A x = true := by
 unfold bkChk at h
 by_cases h1 : acChk A = 0
 ·rw [if_neg (fun hh => hh h1)] at h
  by_cases h2 : -1 ≤ s ∧ s ≤ 292193
  ·rw [if_neg (fun hh => hh h2)] at h
   by_cases h3 : 60 < E.length
   ·rw [if_pos h3] at h; omega
   ·rw [if_neg h3] at h
    exact ⟨h1, h2, by omega, bkE_ok E h⟩
  ·rw [if_pos h2] at h; omega
 ·rw [if_pos h1] at h; exact absurd h h1
theorem enX_ok {x : En} (h : enX x = 0) : (0 ≤ x.2.1 ∧ x.2.1 ≤ 292193) ∧ x.2.2.length ≤ 12 ∧ ∀ l ∈ x.2.2, -1000000000000 ≤ l.2 ∧ l.2 ≤ 1000000000000 := by
 have h0 := lnChk_ok (enE_ok h)
 refine ⟨?_, h0.2.1, h0.2.2⟩
 unfold enX enE at h
 by_cases h1 : keyOk' x.1 = false
 ·rw [if_pos h1] at h; omega
 rw [if_neg h1] at h
 by_cases h2 : ¬ (0 ≤ x.2.1 ∧ x.2.1 ≤ 292193)
 ·rw [if_pos h2] at h; omega
 ·exact Decidable.not_not.1 h2
/-! ### what an account has -/
def lnW (c : ByteArray) (p : ByteArray × Int) : Int := if isC c p = true then p.2 else 0
def ofL (c : ByteArray) (l : List (ByteArray × Int)) : Int := (l.map (lnW c)).sum
def ofX (c : ByteArray) (f t : Int) (x : En) : Int := if f ≤ x.2.1 ∧ x.2.1 ≤ t then ofL c x.2.2 else 0
def ofB (c : ByteArray) (f t : Int) (E : List En) : Int := (E.map (ofX c f t)).sum
theorem sum_bd {α : Type} (g : α → Int) (M : Int) (hM : 0 ≤ M) : ∀ l : List α, (∀ x ∈ l, -M ≤ g x ∧ g x ≤ M) → -(l.length * M) ≤ (l.map g).sum ∧ (l.map g).sum ≤ l.length * M
 | [], _ => by simp
 | x :: l, h => by
  have h1 := h x (by simp)
  have h2 := sum_bd g M hM l fun y hy => h y (by simp [hy])
  simp only [List.map_cons, List.sum_cons, List.length_cons]
  have e : (((l.length + 1 : Nat)) : Int) * M = l.length * M + M := by rw [Int.natCast_add, Int.add_mul]; simp
  rw [e]
  omega
theorem ofL_succ {c : ByteArray} {l : List (ByteArray × Int)} {j : Nat} {p : ByteArray × Int} (h : l[j]? = some p) : ofL c (l.take (j + 1)) = ofL c (l.take j) + lnW c p := by
 have hlt : j < l.length := (List.getElem?_eq_some_iff.1 h).1
 have he : l[j] = p := (List.getElem?_eq_some_iff.1 h).2
 unfold ofL
 rw [List.take_succ_eq_append_getElem hlt, he, List.map_append, List.sum_append]
 simp
theorem ofB_succ {c : ByteArray} {f t : Int} {E : List En} {k : Nat} {x : En} (h : E[k]? = some x) : ofB c f t (E.take (k + 1)) = ofB c f t (E.take k) + ofX c f t x := by
 have hlt : k < E.length := (List.getElem?_eq_some_iff.1 h).1
 have he : E[k] = x := (List.getElem?_eq_some_iff.1 h).2
 unfold ofB
 rw [List.take_succ_eq_append_getElem hlt, he, List.map_append, List.sum_append]
 simp
theorem ofL_bd (c : ByteArray) {l : List (ByteArray × Int)} (h : ∀ p ∈ l, -1000000000000 ≤ p.2 ∧ p.2 ≤ 1000000000000) (hl : l.length ≤ 12) : -12000000000000 ≤ ofL c l ∧ ofL c l ≤ 12000000000000 := by
 have := sum_bd (lnW c) 1000000000000 (by omega) l fun p hp => by
  have := h p hp
  unfold lnW
  split <;> omega
 unfold ofL
 omega
theorem ofB_bd (c : ByteArray) (f t : Int) {E : List En} (h : ∀ x ∈ E, enX x = 0) (hl : E.length ≤ 60) : -720000000000000 ≤ ofB c f t E ∧ ofB c f t E ≤ 720000000000000 := by
 have := sum_bd (ofX c f t) 12000000000000 (by omega) E fun x hx => by
  have h1 := enX_ok (h x hx)
  have h2 := ofL_bd c h1.2.2 h1.2.1
  unfold ofX
  split <;> omega
 unfold ofB
 omega
end Go.Acc
end
section
namespace Go.Proofs.YtcmpjagpggjfiaaGreatDoor
open Go Go.Ev Go.RowKit Go.Acc
set_option maxHeartbeats 4000000
def enW (x : En) : V := .agg [.str x.1, .int .i64 x.2.1, .row 2 (x.2.2.map acV)]
def bkV (A : List (ByteArray × Int)) (E : List En) (s : Int) : V := .agg [.row 2 (A.map acV), .row 3 (E.map enW), .int .i64 s]
theorem enW_get {E : List En} {k : Nat} {c : ByteArray} {d : Int} {l : List (ByteArray × Int)} (h : E[k]? = some (c, d, l)) : (E.map enW)[k]? = some (.agg [.str c, .int .i64 d, .row 2 (l.map acV)]) := by rw [List.getElem?_map, h]; rfl
def stcF : List V → Option (V × List Ev.Blk)
 | [.str a, .str b] => some (.int .i64 (Lib.compareBytes a.data.toList b.data.toList), [])
 | _ => none
theorem stcF_eq (a b : ByteArray) : stcF [.str a, .str b] = some (.int .i64 (Lib.compareBytes a.data.toList b.data.toList), []) := rfl
theorem stc_snd {J : World → Prop} : Snd Tryz.prog J 103 stcF := by
 intro args r bs h
 unfold stcF at h
 split at h
 ·rename_i a b
  obtain ⟨rfl, rfl⟩ := some_pair h
  exact sound_plain (callOk Tryz.func103 rfl rfl) rfl rfl fun w _ => (show Calls Tryz.prog 103 _ w _ from Any.strings_Compare Tryz.lays106 a b w).mono (by rintro e w' ⟨rfl, rfl⟩; exact ⟨rfl, .refl _ _⟩)
 ·cases h
def cmpF : List V → Option (V × List Ev.Blk)
 | [.agg [.str a, .int .i64 d, .row 2 l], .agg [.str b, .int .i64 e, .row 2 m]] => if (0 ≤ d ∧ d ≤ 292193) ∧ 0 ≤ e ∧ e ≤ 292193 then some (.int .i64 (cmpE (a, d, []) (b, e, [])), []) else none
 | _ => none
theorem cmpF_eq {a b : ByteArray} {d e : Int} {l m : List (ByteArray × Int)} (hd : 0 ≤ d ∧ d ≤ 292193) (he : 0 ≤ e ∧ e ≤ 292193) : cmpF [.agg [.str a, .int .i64 d, .row 2 (l.map acV)], .agg [.str b, .int .i64 e, .row 2 (m.map acV)]] = some (.int .i64 (cmpE (a, d, l) (b, e, m)), []) := by
 simp only [cmpF]
 exact if_pos ⟨hd, he⟩
theorem cmp_snd {J : World → Prop} (hJ : Stable J) : Snd Tryz.prog J 34 cmpF := by
 intro args r bs h
 unfold cmpF at h
 split at h
 ·rename_i a d l b e m
  split at h
  ·rename_i hc
   obtain ⟨rfl, rfl⟩ := some_pair h
   refine evFn (l := [(103, stcF)]) (nv := nv0) (fz := fz0) (dr := dr34) (dd := dd34) (lam := []) (ms := ms0) ⟨stc_snd, trivial⟩ hJ trivial ms0_ok Tryz.func34 rfl rfl (Nat.le_of_ble_eq_true rfl) (Nat.le_of_ble_eq_true rfl) drOk34 ?_
   dsimp only [Tryz.f34, dr34, dd34, Option.getD_some]
   refine ev_start ?_
   by_cases hde : d = e
   ·have e1 : cmpE (a, d, []) (b, e, []) = Lib.compareBytes a.data.toList b.data.toList := if_pos hde
    rw [e1]
    simp (disch := omega) only [stcF_eq, hde, go_sem, evP_D, evD_guard, evD_cons, evD_zero, evD_nil]
   ·have e1 : cmpE (a, d, []) (b, e, []) = d - e := if_neg hde
    rw [e1]
    simp (disch := omega) only [hde, go_sem, evP_D, evD_guard, evD_cons, evD_zero, evD_nil]
  ·cases h
 ·cases h
def findF : List V → Option (V × List Ev.Blk)
 | [.row 2 es, .str c] => (unAc es).map fun A => (.int .i64 (fidx c A), [])
 | _ => none
theorem findF_eq (A : List (ByteArray × Int)) (c : ByteArray) : findF [.row 2 (A.map acV), .str c] = some (.int .i64 (fidx c A), []) := by simp only [findF, unAc_map, Option.map_some]
theorem fidx_neg (c : ByteArray) (A : List (ByteArray × Int)) : decide (fidx c A < 0) = !(hasA A c) := by
 unfold fidx hasA
 cases h : A.any (isC c) with
 | true => rw [if_pos rfl]; simp
 | false => rw [if_neg (by simp)]; rfl
theorem find_snd {J : World → Prop} (hJ : Stable J) : Snd Tryz.prog J 37 findF := by
 intro args r bs h
 unfold findF at h
 split at h
 ·rename_i es c
  simp only [Option.map_eq_some_iff] at h
  obtain ⟨A, hA, h⟩ := h
  obtain ⟨rfl, rfl⟩ := some_pair (congrArg some h)
  rw [unAc_eq hA]
  exact find_sound hJ A c
 ·cases h
def kn1F : List V → Option (V × List Ev.Blk)
 | [.agg [.str c, .int .i64 n], .rd (.agg [.row 2 es, .row 3 xs, .int .i64 s]) 0] => (unAc es).map fun A => (.bool (!(hasA A c)), [])
 | _ => none
theorem kn1_snd {J : World → Prop} (hJ : Stable J) : Snd Tryz.prog J 102 kn1F := by
 intro args r bs h
 unfold kn1F at h
 split at h
 ·rename_i c n es xs s
  simp only [Option.map_eq_some_iff] at h
  obtain ⟨A, hA, h⟩ := h
  obtain ⟨rfl, rfl⟩ := some_pair (congrArg some h)
  rw [unAc_eq hA]
  refine evFn (l := [(37, findF)]) (nv := nv0) (fz := fz0) (dr := dr102) (dd := dd102) (lam := []) (ms := ms0) ⟨find_snd hJ, trivial⟩ hJ trivial ms0_ok Tryz.func102 rfl rfl (Nat.le_of_ble_eq_true rfl) (Nat.le_of_ble_eq_true rfl) drOk102 ?_
  dsimp only [Tryz.f102, dr102, dd102, Option.getD_some]
  refine ev_start ?_
  simp (disch := omega) only [findF_eq, fidx_neg, go_sem, evP_D, evD_guard, evD_cons, evD_zero, evD_nil]
 ·cases h
def knownF : List V → Option (V × List Ev.Blk)
 | [.agg [.row 2 es, .row 3 xs, .int .i64 s], .agg [.str k, .int .i64 d, .row 2 ls]] => match unAc es, unAc ls with
  | some A, some l => some (.bool (knownB A (k, d, l)), [])
  | _, _ => none
 | _ => none
theorem knownF_eq (A : List (ByteArray × Int)) (xs : List V) (s : Int) (k : ByteArray) (d : Int) (l : List (ByteArray × Int)) : knownF [.agg [.row 2 (A.map acV), .row 3 xs, .int .i64 s], .agg [.str k, .int .i64 d, .row 2 (l.map acV)]] = some (.bool (knownB A (k, d, l)), []) := by simp only [knownF, unAc_map]
theorem known_snd {J : World → Prop} (hJ : Stable J) : Snd Tryz.prog J 31 knownF := by
 intro args r bs h
 unfold knownF at h
 split at h
 ·rename_i es xs s k d ls
  split at h
  ·rename_i A l hA hl
   obtain ⟨rfl, rfl⟩ := some_pair h
   rw [unAc_eq hA, unAc_eq hl]
   have hC := containsL_sound hJ 102 [.rd (.agg [.row 2 (A.map acV), .row 3 xs, .int .i64 s]) 0] kn1F (kn1_snd hJ) rfl (fun p => !(hasA A p.1)) l fun p _ => by simp only [kn1F, acV, unAc_map, Option.map_some]
   have hB : knownB A (k, d, l) = !(l.any fun p => !(hasA A p.1)) := by
    unfold knownB
    rw [List.not_any_eq_all_not]
    simp
   rw [hB]
   refine evFn (l := [(101, at1 [.row 2 (l.map acV), .fn 102 [.rd (.agg [.row 2 (A.map acV), .row 3 xs, .int .i64 s]) 0]] (.bool (l.any fun p => !(hasA A p.1)), []))]) (nv := nv0) (fz := fz0) (dr := dr31) (dd := dd31) (lam := []) (ms := ms0) ⟨at1_snd hC, trivial⟩ hJ trivial ms0_ok Tryz.func31 rfl rfl (Nat.le_of_ble_eq_true rfl) (Nat.le_of_ble_eq_true rfl) drOk31 ?_
   dsimp only [Tryz.f31, dr31, dd31, Option.getD_some]
   refine ev_start ?_
   simp (disch := omega) only [at1_eq, List.mapM_cons, List.mapM_nil, Option.bind_eq_bind, Option.pure_def, Option.bind_some, go_sem, evP_D, evD_guard, evD_cons, evD_zero, evD_nil]
  ·cases h
 ·cases h
end Go.Proofs.YtcmpjagpggjfiaaGreatDoor
end
section
namespace Go.Proofs.YtcmpjagpggjfiaaGreatDoor
open Go Go.Ev Go.RowKit Go.Acc
set_option maxHeartbeats 4000000
set_option maxHeartbeats 4000000 in
theorem bcheck_sound {J : World → Prop} (hJ : Stable J) (A : List (ByteArray × Int)) (E : List En) (s : Int) (hE : E.length ≤ maxLen) : SoundAt Tryz.prog J 26 [bkV A E s] (.int .i64 (bkChk A E s)) [] := by
 have hlen : (E.length : Int) ≤ 9223372036854775807 := by unfold maxLen at hE; omega
 unfold bkV
 refine evFn (l := [(94, chkF), (27, echeckF), (31, knownF), (34, cmpF)]) (nv := nv0) (fz := fz0) (dr := dr26) (dd := dd26) (lam := []) (ms := ms0) ⟨check_snd hJ, echeck_snd hJ, known_snd hJ, cmp_snd hJ, trivial⟩ hJ trivial ms0_ok Tryz.func26 rfl rfl (Nat.le_of_ble_eq_true rfl) (Nat.le_of_ble_eq_true rfl) drOk26 ?_
 dsimp only [Tryz.f26, dr26, dd26, Option.getD_some]
 refine ev_start ?_
 by_cases ha : acChk A = 0
 case neg =>
  have e : bkChk A E s = acChk A := by unfold bkChk; rw [if_pos ha]
  simp (disch := omega) only [chkF_eq, ha, e, go_sem, evP_D, evD_guard, evD_cons, evD_zero, evD_nil]
 by_cases h1 : s < -1
 ·have e : bkChk A E s = 1 := by unfold bkChk; rw [if_neg (fun h => h ha), if_pos (by omega)]
  simp (disch := omega) only [chkF_eq, ha, h1, e, go_sem, evP_D, evD_guard, evD_cons, evD_zero, evD_nil]
 by_cases h2 : 292193 < s
 ·have e : bkChk A E s = 1 := by unfold bkChk; rw [if_neg (fun h => h ha), if_pos (by omega)]
  simp (disch := omega) only [chkF_eq, ha, h1, h2, e, go_sem, evP_D, evD_guard, evD_cons, evD_zero, evD_nil]
 by_cases h3 : 60 < E.length
 ·have h3' : (60 : Int) < E.length := by omega
  have e : bkChk A E s = 2 := by unfold bkChk; rw [if_neg (fun h => h ha), if_neg (fun h => h (by omega)), if_pos h3]
  simp (disch := omega) only [chkF_eq, List.length_map, ha, h1, h2, h3', e, go_sem, evP_D, evD_guard, evD_cons, evD_zero, evD_nil]
 have h3' : ¬ (60 : Int) < E.length := by omega
 obtain ⟨R, hR⟩ : ∃ R, R = bkE A [] none E := ⟨_, rfl⟩
 have e : bkChk A E s = R := by unfold bkChk; rw [if_neg (fun h => h ha), if_neg (fun h => h (by omega)), if_neg h3, hR]
 rw [e]
 simp (disch := omega) only [chkF_eq, List.length_map, ha, h1, h2, h3', go_sem, evP_D, evD_guard, evD_cons, evD_zero, evD_nil]
 refine evQ_loop [1, 4, 28, 29, 30] [8, 208] (fun σ => ∃ (k : Nat), (k ≤ E.length ∧ R = bkE A (keysTo E k) (prvE E k) (E.drop k) ∧ ∀ y, prvE E k = some y → 0 ≤ y.2.1 ∧ y.2.1 ≤ 292193) ∧ σ = ⟨[(1, .ptr 8 0), (4, .vec 208), (28, .row 3 (E.map enW)), (29, .int .i64 E.length), (30, .int .i64 k)], [(8, .box (.agg [.row 2 (A.map acV), .row 3 (E.map enW), .int .i64 s])), (208, .map (setV (keysTo E k)))]⟩)
  (fun σ => E.length - (match Ev.look 30 σ.env with | some (.int _ n) => n.toNat | _ => 0)) ?_ ?_
 ·simp only [go_sem, evP_D, evD_guard, evD_cons, evD_zero, evD_nil]
  exact ⟨0, ⟨Nat.zero_le _, hR, fun y hy => by cases hy⟩, rfl⟩
 ·rintro σ ⟨k, ⟨hkl, hall, hpd⟩, rfl⟩
  by_cases hlt : k < E.length
  ·have hlt' : (k : Int) < E.length := by omega
   obtain ⟨⟨c, d, l⟩, hcn⟩ : ∃ p, E[k]? = some p := ⟨_, List.getElem?_eq_getElem hlt⟩
   have hg := enW_get hcn
   have hks := keysTo_succ hcn
   have hpn : prvE E (k + 1) = some (c, d, l) := by unfold prvE; rw [if_neg (by omega), Nat.add_sub_cancel, hcn]
   rw [bkE_drop hcn] at hall
   have hms : E.length - ((k : Int) + 1).toNat < E.length - (k : Int).toNat := by
    have e3 : ((k : Int) + 1).toNat = k + 1 := by omega
    rw [e3, Int.toNat_natCast]; exact Nat.sub_lt_sub_left hlt (Nat.lt_succ_self k)
   have hx0 : enX (c, d, l) = enE c d l := rfl
   rw [hx0] at hall
   by_cases hz : enE c d l = 0
   case neg =>
    rw [if_pos hz] at hall
    rw [hall]
    simp (disch := (first | omega | assumption)) only [hlt', idx_nat, List.length_map, hg, echeckF_eq, hz, go_sem, evP_D, evD_guard, evD_cons, evD_zero, evD_nil]
   rw [if_neg (fun h => h hz)] at hall
   cases hkn : knownB A (c, d, l) with
   | false =>
    rw [if_pos hkn] at hall
    rw [hall]
    simp (disch := (first | omega | assumption)) only [hlt', idx_nat, List.length_map, hg, echeckF_eq, knownF_eq, hz, hkn, go_sem, evP_D, evD_guard, evD_cons, evD_zero, evD_nil]
   | true =>
    rw [if_neg (by rw [hkn]; simp)] at hall
    have hfi := find_set c (keysTo E k)
    cases hcs : hasC c (keysTo E k) with
    | true =>
     rw [hcs, if_pos rfl] at hfi
     rw [if_pos hcs] at hall
     rw [hall]
     simp (disch := (first | omega | assumption)) only [hlt', idx_nat, List.length_map, hg, echeckF_eq, knownF_eq, hz, hkn, hfi, go_sem, evP_D, evD_guard, evD_cons, evD_zero, evD_nil]
    | false =>
     rw [hcs, if_neg (by simp)] at hfi
     rw [if_neg (by rw [hcs]; simp)] at hall
     have hup := upd_set c (keysTo E k) hcs
     rw [← hks] at hup
     have hd := (enX_ok (x := (c, d, l)) hz).1
     simp only at hd
     by_cases hk0 : k = 0
     ·subst hk0
      have hp : prvE E 0 = none := rfl
      rw [hp] at hall
      have h0 : ¬ (0 : Int) < ((0 : Nat) : Int) := by omega
      have z0 : ((0 : Nat) : Int) = 0 := rfl
      have hi0 := idx_nat E.length 0 hlt
      rw [z0] at hlt' h0 hi0 hms ⊢
      simp (disch := (first | omega | assumption)) only [hlt', hi0, List.length_map, hg, echeckF_eq, knownF_eq, hz, hkn, hfi, hup, h0, go_sem, evP_D, evD_guard, evD_cons, evD_zero, evD_nil]
      exact ⟨⟨1, ⟨hlt, by rw [if_neg (by simp [badO])] at hall; exact hall, fun y hy => by rw [hpn] at hy; cases hy; exact hd⟩, rfl⟩, hms⟩
     ·have h0 : (0 : Int) < k := by omega
      have hk1 : k - 1 < E.length := by omega
      obtain ⟨⟨c', d', l'⟩, hcn'⟩ : ∃ p, E[k - 1]? = some p := ⟨_, List.getElem?_eq_getElem hk1⟩
      have hg' := enW_get hcn'
      have hp : prvE E k = some (c', d', l') := by unfold prvE; rw [if_neg hk0, hcn']
      have hd' := hpd _ hp
      simp only at hd'
      rw [hp] at hall
      have e1 : (k : Int) - 1 = ((k - 1 : Nat) : Int) := by omega
      have hcm := cmpF_eq (a := c') (b := c) (l := l') (m := l) hd' hd
      have hge := cmpE_ge (c', d', l') (c, d, l)
      cases hb : ltB (c', d', l') (c, d, l) with
      | false =>
       have hge' : 0 ≤ cmpE (c', d', l') (c, d, l) := hge.2 hb
       rw [if_pos (by simp [badO, hb])] at hall
       rw [hall]
       simp (disch := (first | omega | assumption)) only [hlt', idx_nat, List.length_map, hg, hg', echeckF_eq, knownF_eq, hz, hkn, hfi, hup, h0, e1, hcm, hge', go_sem, evP_D, evD_guard, evD_cons, evD_zero, evD_nil]
      | true =>
       have hge' : ¬ 0 ≤ cmpE (c', d', l') (c, d, l) := fun h => by rw [hge.1 h] at hb; cases hb
       rw [if_neg (by simp [badO, hb])] at hall
       simp (disch := (first | omega | assumption)) only [hlt', idx_nat, List.length_map, hg, hg', echeckF_eq, knownF_eq, hz, hkn, hfi, hup, h0, e1, hcm, hge', go_sem, evP_D, evD_guard, evD_cons, evD_zero, evD_nil]
       exact ⟨⟨k + 1, ⟨hlt, hall, fun y hy => by rw [hpn] at hy; cases hy; exact hd⟩, rfl⟩, hms⟩
  ·have hk' : k = E.length := by omega
   subst hk'
   have hlt' : ¬ ((E.length : Int) < E.length) := by omega
   have e0 : R = 0 := by rw [hall, List.drop_length]; rfl
   simp (disch := (first | omega | assumption)) only [hlt', e0, go_sem, evP_D, evD_guard, evD_cons, evD_zero, evD_nil]
end Go.Proofs.YtcmpjagpggjfiaaGreatDoor
end
section
namespace Go.Acc
open Go
/-! ### sums by codes, in a map -/
def lookM (c : ByteArray) : List (ByteArray × Int) → Option Int
 | [] => none
 | p :: M => if c = p.1 then some p.2 else lookM c M
def putM (c : ByteArray) (v : Int) : List (ByteArray × Int) → List (ByteArray × Int)
 | [] => [(c, v)]
 | p :: M => if c = p.1 then (p.1, v) :: M else p :: putM c v M
def addM (M : List (ByteArray × Int)) (p : ByteArray × Int) : List (ByteArray × Int) := putM p.1 ((lookM p.1 M).getD 0 + p.2) M
def addE (f t : Int) (M : List (ByteArray × Int)) (x : En) : List (ByteArray × Int) := if f ≤ x.2.1 ∧ x.2.1 ≤ t then x.2.2.foldl addM M else M
end Go.Acc
namespace Go.Proofs.YtcmpjagpggjfiaaGreatDoor
open Go Go.Ev Go.RowKit Go.Acc
set_option maxHeartbeats 4000000
theorem enX_lines {x : En} (h : enX x = 0) (c : ByteArray) (j : Nat) : -12000000000000 ≤ ofL c (x.2.2.take j) ∧ ofL c (x.2.2.take j) ≤ 12000000000000 :=
 ofL_bd c (fun p hp => (enX_ok h).2.2 p (List.mem_of_mem_take hp)) (by rw [List.length_take]; have := (enX_ok h).2.1; omega)
theorem ofB_bdk (c : ByteArray) (f t : Int) {E : List En} (h : ∀ x ∈ E, enX x = 0) (hl : E.length ≤ 60) (k : Nat) : -720000000000000 ≤ ofB c f t (E.take k) ∧ ofB c f t (E.take k) ≤ 720000000000000 :=
 ofB_bd c f t (fun x hx => h x (List.mem_of_mem_take hx)) (by rw [List.length_take]; omega)
set_option maxHeartbeats 4000000 in
theorem of_sound {J : World → Prop} (hJ : Stable J) (A : List (ByteArray × Int)) (E : List En) (s : Int) (c : ByteArray) (f t : Int) (hE : ∀ x ∈ E, enX x = 0) (hl : E.length ≤ 60) : SoundAt Tryz.prog J 39 [bkV A E s, .str c, .int .i64 f, .int .i64 t] (.int .i64 (ofB c f t E)) [] := by
 unfold bkV
 refine evFn (l := []) (nv := nv0) (fz := fz0) (dr := dr39) (dd := dd39) (lam := []) (ms := ms0) trivial hJ trivial ms0_ok Tryz.func39 rfl rfl (Nat.le_of_ble_eq_true rfl) (Nat.le_of_ble_eq_true rfl) drOk39 ?_
 dsimp only [Tryz.f39, dr39, dd39, Option.getD_some]
 refine ev_start ?_
 simp (disch := omega) only [List.length_map, go_sem, evP_D, evD_guard, evD_cons, evD_zero, evD_nil]
 refine evQ_loop [1, 2, 3, 9, 15, 16, 17] [] (fun σ => ∃ (k : Nat), k ≤ E.length ∧ σ = ⟨[(1, .str c), (2, .int .i64 f), (3, .int .i64 t), (9, .int .i64 (ofB c f t (E.take k))), (15, .row 3 (E.map enW)), (16, .int .i64 E.length), (17, .int .i64 k)], []⟩)
  (fun σ => E.length - (match Ev.look 17 σ.env with | some (.int _ n) => n.toNat | _ => 0)) ?_ ?_
 ·simp only [go_sem, evP_D, evD_guard, evD_cons, evD_zero, evD_nil]
  exact ⟨0, Nat.zero_le _, rfl⟩
 ·rintro σ ⟨k, hkl, rfl⟩
  by_cases hlt : k < E.length
  ·have hlt' : (k : Int) < E.length := by omega
   obtain ⟨⟨ky, d, l⟩, hcn⟩ : ∃ p, E[k]? = some p := ⟨_, List.getElem?_eq_getElem hlt⟩
   have hx := hE _ (List.mem_of_getElem? hcn)
   have hll : l.length ≤ 12 := (enX_ok hx).2.1
   have hg := enW_get hcn
   have hsu := ofB_succ (c := c) (f := f) (t := t) hcn
   have hb0 := ofB_bdk c f t hE hl k
   have hms : E.length - ((k : Int) + 1).toNat < E.length - (k : Int).toNat := by
    have e3 : ((k : Int) + 1).toNat = k + 1 := by omega
    rw [e3, Int.toNat_natCast]; exact Nat.sub_lt_sub_left hlt (Nat.lt_succ_self k)
   by_cases h1 : d < f
   ·have e : ofX c f t (ky, d, l) = 0 := if_neg (fun h => by have := h.1; simp only at this; omega)
    rw [e, Int.add_zero] at hsu
    simp (disch := (first | omega | assumption)) only [hlt', idx_nat, List.length_map, hg, h1, go_sem, evP_D, evD_guard, evD_cons, evD_zero, evD_nil]
    exact ⟨⟨k + 1, hlt, by rw [hsu]; rfl⟩, hms⟩
   by_cases h2 : t < d
   ·have e : ofX c f t (ky, d, l) = 0 := if_neg (fun h => by have := h.2; simp only at this; omega)
    rw [e, Int.add_zero] at hsu
    simp (disch := (first | omega | assumption)) only [hlt', idx_nat, List.length_map, hg, h1, h2, go_sem, evP_D, evD_guard, evD_cons, evD_zero, evD_nil]
    exact ⟨⟨k + 1, hlt, by rw [hsu]; rfl⟩, hms⟩
   have e : ofX c f t (ky, d, l) = ofL c l := if_pos ⟨by show f ≤ d; omega, by show d ≤ t; omega⟩
   rw [e] at hsu
   simp (disch := (first | omega | assumption)) only [hlt', idx_nat, List.length_map, hg, h1, h2, go_sem, evP_D, evD_guard, evD_cons, evD_zero, evD_nil]
   refine evQ_loop [1, 2, 3, 9, 15, 16, 17, 32, 33, 34] [] (fun σ => ∃ (j : Nat), j ≤ l.length ∧ σ = ⟨[(1, .str c), (2, .int .i64 f), (3, .int .i64 t), (9, .int .i64 (ofB c f t (E.take k) + ofL c (l.take j))), (15, .row 3 (E.map enW)), (16, .int .i64 E.length), (17, .int .i64 k), (32, .row 2 (l.map acV)), (33, .int .i64 l.length), (34, .int .i64 j)], []⟩)
    (fun σ => l.length - (match Ev.look 34 σ.env with | some (.int _ n) => n.toNat | _ => 0)) ?_ ?_
   ·simp only [go_sem, evP_D, evD_guard, evD_cons, evD_zero, evD_nil]
    exact ⟨0, Nat.zero_le _, by rw [List.take_zero]; simp [ofL]⟩
   ·rintro σ ⟨j, hjl, rfl⟩
    by_cases hjt : j < l.length
    ·have hjt' : (j : Int) < l.length := by omega
     obtain ⟨⟨c', n⟩, hcl⟩ : ∃ p, l[j]? = some p := ⟨_, List.getElem?_eq_getElem hjt⟩
     have hgl := acV_get hcl
     have hsl := ofL_succ (c := c) hcl
     have hb1 := enX_lines hx c j
     have hn := (enX_ok hx).2.2 _ (List.mem_of_getElem? hcl)
     simp only at hb1 hn
     have hmj : l.length - ((j : Int) + 1).toNat < l.length - (j : Int).toNat := by
      have e3 : ((j : Int) + 1).toNat = j + 1 := by omega
      rw [e3, Int.toNat_natCast]; exact Nat.sub_lt_sub_left hjt (Nat.lt_succ_self j)
     by_cases hc : c' = c
     ·have hct := eq_true hc
      have ew : lnW c (c', n) = n := if_pos (decide_eq_true hc)
      rw [ew] at hsl
      simp (disch := (first | omega | assumption)) only [hjt', idx_nat, List.length_map, hgl, bin_eql_str, hct, decide_true, go_sem, evP_D, evD_guard, evD_cons, evD_zero, evD_nil]
      exact ⟨⟨j + 1, hjt, by rw [hsl, Int.add_assoc]; rfl⟩, hmj⟩
     ·have ew : lnW c (c', n) = 0 := if_neg (by simpa [isC] using hc)
      rw [ew, Int.add_zero] at hsl
      simp (disch := (first | omega | assumption)) only [hjt', idx_nat, List.length_map, hgl, bin_eql_str, hc, decide_false, go_sem, evP_D, evD_guard, evD_cons, evD_zero, evD_nil]
      exact ⟨⟨j + 1, hjt, by rw [hsl]; rfl⟩, hmj⟩
    ·have hj' : j = l.length := by omega
     subst hj'
     have hjt' : ¬ ((l.length : Int) < l.length) := by omega
     simp (disch := (first | omega | assumption)) only [hjt', go_sem, evP_D, evD_guard, evD_cons, evD_zero, evD_nil]
     exact ⟨⟨k + 1, hlt, by rw [hsu, List.take_length]; rfl⟩, hms⟩
  ·have hk' : k = E.length := by omega
   subst hk'
   have hlt' : ¬ ((E.length : Int) < E.length) := by omega
   simp (disch := (first | omega | assumption)) only [hlt', List.take_length, go_sem, evP_D, evD_guard, evD_cons, evD_zero, evD_nil]
end Go.Proofs.YtcmpjagpggjfiaaGreatDoor
end
