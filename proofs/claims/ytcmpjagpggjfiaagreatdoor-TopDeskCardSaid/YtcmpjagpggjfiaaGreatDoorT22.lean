/-
  Plans, run by the machine: what may be.
-/
import Derived.Test.YtcmpjagpggjfiaaGreatDoorT17
import Derived.Test.YtcmpjagpggjfiaaGreatDoorT10
import Derived.Test.YtcmpjagpggjfiaaGreatDoorT18
import Derived.Test.YtcmpjagpggjfiaaGreatDoorT11
import Derived.Test.YtcmpjagpggjfiaaGreatDoorT09
set_option linter.unusedVariables false
set_option linter.unusedSimpArgs false
namespace Go.Proofs.YtcmpjagpggjfiaaGreatDoor
open Go Go.Ev Go.RowKit Go.Job Go.Acc
set_option maxHeartbeats 4000000
theorem famj {P : Program} {J : World → Prop} {f : FuncId} {α : Type} (a : α → List V) (r : α → V × List Ev.Blk) (hi : ∀ i j, a i = a j → r i = r j) (h : ∀ i, SoundAt P J f (a i) (r i).1 (r i).2) :
  ∃ F : List V → Option (V × List Ev.Blk), (∀ i, F (a i) = some (r i)) ∧ Snd P J f F := by
 refine ⟨fun x => open Classical in if h : ∃ i, a i = x then some (r h.choose) else none, fun i => ?_, fun args r' bs h' => ?_⟩
 ·have hx : ∃ j, a j = a i := ⟨i, rfl⟩
  simp only [dif_pos hx]
  rw [hi _ _ hx.choose_spec]
 ·by_cases hx : ∃ i, a i = args
  ·simp only [dif_pos hx] at h'
   have e := Option.some.inj h'
   have := h hx.choose
   rw [e, hx.choose_spec] at this
   exact this
  ·simp only [dif_neg hx] at h'
   cases h'
theorem stableTab : Stable Tab := fun _ _ h hb => h.below hb
def addN (n k : Int) : Int := if 0 ≤ Cal.mon n + k ∧ Cal.mon n + k < 9600 then Cal.add n k else 0
def addE (n k : Int) : Int := if 0 ≤ Cal.mon n + k ∧ Cal.mon n + k < 9600 then 0 else 2
theorem addE_iff {n k : Int} : (addE n k = 0 ↔ 0 ≤ Cal.mon n + k ∧ Cal.mon n + k < 9600) := by
 unfold addE
 split
 ·rename_i h; exact ⟨fun _ => h, fun _ => rfl⟩
 ·rename_i h; exact ⟨fun h' => by omega, fun h' => absurd h' h⟩
def addF : List V → Option (V × List Ev.Blk)
 | [.int .i64 n, .int .i64 k] => if (0 ≤ n ∧ n ≤ 292193) ∧ -9600 ≤ k ∧ k ≤ 9600 then some (.tup [.int .i64 (addN n k), .int .i64 (addE n k)], []) else none
 | _ => none
theorem addF_eq {n k : Int} (h : (0 ≤ n ∧ n ≤ 292193) ∧ -9600 ≤ k ∧ k ≤ 9600) : addF [.int .i64 n, .int .i64 k] = some (.tup [.int .i64 (addN n k), .int .i64 (addE n k)], []) := if_pos h
theorem add_snd : Snd Tryz.prog Tab 49 addF := by
 intro args r bs h
 unfold addF at h
 split at h
 ·split at h
  ·rename_i n k hc
   obtain ⟨rfl, rfl⟩ := some_pair h
   by_cases hm : 0 ≤ Cal.mon n + k ∧ Cal.mon n + k < 9600
   ·have e1 : addN n k = Cal.ofMon (Cal.mon n + k) (Cal.dD n) := by unfold addN Cal.add; rw [if_pos hm, if_pos hm]
    have e2 : addE n k = 0 := if_pos hm
    rw [e1, e2]
    exact sound_plain (callOk Tryz.func49 rfl rfl) rfl rfl fun w ht => add_ok n k w ht hc.1.1 hc.1.2 hc.2.1 hc.2.2 hm.1 hm.2
   ·have e1 : addN n k = 0 := if_neg hm
    have e2 : addE n k = 2 := if_neg hm
    rw [e1, e2]
    exact sound_plain (callOk Tryz.func49 rfl rfl) rfl rfl fun w ht => add_large n k w ht hc.1.1 hc.1.2 hc.2.1 hc.2.2 (by omega)
  ·cases h
 ·cases h
def conF : List V → Option (V × List Ev.Blk)
 | [.str s, .str d] => if d = ⟨#[45]⟩ then some (.bool (dash s), []) else none
 | _ => none
theorem conF_eq (s : ByteArray) : conF [.str s, .str ⟨#[45]⟩] = some (.bool (dash s), []) := by simp [conF]
theorem con_snd {J : World → Prop} : Snd Tryz.prog J 172 conF := by
 intro args r bs h
 unfold conF at h
 split at h
 ·split at h
  ·rename_i s d hc
   obtain ⟨rfl, rfl⟩ := some_pair h
   subst hc
   exact sound_plain (callOk Tryz.func172 rfl rfl) rfl rfl fun w _ => (show Calls Tryz.prog 172 _ w _ from Any.strings_Contains_one Tryz.lays144 s 45 w).mono (by rintro e w' ⟨rfl, rfl⟩; exact ⟨rfl, .refl _ _⟩)
  ·cases h
 ·cases h
set_option maxRecDepth 100000 in
set_option maxHeartbeats 4000000 in
theorem one_sound (p : Pl) : SoundAt Tryz.prog Tab 139 [plV p] (.int .i64 (oneE keyOk' codeOk p)) [] := by
 have hJ := stableTab
 unfold plV
 refine evFn (l := [(95, keyF), (172, conF), (38, dayF), (151, codeF), (49, addF)]) (nv := nv0) (fz := fz0) (dr := dr139) (dd := dd139) (lam := []) (ms := ms0) ⟨key_snd hJ, con_snd, is_snd hJ, code_snd hJ, add_snd, trivial⟩ hJ trivial ms0_ok Tryz.func139 rfl rfl (Nat.le_of_ble_eq_true rfl) (Nat.le_of_ble_eq_true rfl) drOk139 ?_
 dsimp only [Tryz.f139, dr139, dd139, Option.getD_some]
 refine ev_start ?_
 by_cases hk : badKey keyOk' p
 ·have e : oneE keyOk' codeOk p = 3 := if_pos hk
  rw [e]
  cases h1 : keyOk' p.key with
  | false => simp (disch := omega) only [keyF_eq, h1, go_sem, evP_D, evD_guard, evD_cons, evD_zero, evD_nil]
  | true =>
   by_cases h2 : (9 : Int) < p.key.size
   ·simp (disch := omega) only [keyF_eq, h1, h2, go_sem, evP_D, evD_guard, evD_cons, evD_zero, evD_nil]
   ·have h3 : dash p.key = true := by
     rcases hk with h | h | h
     ·rw [h1] at h; cases h
     ·omega
     ·exact h
    simp (disch := omega) only [keyF_eq, h1, h2, conF_eq, h3, go_sem, evP_D, evD_guard, evD_cons, evD_zero, evD_nil]
 have hk1 : keyOk' p.key = true := by
  cases h : keyOk' p.key with
  | true => rfl
  | false => exact absurd (.inl h) hk
 have hk2 : ¬ (9 : Int) < p.key.size := fun h => hk (.inr (.inl (by omega)))
 have hk3 : dash p.key = false := by
  cases h : dash p.key with
  | false => rfl
  | true => exact absurd (.inr (.inr h)) hk
 by_cases hn : badNum p
 ·have e : oneE keyOk' codeOk p = 1 := by unfold oneE; rw [if_neg hk, if_pos hn]
  rw [e]
  unfold badNum at hn
  by_cases k1 : p.kind < 0
  ·simp (disch := omega) only [keyF_eq, hk1, hk2, conF_eq, hk3, k1, go_sem, evP_D, evD_guard, evD_cons, evD_zero, evD_nil]
  by_cases k2 : 1 < p.kind
  ·simp (disch := omega) only [keyF_eq, hk1, hk2, conF_eq, hk3, k1, k2, go_sem, evP_D, evD_guard, evD_cons, evD_zero, evD_nil]
  by_cases k3 : 0 ≤ p.at_ ∧ p.at_ ≤ 292193
  case neg =>
   have k3' : decide (0 ≤ p.at_ ∧ p.at_ ≤ 292193) = false := decide_eq_false k3
   simp (disch := omega) only [keyF_eq, hk1, hk2, conF_eq, hk3, k1, k2, dayF_eq, k3', go_sem, evP_D, evD_guard, evD_cons, evD_zero, evD_nil]
  by_cases k4 : p.amt < 0
  ·simp (disch := omega) only [keyF_eq, hk1, hk2, conF_eq, hk3, k1, k2, dayF_eq, k3, and_self, k4, go_sem, evP_D, evD_guard, evD_cons, evD_zero, evD_nil]
  by_cases k5 : 1000000000000 < p.amt
  ·simp (disch := omega) only [keyF_eq, hk1, hk2, conF_eq, hk3, k1, k2, dayF_eq, k3, and_self, k4, k5, go_sem, evP_D, evD_guard, evD_cons, evD_zero, evD_nil]
  by_cases k6 : p.num < 1
  ·simp (disch := omega) only [keyF_eq, hk1, hk2, conF_eq, hk3, k1, k2, dayF_eq, k3, and_self, k4, k5, k6, go_sem, evP_D, evD_guard, evD_cons, evD_zero, evD_nil]
  have k7 : 40 < p.num := by omega
  simp (disch := omega) only [keyF_eq, hk1, hk2, conF_eq, hk3, k1, k2, dayF_eq, k3, and_self, k4, k5, k6, k7, go_sem, evP_D, evD_guard, evD_cons, evD_zero, evD_nil]
 have k1 : ¬ p.kind < 0 := fun h => hn (.inl (by omega))
 have k2 : ¬ 1 < p.kind := fun h => hn (.inl (by omega))
 have k3 : 0 ≤ p.at_ ∧ p.at_ ≤ 292193 := Classical.byContradiction fun h => hn (.inr (.inl h))
 have k4 : ¬ p.amt < 0 := fun h => hn (.inr (.inr (.inl (by omega))))
 have k5 : ¬ 1000000000000 < p.amt := fun h => hn (.inr (.inr (.inl (by omega))))
 have k6 : ¬ p.num < 1 := fun h => hn (.inr (.inr (.inr (by omega))))
 have k7 : ¬ 40 < p.num := fun h => hn (.inr (.inr (.inr (by omega))))
 by_cases hc : badCode codeOk p
 ·have e : oneE keyOk' codeOk p = 3 := by unfold oneE; rw [if_neg hk, if_neg hn, if_pos hc]
  rw [e]
  cases h1 : codeOk p.deb with
  | false => simp (disch := omega) only [keyF_eq, hk1, hk2, conF_eq, hk3, k1, k2, dayF_eq, k3, and_self, k4, k5, k6, k7, codeF_eq, h1, go_sem, evP_D, evD_guard, evD_cons, evD_zero, evD_nil]
  | true =>
   cases h2 : codeOk p.cre with
   | false => simp (disch := omega) only [keyF_eq, hk1, hk2, conF_eq, hk3, k1, k2, dayF_eq, k3, and_self, k4, k5, k6, k7, codeF_eq, h1, h2, go_sem, evP_D, evD_guard, evD_cons, evD_zero, evD_nil]
   | true =>
    have h3 : p.deb = p.cre := by
     rcases hc with h | h | h
     ·rw [h1] at h; cases h
     ·rw [h2] at h; cases h
     ·exact h
    have h4 : decide (p.deb = p.cre) = true := decide_eq_true h3
    simp (disch := omega) only [keyF_eq, hk1, hk2, conF_eq, hk3, k1, k2, dayF_eq, k3, and_self, k4, k5, k6, k7, codeF_eq, h1, h2, bin_eql_str, h4, go_sem, evP_D, evD_guard, evD_cons, evD_zero, evD_nil]
 have c1 : codeOk p.deb = true := by
  cases h : codeOk p.deb with
  | true => rfl
  | false => exact absurd (.inl h) hc
 have c2 : codeOk p.cre = true := by
  cases h : codeOk p.cre with
  | true => rfl
  | false => exact absurd (.inr (.inl h)) hc
 have c3 : decide (p.deb = p.cre) = false := decide_eq_false fun h => hc (.inr (.inr h))
 have ha := addF_eq (n := p.at_) (k := p.num - 1) (by omega)
 by_cases hm : addE p.at_ (p.num - 1) = 0
 ·have hm' := addE_iff.1 hm
  have e : oneE keyOk' codeOk p = 0 := by
   unfold oneE
   rw [if_neg hk, if_neg hn, if_neg hc, if_neg]
   obtain ⟨⟨_, _, _, _, d1, d2⟩, _⟩ := Cal.date_ok p.at_ k3.1 k3.2
   have := (Cal.num_bd _ _ _ (Cal.vld_mon (Cal.mon p.at_ + (p.num - 1)) (Cal.dD p.at_) hm'.1 hm'.2 d1)).1
   unfold Cal.add
   rw [if_pos hm']
   unfold Cal.ofMon
   omega
  rw [e]
  simp (disch := omega) only [keyF_eq, hk1, hk2, conF_eq, hk3, k1, k2, dayF_eq, k3, and_self, k4, k5, k6, k7, codeF_eq, c1, c2, bin_eql_str, c3, ha, hm, go_sem, evP_D, evD_guard, evD_cons, evD_zero, evD_nil]
 ·have hm' : ¬ (0 ≤ Cal.mon p.at_ + (p.num - 1) ∧ Cal.mon p.at_ + (p.num - 1) < 9600) := fun h => hm (addE_iff.2 h)
  have e : oneE keyOk' codeOk p = 2 := by
   unfold oneE
   rw [if_neg hk, if_neg hn, if_neg hc, if_pos]
   unfold Cal.add
   rw [if_neg hm']
   omega
  rw [e]
  simp (disch := omega) only [keyF_eq, hk1, hk2, conF_eq, hk3, k1, k2, dayF_eq, k3, and_self, k4, k5, k6, k7, codeF_eq, c1, c2, bin_eql_str, c3, ha, hm, go_sem, evP_D, evD_guard, evD_cons, evD_zero, evD_nil]
theorem onex : ∃ F : List V → Option (V × List Ev.Blk), (∀ p : Pl, F [plV p] = some (.int .i64 (oneE keyOk' codeOk p), [])) ∧ Snd Tryz.prog Tab 139 F := by
 exact famj (P := Tryz.prog) (J := Tab) (f := 139) (fun p : Pl => [plV p]) (fun p => (.int .i64 (oneE keyOk' codeOk p), [])) (fun i j h => by
  simp only [List.cons.injEq, and_true] at h
  rw [plV_inj1 h]) fun p => one_sound p
end Go.Proofs.YtcmpjagpggjfiaaGreatDoor
