/-
  Steps of the proof of JobRuns: JobE JobF.
-/
import Derived.Test.YtdmkmbaaemhhhaaGreatDoorR24
import Derived.Test.YtdmkmbaaemhhhaaGreatDoorR07
import Derived.Test.YtdmkmbaaemhhhaaGreatDoorR17
import Derived.Test.YtdmkmbaaemhhhaaGreatDoorR08
import Derived.Test.YtdmkmbaaemhhhaaGreatDoorR04
import Derived.Test.YtdmkmbaaemhhhaaGreatDoorR18
set_option linter.unusedVariables false
set_option linter.unusedSimpArgs false
section
namespace Go.Proofs.YtdmkmbaaemhhhaaGreatDoor
open Go Go.Ev Go.RowKit Go.Job Go.Acc
set_option maxHeartbeats 4000000
theorem famj {P : Program} {J : World → Prop} {f : FuncId} {α : Type} (a : α → List V) (r : α → V × List Ev.Blk) (hi : ∀ i j, a i = a j → r i = r j) (h : ∀ i, SoundAt P J f (a i) (r i).1 (r i).2) :
  ∃ F : List V → Option (V × List Ev.Blk), (∀ i, F (a i) = some (r i)) ∧ Snd P J f F := by
 refine ⟨fun x => open Classical in if h : ∃ i, a i = x then some (r h.choose) else none, fun i => ?_, fun args r' bs h' => ?_⟩
 ·have hx : ∃ j, a j = a i := ⟨i, rfl⟩
  simp only [dif_pos hx]
  rw [hi _ _ hx.choose_spec]
 ·by_cases hx : ∃ i, a i = args
  ·simp only [dif_pos hx] at h'
   have e := Option.some.inj h'
   have := h hx.choose
   rw [e, hx.choose_spec] at this
   exact this
  ·simp only [dif_neg hx] at h'
   cases h'
theorem stableTab : Stable Tab := fun _ _ h hb => h.below hb
def addN (n k : Int) : Int := if 0 ≤ Cal.mon n + k ∧ Cal.mon n + k < 9600 then Cal.add n k else 0
def addE (n k : Int) : Int := if 0 ≤ Cal.mon n + k ∧ Cal.mon n + k < 9600 then 0 else 2
theorem addE_iff {n k : Int} : (addE n k = 0 ↔ 0 ≤ Cal.mon n + k ∧ Cal.mon n + k < 9600) := by
 unfold addE
 split
 ·rename_i h; exact ⟨fun _ => h, fun _ => rfl⟩
 ·rename_i h; exact ⟨fun h' => by omega, fun h' => absurd h' h⟩
def addF : List V → Option (V × List Ev.Blk)
 | [.int .i64 n, .int .i64 k] => if (0 ≤ n ∧ n ≤ 292193) ∧ -9600 ≤ k ∧ k ≤ 9600 then some (.tup [.int .i64 (addN n k), .int .i64 (addE n k)], []) else none
 | _ => none
theorem addF_eq {n k : Int} (h : (0 ≤ n ∧ n ≤ 292193) ∧ -9600 ≤ k ∧ k ≤ 9600) : addF [.int .i64 n, .int .i64 k] = some (.tup [.int .i64 (addN n k), .int .i64 (addE n k)], []) := if_pos h
theorem add_snd : Snd Tryz.prog Tab 110 addF := by
 intro args r bs h
 unfold addF at h
 split at h
 ·split at h
  ·rename_i n k hc
   obtain ⟨rfl, rfl⟩ := some_pair h
   by_cases hm : 0 ≤ Cal.mon n + k ∧ Cal.mon n + k < 9600
   ·have e1 : addN n k = Cal.ofMon (Cal.mon n + k) (Cal.dD n) := by unfold addN Cal.add; rw [if_pos hm, if_pos hm]
    have e2 : addE n k = 0 := if_pos hm
    rw [e1, e2]
    exact sound_plain (callOk Tryz.func110 rfl rfl) rfl rfl fun w ht => add_ok n k w ht hc.1.1 hc.1.2 hc.2.1 hc.2.2 hm.1 hm.2
   ·have e1 : addN n k = 0 := if_neg hm
    have e2 : addE n k = 2 := if_neg hm
    rw [e1, e2]
    exact sound_plain (callOk Tryz.func110 rfl rfl) rfl rfl fun w ht => add_large n k w ht hc.1.1 hc.1.2 hc.2.1 hc.2.2 (by omega)
  ·cases h
 ·cases h
def rdaF : List V → Option (V × List Ev.Blk)
 | [.int .i64 n, .int .i64 k] => if (0 ≤ n ∧ n ≤ 292193) ∧ -9600 ≤ k ∧ k ≤ 9600 then some (.int .i64 (Cal.add n k), []) else none
 | _ => none
theorem rdaF_eq {n k : Int} (h : (0 ≤ n ∧ n ≤ 292193) ∧ -9600 ≤ k ∧ k ≤ 9600) : rdaF [.int .i64 n, .int .i64 k] = some (.int .i64 (Cal.add n k), []) := if_pos h
theorem rda_snd {J : World → Prop} : Snd Tryz.prog J 112 rdaF := by
 intro args r bs h
 unfold rdaF at h
 split at h
 ·split at h
  ·rename_i n k hc
   obtain ⟨rfl, rfl⟩ := some_pair h
   exact sound_plain (callOk Tryz.func112 rfl rfl) rfl rfl fun w _ => radd_any n k w hc.1.1 hc.1.2 hc.2.1 hc.2.2
  ·cases h
 ·cases h
def conF : List V → Option (V × List Ev.Blk)
 | [.str s, .str d] => if d = ⟨#[45]⟩ then some (.bool (dash s), []) else none
 | _ => none
theorem conF_eq (s : ByteArray) : conF [.str s, .str ⟨#[45]⟩] = some (.bool (dash s), []) := by simp [conF]
theorem con_snd {J : World → Prop} : Snd Tryz.prog J 202 conF := by
 intro args r bs h
 unfold conF at h
 split at h
 ·split at h
  ·rename_i s d hc
   obtain ⟨rfl, rfl⟩ := some_pair h
   subst hc
   exact sound_plain (callOk Tryz.func202 rfl rfl) rfl rfl fun w _ => (show Calls Tryz.prog 202 _ w _ from Any.strings_Contains_one Tryz.lays144 s 45 w).mono (by rintro e w' ⟨rfl, rfl⟩; exact ⟨rfl, .refl _ _⟩)
  ·cases h
 ·cases h
def ixdF : List V → Option (V × List Ev.Blk)
 | [.str s, .int .u8 n] => if n = 45 then some (.int .i64 (Lib.indexByte s.data.toList 45), []) else none
 | _ => none
theorem ixdF_eq (s : ByteArray) : ixdF [.str s, .int .u8 45] = some (.int .i64 (Lib.indexByte s.data.toList 45), []) := by simp [ixdF]
theorem ixd_snd {J : World → Prop} : Snd Tryz.prog J 62 ixdF := by
 intro args r bs h
 unfold ixdF at h
 split at h
 ·split at h
  ·rename_i s n hc
   obtain ⟨rfl, rfl⟩ := some_pair h
   subst hc
   exact sound_plain (callOk Tryz.func62 rfl rfl) rfl rfl fun w _ => (show Calls Tryz.prog 62 _ w _ from Any.strings_IndexByte Tryz.lays137 s 45 w).mono (by rintro e w' ⟨rfl, rfl⟩; exact ⟨rfl, .refl _ _⟩)
  ·cases h
 ·cases h
set_option maxRecDepth 100000 in
set_option maxHeartbeats 4000000 in
theorem one_sound (p : Pl) : SoundAt Tryz.prog Tab 162 [plV p] (.int .i64 (oneE keyOk' codeOk p)) [] := by
 have hJ := stableTab
 unfold plV
 refine evFn (l := [(74, keyF), (202, conF), (47, dayF), (85, codeF), (110, addF)]) (nv := nv0) (fz := fz0) (dr := dr162) (dd := dd162) (lam := []) (ms := ms0) ⟨key_snd hJ, con_snd, is_snd hJ, code_snd hJ, add_snd, trivial⟩ hJ trivial ms0_ok Tryz.func162 rfl rfl (Nat.le_of_ble_eq_true rfl) (Nat.le_of_ble_eq_true rfl) drOk162 ?_
 dsimp only [Tryz.f162, dr162, dd162, Option.getD_some]
 refine ev_start ?_
 by_cases hk : badKey keyOk' p
 ·have e : oneE keyOk' codeOk p = 3 := if_pos hk
  rw [e]
  cases h1 : keyOk' p.key with
  | false => simp (disch := omega) only [keyF_eq, h1, go_sem, evP_D, evD_guard, evD_cons, evD_zero, evD_nil]
  | true =>
   by_cases h2 : (9 : Int) < p.key.size
   ·simp (disch := omega) only [keyF_eq, h1, h2, go_sem, evP_D, evD_guard, evD_cons, evD_zero, evD_nil]
   ·have h3 : dash p.key = true := by
     rcases hk with h | h | h
     ·rw [h1] at h; cases h
     ·omega
     ·exact h
    simp (disch := omega) only [keyF_eq, h1, h2, conF_eq, h3, go_sem, evP_D, evD_guard, evD_cons, evD_zero, evD_nil]
 have hk1 : keyOk' p.key = true := by
  cases h : keyOk' p.key with
  | true => rfl
  | false => exact absurd (.inl h) hk
 have hk2 : ¬ (9 : Int) < p.key.size := fun h => hk (.inr (.inl (by omega)))
 have hk3 : dash p.key = false := by
  cases h : dash p.key with
  | false => rfl
  | true => exact absurd (.inr (.inr h)) hk
 by_cases hn : badNum p
 ·have e : oneE keyOk' codeOk p = 1 := by unfold oneE; rw [if_neg hk, if_pos hn]
  rw [e]
  unfold badNum at hn
  by_cases k1 : p.kind < 0
  ·simp (disch := omega) only [keyF_eq, hk1, hk2, conF_eq, hk3, k1, go_sem, evP_D, evD_guard, evD_cons, evD_zero, evD_nil]
  by_cases k2 : 1 < p.kind
  ·simp (disch := omega) only [keyF_eq, hk1, hk2, conF_eq, hk3, k1, k2, go_sem, evP_D, evD_guard, evD_cons, evD_zero, evD_nil]
  by_cases k3 : 0 ≤ p.at_ ∧ p.at_ ≤ 292193
  case neg =>
   have k3' : decide (0 ≤ p.at_ ∧ p.at_ ≤ 292193) = false := decide_eq_false k3
   simp (disch := omega) only [keyF_eq, hk1, hk2, conF_eq, hk3, k1, k2, dayF_eq, k3', go_sem, evP_D, evD_guard, evD_cons, evD_zero, evD_nil]
  by_cases k4 : p.amt < 0
  ·simp (disch := omega) only [keyF_eq, hk1, hk2, conF_eq, hk3, k1, k2, dayF_eq, k3, and_self, k4, go_sem, evP_D, evD_guard, evD_cons, evD_zero, evD_nil]
  by_cases k5 : 1000000000000 < p.amt
  ·simp (disch := omega) only [keyF_eq, hk1, hk2, conF_eq, hk3, k1, k2, dayF_eq, k3, and_self, k4, k5, go_sem, evP_D, evD_guard, evD_cons, evD_zero, evD_nil]
  by_cases k6 : p.num < 1
  ·simp (disch := omega) only [keyF_eq, hk1, hk2, conF_eq, hk3, k1, k2, dayF_eq, k3, and_self, k4, k5, k6, go_sem, evP_D, evD_guard, evD_cons, evD_zero, evD_nil]
  have k7 : 40 < p.num := by omega
  simp (disch := omega) only [keyF_eq, hk1, hk2, conF_eq, hk3, k1, k2, dayF_eq, k3, and_self, k4, k5, k6, k7, go_sem, evP_D, evD_guard, evD_cons, evD_zero, evD_nil]
 have k1 : ¬ p.kind < 0 := fun h => hn (.inl (by omega))
 have k2 : ¬ 1 < p.kind := fun h => hn (.inl (by omega))
 have k3 : 0 ≤ p.at_ ∧ p.at_ ≤ 292193 := Classical.byContradiction fun h => hn (.inr (.inl h))
 have k4 : ¬ p.amt < 0 := fun h => hn (.inr (.inr (.inl (by omega))))
 have k5 : ¬ 1000000000000 < p.amt := fun h => hn (.inr (.inr (.inl (by omega))))
 have k6 : ¬ p.num < 1 := fun h => hn (.inr (.inr (.inr (by omega))))
 have k7 : ¬ 40 < p.num := fun h => hn (.inr (.inr (.inr (by omega))))
 by_cases hc : badCode codeOk p
 ·have e : oneE keyOk' codeOk p = 3 := by unfold oneE; rw [if_neg hk, if_neg hn, if_pos hc]
  rw [e]
  cases h1 : codeOk p.deb with
  | false => simp (disch := omega) only [keyF_eq, hk1, hk2, conF_eq, hk3, k1, k2, dayF_eq, k3, and_self, k4, k5, k6, k7, codeF_eq, h1, go_sem, evP_D, evD_guard, evD_cons, evD_zero, evD_nil]
  | true =>
   cases h2 : codeOk p.cre with
   | false => simp (disch := omega) only [keyF_eq, hk1, hk2, conF_eq, hk3, k1, k2, dayF_eq, k3, and_self, k4, k5, k6, k7, codeF_eq, h1, h2, go_sem, evP_D, evD_guard, evD_cons, evD_zero, evD_nil]
   | true =>
    have h3 : p.deb = p.cre := by
     rcases hc with h | h | h
     ·rw [h1] at h; cases h
     ·rw [h2] at h; cases h
     ·exact h
    have h4 : decide (p.deb = p.cre) = true := decide_eq_true h3
    simp (disch := omega) only [keyF_eq, hk1, hk2, conF_eq, hk3, k1, k2, dayF_eq, k3, and_self, k4, k5, k6, k7, codeF_eq, h1, h2, bin_eql_str, h4, go_sem, evP_D, evD_guard, evD_cons, evD_zero, evD_nil]
 have c1 : codeOk p.deb = true := by
  cases h : codeOk p.deb with
  | true => rfl
  | false => exact absurd (.inl h) hc
 have c2 : codeOk p.cre = true := by
  cases h : codeOk p.cre with
  | true => rfl
  | false => exact absurd (.inr (.inl h)) hc
 have c3 : decide (p.deb = p.cre) = false := decide_eq_false fun h => hc (.inr (.inr h))
 have ha := addF_eq (n := p.at_) (k := p.num - 1) (by omega)
 by_cases hm : addE p.at_ (p.num - 1) = 0
 ·have hm' := addE_iff.1 hm
  have e : oneE keyOk' codeOk p = 0 := by
   unfold oneE
   rw [if_neg hk, if_neg hn, if_neg hc, if_neg]
   obtain ⟨⟨_, _, _, _, d1, d2⟩, _⟩ := Cal.date_ok p.at_ k3.1 k3.2
   have := (Cal.num_bd _ _ _ (Cal.vld_mon (Cal.mon p.at_ + (p.num - 1)) (Cal.dD p.at_) hm'.1 hm'.2 d1)).1
   unfold Cal.add
   rw [if_pos hm']
   unfold Cal.ofMon
   omega
  rw [e]
  simp (disch := omega) only [keyF_eq, hk1, hk2, conF_eq, hk3, k1, k2, dayF_eq, k3, and_self, k4, k5, k6, k7, codeF_eq, c1, c2, bin_eql_str, c3, ha, hm, go_sem, evP_D, evD_guard, evD_cons, evD_zero, evD_nil]
 ·have hm' : ¬ (0 ≤ Cal.mon p.at_ + (p.num - 1) ∧ Cal.mon p.at_ + (p.num - 1) < 9600) := fun h => hm (addE_iff.2 h)
  have e : oneE keyOk' codeOk p = 2 := by
   unfold oneE
   rw [if_neg hk, if_neg hn, if_neg hc, if_pos]
   unfold Cal.add
   rw [if_neg hm']
   omega
  rw [e]
  simp (disch := omega) only [keyF_eq, hk1, hk2, conF_eq, hk3, k1, k2, dayF_eq, k3, and_self, k4, k5, k6, k7, codeF_eq, c1, c2, bin_eql_str, c3, ha, hm, go_sem, evP_D, evD_guard, evD_cons, evD_zero, evD_nil]
theorem onex : ∃ F : List V → Option (V × List Ev.Blk), (∀ p : Pl, F [plV p] = some (.int .i64 (oneE keyOk' codeOk p), [])) ∧ Snd Tryz.prog Tab 162 F := by
 exact famj (P := Tryz.prog) (J := Tab) (f := 162) (fun p : Pl => [plV p]) (fun p => (.int .i64 (oneE keyOk' codeOk p), [])) (fun i j h => by
  simp only [List.cons.injEq, and_true] at h
  rw [plV_inj1 h]) fun p => one_sound p
end Go.Proofs.YtdmkmbaaemhhhaaGreatDoor
end
section
namespace Go.Proofs.YtdmkmbaaemhhhaaGreatDoor
open Go Go.Ev Go.RowKit Go.Job Go.Acc
set_option maxHeartbeats 4000000
theorem indexP_sound {J : World → Prop} (hJ : Stable J) (g : FuncId) (cs : List V) (G : List V → Option (V × List Ev.Blk)) (hG : Snd Tryz.prog J g G) (hd : V.dataL cs = true) (p : Pl → Bool) (l : List Pl) (hp : ∀ n ∈ l, G (plV n :: cs) = some (.bool (p n), [])) :
  SoundAt Tryz.prog J 203 [.row 7 (l.map plV), .fn g cs] (.int .i64 (if l.any p = true then ((l.findIdx p : Nat) : Int) else -1)) [] := by
 refine SoundAt.row 0 rfl (callOk Tryz.func203 rfl rfl) fun hlen => ?_
 simp only [maxLen, List.length_map] at hlen
 refine evFn (l := [(g, G)]) (nv := nv0) (fz := fz0) (dr := dr203) (dd := dd203) (lam := []) (ms := ms0) ⟨hG, trivial⟩ hJ trivial ms0_ok Tryz.func203 rfl rfl (Nat.le_of_ble_eq_true rfl) (Nat.le_of_ble_eq_true rfl) drOk203 ?_
 dsimp only [Tryz.f203, dr203, dd203, Option.getD_some]
 refine ev_start ?_
 simp (disch := omega) only [go_sem, evP_D, evD_guard, evD_cons, evD_zero, evD_nil]
 refine evQ_loop [0, 1, 7, 8] [] (fun σ => ∃ k : Nat, (k ≤ l.length ∧ ∀ i (h : i < l.length), i < k → p l[i] = false) ∧ σ = ⟨[(0, .row 7 (l.map plV)), (1, .fn g cs), (7, .int .i64 l.length), (8, .int .i64 k)], []⟩) (fun σ => l.length - (match Ev.look 8 σ.env with | some (.int _ n) => n.toNat | _ => 0)) ?_ ?_
 ·simp only [go_sem, evP_D, evD_guard, evD_cons, evD_zero, evD_nil]
  exact ⟨refsInL_data hd, 0, ⟨Nat.zero_le _, fun _ _ h => by omega⟩, rfl⟩
 ·rintro σ ⟨k, ⟨hk, hall⟩, rfl⟩
  by_cases hlt : k < l.length
  ·have hlt' : (k : Int) < l.length := by omega
   have hg := plV_get (List.getElem?_eq_getElem hlt)
   have hpk := hp l[k] (List.getElem_mem hlt)
   unfold plV at hpk
   cases hb : p l[k] with
   | true =>
    rw [hb] at hpk
    have hany : l.any p = true := List.any_eq_true.2 ⟨l[k], List.getElem_mem hlt, hb⟩
    have hidx : l.findIdx p = k := (List.findIdx_eq hlt).2 ⟨hb, fun j hj => hall j (by omega) hj⟩
    simp (disch := (first | omega | assumption)) only [hlt', idx_nat, List.length_map, hg, hpk, hd, V.dataL, V.data, hany, hidx, go_sem, evP_D, evD_guard, evD_cons, evD_zero, evD_nil]
   | false =>
    rw [hb] at hpk
    simp (disch := (first | omega | assumption)) only [hlt', idx_nat, List.length_map, hg, hpk, hd, refsInL_data hd, scrubL_data hd, V.dataL, V.data, go_sem, evP_D, evD_guard, evD_cons, evD_zero, evD_nil]
    exact ⟨⟨k + 1, ⟨hlt, fun i hi hik => by
     by_cases e : i = k
     ·subst e; exact hb
     ·exact hall i hi (by omega)⟩, rfl⟩, by show l.length - ((k : Int) + 1).toNat < l.length - (k : Int).toNat; omega⟩
  ·have hk' : k = l.length := by omega
   subst hk'
   have hlt' : ¬ ((l.length : Int) < l.length) := by omega
   have hany : l.any p = false := by
    rw [List.any_eq_false]
    intro x hx
    obtain ⟨i, hi, rfl⟩ := List.mem_iff_getElem.1 hx
    simp [hall i hi hi]
   simp (disch := (first | omega | assumption)) only [hlt', hany, go_sem, evP_D, evD_guard, evD_cons, evD_zero, evD_nil]
theorem containsP_sound {J : World → Prop} (hJ : Stable J) (g : FuncId) (cs : List V) (G : List V → Option (V × List Ev.Blk)) (hG : Snd Tryz.prog J g G) (hd : V.dataL cs = true) (p : Pl → Bool) (l : List Pl) (hp : ∀ n ∈ l, G (plV n :: cs) = some (.bool (p n), [])) :
  SoundAt Tryz.prog J 163 [.row 7 (l.map plV), .fn g cs] (.bool (l.any p)) [] := by
 have hS := indexP_sound hJ g cs G hG hd p l hp
 refine evFn (l := [(203, at1 [.row 7 (l.map plV), .fn g cs] (.int .i64 (if l.any p = true then ((l.findIdx p : Nat) : Int) else -1), []))]) (nv := nv0) (fz := fz0) (dr := dr163) (dd := dd163) (lam := []) (ms := ms0) ⟨at1_snd hS, trivial⟩ hJ trivial ms0_ok Tryz.func163 rfl rfl (Nat.le_of_ble_eq_true rfl) (Nat.le_of_ble_eq_true rfl) drOk163 ?_
 dsimp only [Tryz.f163, dr163, dd163, Option.getD_some]
 refine ev_start ?_
 cases hb : l.any p with
 | true =>
  have h1 : (0 : Int) ≤ ((l.findIdx p : Nat) : Int) := by omega
  simp (disch := omega) only [at1_eq, h1, hd, hb, V.dataL, V.data, go_sem, evP_D, evD_guard, evD_cons, evD_zero, evD_nil]
 | false =>
  have h2 : ¬ (0 ≤ (-1 : Int)) := by omega
  simp (disch := omega) only [at1_eq, h2, hd, hb, V.dataL, V.data, go_sem, evP_D, evD_guard, evD_cons, evD_zero, evD_nil]
def jc1F : List V → Option (V × List Ev.Blk)
 | [.agg [.str k, .int .i64 _, .int .i64 _, .int .i64 _, .int .i64 _, .str _, .str _], .rd (.agg [.str k', .int .i64 _, .int .i64 _, .int .i64 _, .int .i64 _, .str _, .str _]) 0] => some (.bool (decide (k = k')), [])
 | _ => none
theorem jc1_snd {J : World → Prop} (hJ : Stable J) : Snd Tryz.prog J 164 jc1F := by
 intro args r bs h
 unfold jc1F at h
 split at h
 ·obtain ⟨rfl, rfl⟩ := some_pair h
  refine evFn (l := []) (nv := nv0) (fz := fz0) (dr := dr164) (dd := dd164) (lam := []) (ms := ms0) trivial hJ trivial ms0_ok Tryz.func164 rfl rfl (Nat.le_of_ble_eq_true rfl) (Nat.le_of_ble_eq_true rfl) drOk164 ?_
  dsimp only [Tryz.f164, dr164, dd164, Option.getD_some]
  refine ev_start ?_
  simp (disch := omega) only [bin_eql_str, go_sem, evP_D, evD_guard, evD_cons, evD_zero, evD_nil]
 ·cases h
theorem jconx {J : World → Prop} (hJ : Stable J) : ∃ F : List V → Option (V × List Ev.Blk), (∀ (l : List Pl) (p : Pl), F [.row 7 (l.map plV), .fn 164 [.rd (plV p) 0]] = some (.bool (l.any fun q => decide (q.key = p.key)), [])) ∧ Snd Tryz.prog J 163 F := by
 obtain ⟨F, h1, h2⟩ := famj (P := Tryz.prog) (J := J) (f := 163) (fun q : List Pl × Pl => [V.row 7 (q.1.map plV), .fn 164 [.rd (plV q.2) 0]]) (fun q => (.bool (q.1.any fun x => decide (x.key = q.2.key)), [])) (fun i j h => by
  simp only [List.cons.injEq, V.row.injEq, V.fn.injEq, V.rd.injEq, true_and, and_true] at h
  rw [plV_inj h.1, plV_inj1 h.2]) fun q => containsP_sound hJ 164 [.rd (plV q.2) 0] jc1F (jc1_snd hJ) (by simp [V.dataL, V.data, plV]) (fun x => decide (x.key = q.2.key)) q.1 fun x _ => rfl
 exact ⟨F, fun l p => h1 (l, p), h2⟩
set_option maxHeartbeats 2000000 in
theorem jcheck_sound (l : List Pl) : SoundAt Tryz.prog Tab 108 [.row 7 (l.map plV)] (.int .i64 (plChk keyOk' codeOk l)) [] := by
 refine SoundAt.row 0 rfl (callOk Tryz.func108 rfl rfl) fun hlen => ?_
 simp only [maxLen, List.length_map] at hlen
 have hJ := stableTab
 obtain ⟨OF, hOF, sOF⟩ := onex
 obtain ⟨KF, hKF, sKF⟩ := jconx hJ
 refine evFn (l := [(162, OF), (163, KF)]) (nv := nv0) (fz := fz0) (dr := dr108) (dd := dd108) (lam := []) (ms := ms0) ⟨sOF, sKF, trivial⟩ hJ trivial ms0_ok Tryz.func108 rfl rfl (Nat.le_of_ble_eq_true rfl) (Nat.le_of_ble_eq_true rfl) drOk108 ?_
 dsimp only [Tryz.f108, dr108, dd108, Option.getD_some]
 refine ev_start ?_
 by_cases h3 : 12 < l.length
 ·have h3' : (12 : Int) < l.length := by omega
  have e : plChk keyOk' codeOk l = 2 := by unfold plChk; rw [if_pos h3]
  simp (disch := omega) only [h3', e, List.length_map, go_sem, evP_D, evD_guard, evD_cons, evD_zero, evD_nil]
 have h3' : ¬ (12 : Int) < l.length := by omega
 have e : plChk keyOk' codeOk l = plE keyOk' codeOk l l.length := by unfold plChk; rw [if_neg h3]
 rw [e]
 simp (disch := omega) only [h3', List.length_map, go_sem, evP_D, evD_guard, evD_cons, evD_zero, evD_nil]
 refine evQ_loop [0, 9, 10, 11] [] (fun σ => ∃ (k : Nat), (k ≤ l.length ∧ plE keyOk' codeOk l k = 0) ∧ σ = ⟨[(0, .row 7 (l.map plV)), (9, .row 7 (l.map plV)), (10, .int .i64 l.length), (11, .int .i64 k)], []⟩)
  (fun σ => l.length - (match Ev.look 11 σ.env with | some (.int _ n) => n.toNat | _ => 0)) ?_ ?_
 ·simp only [go_sem, evP_D, evD_guard, evD_cons, evD_zero, evD_nil]
  exact ⟨0, ⟨Nat.zero_le _, rfl⟩, rfl⟩
 ·rintro σ ⟨k, ⟨hk, hpre⟩, rfl⟩
  by_cases hlt : k < l.length
  ·have hlt' : (k : Int) < l.length := by omega
   obtain ⟨p, hp⟩ : ∃ p, l[k]? = some p := ⟨_, List.getElem?_eq_getElem hlt⟩
   have hg := plV_get hp
   have hO := hOF p
   have hK := hKF (l.take k) p
   rw [List.map_take] at hK
   unfold plV at hO
   rw [show plV p = .agg [.str p.key, .int .i64 p.kind, .int .i64 p.at_, .int .i64 p.amt, .int .i64 p.num, .str p.deb, .str p.cre] from rfl] at hK
   have hst := plE_step keyOk' codeOk hpre hp
   have hfin := fun (h : plE keyOk' codeOk l (k + 1) ≠ 0) => plE_fin keyOk' codeOk (show k + 1 ≤ l.length by omega) h
   have hms : l.length - ((k : Int) + 1).toNat < l.length - (k : Int).toNat := by
    have e3 : ((k : Int) + 1).toNat = k + 1 := by omega
    rw [e3, Int.toNat_natCast]; omega
   have g0 : (0 : Int) ≤ k := by omega
   have g1 : (k : Int) ≤ l.length := by omega
   by_cases ho : oneE keyOk' codeOk p = 0
   ·rw [if_pos ho] at hst
    rw [ho] at hO
    cases hc : (l.take k).any fun q => decide (q.key = p.key) with
    | true =>
     rw [hc, if_pos rfl] at hst
     rw [hc] at hK
     have hR : plE keyOk' codeOk l l.length = 5 := by rw [hfin (by omega), hst]
     simp (disch := (first | omega | assumption)) only [hlt', idx_nat, List.length_map, hg, hO, hK, hR, g0, g1, and_self, Int.toNat_natCast, Nat.sub_zero, List.drop_zero, List.mapM_cons, List.mapM_nil, Option.bind_eq_bind, Option.pure_def, Option.bind_some, go_sem, evP_D, evD_guard, evD_cons, evD_zero, evD_nil]
    | false =>
     rw [hc, if_neg (by simp)] at hst
     rw [hc] at hK
     simp (disch := (first | omega | assumption)) only [hlt', idx_nat, List.length_map, hg, hO, hK, g0, g1, and_self, Int.toNat_natCast, Nat.sub_zero, List.drop_zero, List.mapM_cons, List.mapM_nil, Option.bind_eq_bind, Option.pure_def, Option.bind_some, go_sem, evP_D, evD_guard, evD_cons, evD_zero, evD_nil]
     exact ⟨⟨k + 1, ⟨hlt, hst⟩, rfl⟩, hms⟩
   ·rw [if_neg ho] at hst
    have hR : plE keyOk' codeOk l l.length = oneE keyOk' codeOk p := by rw [hfin (by rw [hst]; exact ho), hst]
    rw [hR]
    simp (disch := (first | omega | assumption)) only [hlt', idx_nat, List.length_map, hg, hO, ho, go_sem, evP_D, evD_guard, evD_cons, evD_zero, evD_nil]
  ·have hk' : k = l.length := by omega
   subst hk'
   have hlt' : ¬ ((l.length : Int) < l.length) := by omega
   simp (disch := (first | omega | assumption)) only [hlt', hpre, go_sem, evP_D, evD_guard, evD_cons, evD_zero, evD_nil]
end Go.Proofs.YtdmkmbaaemhhhaaGreatDoor
end
