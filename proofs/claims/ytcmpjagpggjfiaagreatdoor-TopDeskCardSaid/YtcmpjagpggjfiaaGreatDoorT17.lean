/-
  Plans in plain words: what may be, what is due.
-/
import Derived.Test.YtcmpjagpggjfiaaGreatDoorT08
import Derived.Test.YtcmpjagpggjfiaaGreatDoorT15
import Derived.Test.YtcmpjagpggjfiaaGreatDoorT16
import Derived.Lib.Bytealg
set_option linter.unusedVariables false
namespace Go.Job
open Go.Proofs.YtcmpjagpggjfiaaGreatDoor
open Go Go.Ev
structure Pl where
 key : ByteArray
 kind : Int
 at_ : Int
 amt : Int
 num : Int
 deb : ByteArray
 cre : ByteArray
def plV (p : Pl) : V := .agg [.str p.key, .int .i64 p.kind, .int .i64 p.at_, .int .i64 p.amt, .int .i64 p.num, .str p.deb, .str p.cre]
theorem plV_get {l : List Pl} {k : Nat} {p : Pl} (h : l[k]? = some p) : (l.map plV)[k]? = some (.agg [.str p.key, .int .i64 p.kind, .int .i64 p.at_, .int .i64 p.amt, .int .i64 p.num, .str p.deb, .str p.cre]) := by
 rw [List.getElem?_map, h]; rfl
theorem plV_inj1 {p q : Pl} (h : plV p = plV q) : p = q := by
 obtain ⟨a1, a2, a3, a4, a5, a6, a7⟩ := p
 obtain ⟨b1, b2, b3, b4, b5, b6, b7⟩ := q
 simp only [plV, V.agg.injEq, List.cons.injEq, V.str.injEq, V.int.injEq, true_and, and_true] at h
 obtain ⟨rfl, rfl, rfl, rfl, rfl, rfl, rfl⟩ := h
 rfl
theorem plV_inj : ∀ {l l' : List Pl}, l.map plV = l'.map plV → l = l'
 | [], [], _ => rfl
 | [], _ :: _, h => by simp at h
 | _ :: _, [], h => by simp at h
 | x :: l, y :: l', h => by
  simp only [List.map_cons, List.cons.injEq] at h
  rw [plV_inj h.2, plV_inj1 h.1]
def dash (s : ByteArray) : Bool := decide (0 ≤ Lib.indexByte s.data.toList 45)
variable (kOk cOk : ByteArray → Bool)
def badKey (p : Pl) : Prop := kOk p.key = false ∨ 9 < p.key.size ∨ dash p.key = true
def badNum (p : Pl) : Prop := ¬ (0 ≤ p.kind ∧ p.kind ≤ 1) ∨ ¬ (0 ≤ p.at_ ∧ p.at_ ≤ 292193) ∨ ¬ (0 ≤ p.amt ∧ p.amt ≤ 1000000000000) ∨ ¬ (1 ≤ p.num ∧ p.num ≤ 40)
def badCode (p : Pl) : Prop := cOk p.deb = false ∨ cOk p.cre = false ∨ p.deb = p.cre
open Classical in
noncomputable def oneE (p : Pl) : Int := if badKey kOk p then 3 else if badNum p then 1 else if badCode cOk p then 3 else if Cal.add p.at_ (p.num - 1) < 0 then 2 else 0
open Classical in
noncomputable def plE (l : List Pl) : Nat → Int
 | 0 => 0
 | k + 1 => if plE l k = 0 then (match l[k]? with
  | some p => if oneE kOk cOk p = 0 then (if ((l.take k).any fun q => decide (q.key = p.key)) = true then 5 else 0) else oneE kOk cOk p
  | none => 0) else plE l k
noncomputable def plChk (l : List Pl) : Int := if 12 < l.length then 2 else plE kOk cOk l l.length
theorem plE_stay {l : List Pl} {k : Nat} (h : plE kOk cOk l k ≠ 0) : ∀ j, plE kOk cOk l (k + j) = plE kOk cOk l k
 | 0 => rfl
 | j + 1 => by rw [← Nat.add_assoc, plE, plE_stay h j, if_neg h]
theorem plE_fin {l : List Pl} {k n : Nat} (hk : k ≤ n) (h : plE kOk cOk l k ≠ 0) : plE kOk cOk l n = plE kOk cOk l k := by
 have := plE_stay kOk cOk h (n - k)
 rwa [show k + (n - k) = n by omega] at this
theorem plE_pre {l : List Pl} {k n : Nat} (hk : k ≤ n) (h : plE kOk cOk l n = 0) : plE kOk cOk l k = 0 := by
 by_cases h0 : plE kOk cOk l k = 0
 ·exact h0
 ·rw [← plE_fin kOk cOk hk h0]; exact h
theorem plE_one {l : List Pl} {k : Nat} {p : Pl} (h : plE kOk cOk l (k + 1) = 0) (hp : l[k]? = some p) : oneE kOk cOk p = 0 ∧ ((l.take k).any fun q => decide (q.key = p.key)) = false := by
 have h0 := plE_pre kOk cOk (Nat.le_succ k) h
 rw [plE, if_pos h0, hp] at h
 simp only at h
 split at h
 ·rename_i h1
  split at h
  ·omega
  ·rename_i h2; exact ⟨h1, by simpa using h2⟩
 ·rename_i h1; exact absurd h h1
theorem plE_step {l : List Pl} {k : Nat} {p : Pl} (h : plE kOk cOk l k = 0) (hp : l[k]? = some p) : plE kOk cOk l (k + 1) = if oneE kOk cOk p = 0 then (if ((l.take k).any fun q => decide (q.key = p.key)) = true then 5 else 0) else oneE kOk cOk p := by
 rw [plE, if_pos h, hp]
theorem chk_one {l : List Pl} (h : plChk kOk cOk l = 0) : l.length ≤ 12 ∧ ∀ p ∈ l, oneE kOk cOk p = 0 := by
 unfold plChk at h
 split at h
 ·omega
 ·refine ⟨by omega, fun p hp => ?_⟩
  obtain ⟨k, hk, rfl⟩ := List.mem_iff_getElem.1 hp
  exact (plE_one kOk cOk (plE_pre kOk cOk (show k + 1 ≤ l.length by omega) h) (List.getElem?_eq_getElem hk)).1
structure PlOk (p : Pl) : Prop where
 key : kOk p.key = true ∧ p.key.size ≤ 9 ∧ dash p.key = false
 kind : 0 ≤ p.kind ∧ p.kind ≤ 1
 at_ : 0 ≤ p.at_ ∧ p.at_ ≤ 292193
 amt : 0 ≤ p.amt ∧ p.amt ≤ 1000000000000
 num : 1 ≤ p.num ∧ p.num ≤ 40
 code : cOk p.deb = true ∧ cOk p.cre = true ∧ p.deb ≠ p.cre
 add : 0 ≤ Cal.add p.at_ (p.num - 1)
theorem one_ok {p : Pl} (h : oneE kOk cOk p = 0) : PlOk kOk cOk p := by
 unfold oneE at h
 split at h
 ·omega
 ·rename_i h1
  split at h
  ·omega
  ·rename_i h2
   split at h
   ·omega
   ·rename_i h3
    split at h
    ·omega
    ·rename_i h4
     simp only [badKey, badNum, badCode, not_or, Classical.not_not] at h1 h2 h3
     exact ⟨⟨by simpa using h1.1, by omega, by simpa using h1.2.2⟩, h2.1, h2.2.1, h2.2.2.1, h2.2.2.2, ⟨by simpa using h3.1, by simpa using h3.2.1, h3.2.2⟩, by omega⟩
/-! ### the days of the parts -/
theorem add_month {n : Int} {k m : Int} (h0 : 0 ≤ n ∧ n ≤ 292193) (hm : 0 ≤ Cal.add n m) (hk : 0 ≤ k) (hkm : k ≤ m) : (0 ≤ Cal.mon n + k ∧ Cal.mon n + k < 9600) ∧ Cal.add n k = Cal.ofMon (Cal.mon n + k) (Cal.dD n) := by
 have hb := Cal.mon_bd n h0.1 h0.2
 have h1 : 0 ≤ Cal.mon n + m ∧ Cal.mon n + m < 9600 := by
  unfold Cal.add at hm
  split at hm
  ·assumption
  ·omega
 have h2 : 0 ≤ Cal.mon n + k ∧ Cal.mon n + k < 9600 := by omega
 exact ⟨h2, by unfold Cal.add; rw [if_pos h2]⟩
theorem add_lt {n : Int} {j k m : Int} (h0 : 0 ≤ n ∧ n ≤ 292193) (hm : 0 ≤ Cal.add n m) (hj : 0 ≤ j) (hjk : j < k) (hkm : k ≤ m) : Cal.add n j < Cal.add n k := by
 obtain ⟨⟨_, _, _, _, d1, d2⟩, _⟩ := Cal.date_ok n h0.1 h0.2
 rw [(add_month h0 hm hj (by omega)).2, (add_month h0 hm (by omega) hkm).2]
 exact Cal.ofMon_lt _ _ _ d1 (by omega)
/-! ### what is due -/
def partF (p : Pl) (k : Int) : Int := if p.kind = 1 then lnD p.amt p.num k else lnS p.amt p.num k
def partL (p : Pl) : List Int := steps (partF p) p.num.toNat
def dig2 (k : Nat) : ByteArray := ⟨#[(48 + k / 10).toUInt8, (48 + k % 10).toUInt8]⟩
def keyP (p : Pl) (k : Nat) : ByteArray := p.key ++ ⟨#[45]⟩ ++ dig2 k
abbrev En := ByteArray × Int × List (ByteArray × Int)
def enP (p : Pl) (k : Nat) (n : Int) : En := (keyP p k, Cal.add p.at_ k, [(p.deb, n), (p.cre, -n)])
def dueFrom (day : Int) (p : Pl) : Nat → List Int → List En
 | _, [] => []
 | k, n :: L => (if Cal.add p.at_ k ≤ day ∧ n ≠ 0 then [enP p k n] else []) ++ dueFrom day p (k + 1) L
def dueP (day : Int) (p : Pl) : List En := dueFrom day p 0 (partL p)
def dueL (day : Int) (l : List Pl) : List En := l.flatMap (dueP day)
theorem dueFrom_len (day : Int) (p : Pl) : ∀ (k : Nat) (L : List Int), (dueFrom day p k L).length ≤ L.length
 | _, [] => by simp [dueFrom]
 | k, n :: L => by
  have := dueFrom_len day p (k + 1) L
  rw [dueFrom, List.length_append, List.length_cons]
  split <;> simp <;> omega
theorem dueFrom_none {day : Int} {p : Pl} : ∀ (k : Nat) (L : List Int), (∀ j : Nat, k ≤ j → j < k + L.length → day < Cal.add p.at_ j) → dueFrom day p k L = []
 | _, [], _ => rfl
 | k, n :: L, h => by
  have h0 := h k (Nat.le_refl _) (by simp)
  rw [dueFrom, if_neg (by omega), dueFrom_none (k + 1) L fun j h1 h2 => h j (by omega) (by simp; omega)]
  rfl
theorem dueFrom_drop {day : Int} {p : Pl} {L : List Int} {k : Nat} {n : Int} (h : L[k]? = some n) : dueFrom day p k (L.drop k) = (if Cal.add p.at_ k ≤ day ∧ n ≠ 0 then [enP p k n] else []) ++ dueFrom day p (k + 1) (L.drop (k + 1)) := by
 obtain ⟨hk, rfl⟩ := List.getElem?_eq_some_iff.1 h
 rw [List.drop_eq_getElem_cons hk, dueFrom]
end Go.Job
