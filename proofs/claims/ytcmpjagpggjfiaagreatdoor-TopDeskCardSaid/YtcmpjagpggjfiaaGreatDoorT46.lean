/-
  Steps of the proof of TopDesk: DkM DkC.
-/
import Derived.Test.YtcmpjagpggjfiaaGreatDoorT42
import Derived.Test.YtcmpjagpggjfiaaGreatDoorT44
import Derived.Test.YtcmpjagpggjfiaaGreatDoorT40
import Derived.Test.YtcmpjagpggjfiaaGreatDoorT39
import Derived.Test.YtcmpjagpggjfiaaGreatDoorT45
set_option linter.unusedVariables false
section
namespace Go.Dk
open Go
def ordB (s : List Ac) (x : Ac) : Bool := ((List.range s.length).all fun i => match s[i]?, s[i + 1]? with
 | some y, some z => !decide (cmA z y < 0)
 | _, _ => true) && (List.range s.length).all fun i => (List.range s.length).all fun j => match s[i]?, s[j]? with
 | some y, some z => decide (i ≤ j → cmA x y < 0 → cmA x z < 0)
 | _, _ => true
theorem ordA_of {s : List Ac} {x : Ac} (h : ordB s x = true) : OrdA s x := by
 unfold ordB at h
 rw [Bool.and_eq_true, List.all_eq_true, List.all_eq_true] at h
 refine ⟨fun i y z h1 h2 => ?_, fun i j y z h1 h2 hij => ?_⟩
 ·have := h.1 i (List.mem_range.2 (List.getElem?_eq_some_iff.1 h1).1)
  rw [h1, h2] at this
  simpa using this
 ·have := h.2 i (List.mem_range.2 (List.getElem?_eq_some_iff.1 h1).1)
  rw [List.all_eq_true] at this
  have := this j (List.mem_range.2 (List.getElem?_eq_some_iff.1 h2).1)
  rw [h1, h2] at this
  exact of_decide_eq_true this hij
end Go.Dk
namespace Go.Proofs.YtcmpjagpggjfiaaGreatDoor
open Go Go.Ev Go.RowKit Go.Acc Go.Dk Go.Lg
theorem opq_dk (A : List Ac) (E : List En) (s : Int) (p : V) (hp : PlOk p) : opq (.agg [.row 2 (A.map acV), .row 3 (E.map enW), .int .i64 s, p]) := by
 rcases hp with rfl | ⟨L, rfl⟩
 all_goals exact ⟨fun ms => by simp only [V.mv, V.mvL], fun ms => by simp only [V.bk, V.bkL]⟩
theorem opq_dk0 (E : List En) (s : Int) : opq (.agg [.zero, .row 3 (E.map enW), .int .i64 s, .zero]) := ⟨fun ms => by simp only [V.mv, V.mvL], fun ms => by simp only [V.bk, V.bkL]⟩
theorem opq_str (s : ByteArray) : opq (.str s) := ⟨fun ms => by simp only [V.mv], fun ms => by simp only [V.bk]⟩
theorem opq_int (n : Int) : opq (.int .i64 n) := ⟨fun ms => by simp only [V.mv], fun ms => by simp only [V.bk]⟩
theorem opq_en (x : En) : opq (enW x) := by
 obtain ⟨k, d, l⟩ := x
 rw [enW_mk]
 exact ⟨fun ms => by simp only [V.mv, V.mvL], fun ms => by simp only [V.bk, V.bkL]⟩
theorem opq_pl (x : Job.Pl) : opq (Job.plV x) := by
 unfold Job.plV
 exact ⟨fun ms => by simp only [V.mv, V.mvL], fun ms => by simp only [V.bk, V.bkL]⟩
abbrev AnsAt (D : Ev.Blk) (ws : List ByteArray) (out : ByteArray) (D' : Ev.Blk) : Prop := MutAt Tryz.prog DkJ 10 [D] [.ptr 1000000 0, .row 1 (ws.map V.str)] (.str out) [D']
theorem ans_acct0 (E : List En) (s : Int) (c : ByteArray) (k : Int) (hn : numOk k) (h : acChk [(c, k)] = 0) : AnsAt (.box (.agg [.zero, .row 3 (E.map enW), .int .i64 s, .zero])) [wAcct, c, itoaB k] okT (dkB [(c, k)] E s .zero) :=
 answer_2 (opq_dk0 E s) (opq_dk _ E s _ (.inl rfl)) (opq_str c) (opq_int k) (cmd := wAcct) (f := 77) rfl (by kernel_rfl) (by simp) rfl rfl rfl
  (read_acct (opq_dk0 E s) [wAcct, c, itoaB k] (by simp) c k rfl rfl hn) (acct0_mut stableDk E s c k h)
theorem ans_acct (A : List Ac) (E : List En) (s : Int) (c : ByteArray) (k : Int) (hn : numOk k) (hA : 0 < A.length) (hA2 : A.length ≤ 18) (ho : OrdA A (c, k)) (h : acChk (insA A (c, k)) = 0) : AnsAt (dkB A E s .zero) [wAcct, c, itoaB k] okT (dkB (insA A (c, k)) E s .zero) :=
 answer_2 (opq_dk A E s _ (.inl rfl)) (opq_dk _ E s _ (.inl rfl)) (opq_str c) (opq_int k) (cmd := wAcct) (f := 77) rfl (by kernel_rfl) (by simp) rfl rfl rfl
  (read_acct (opq_dk A E s _ (.inl rfl)) [wAcct, c, itoaB k] (by simp) c k rfl rfl hn) (acct_mut stableDk A E s c k hA hA2 ho h)
theorem postW {x : En} (i : Nat) (p : ByteArray × Int) (h : x.2.2[i]? = some p) : (wPost :: x.1 :: itoaB x.2.1 :: x.2.2.map pcB)[3 + i]? = some (pcB p) := by
 rw [show 3 + i = i + 1 + 1 + 1 by omega, List.getElem?_cons_succ, List.getElem?_cons_succ, List.getElem?_cons_succ, List.getElem?_map, h]
 rfl
theorem ans_post (A : List Ac) (E : List En) (s : Int) (p : V) (hp : PlOk p) (x : En) (hE : E.length ≤ maxLen) (hn : numOk x.2.1) (hb : ∀ p ∈ x.2.2, (58 : UInt8) ∉ p.1.data.toList ∧ p.1.size ≤ 100 ∧ -9999999999999 ≤ p.2 ∧ p.2 ≤ 9999999999999) (h10 : x.2.2.length ≤ 10) (h0 : postE A E s x = 0) :
  AnsAt (dkB A E s p) (wPost :: x.1 :: itoaB x.2.1 :: x.2.2.map pcB) okT (dkB A (postB E x) s p) := by
 have hl : (wPost :: x.1 :: itoaB x.2.1 :: x.2.2.map pcB).length = 3 + x.2.2.length := by simp; omega
 refine answer_1 (opq_dk A E s p hp) (opq_dk A _ s p hp) (opq_en x) (cmd := wPost) (f := 80) rfl (by kernel_rfl) (by omega) rfl rfl rfl ?_ (post_mut stableDk A E s p hp x hE h0)
 have := read_post (opq_dk A E s p hp) (wPost :: x.1 :: itoaB x.2.1 :: x.2.2.map pcB) (by omega) x.1 x.2.1 x.2.2 rfl rfl hn postW hl hb h10
 exact this
theorem ans_late (A : List Ac) (E : List En) (s : Int) (L : List Job.Pl) (x : En) (hE : E.length ≤ maxLen) (hn : numOk x.2.1) (hb : ∀ p ∈ x.2.2, (58 : UInt8) ∉ p.1.data.toList ∧ p.1.size ≤ 100 ∧ -9999999999999 ≤ p.2 ∧ p.2 ≤ 9999999999999) (h10 : x.2.2.length ≤ 10) (h0 : postE A E s x ≠ 0) (h1 : 0 ≤ postE A E s x ∧ postE A E s x ≤ 100) :
  AnsAt (dkB A E s (.row 7 (L.map Job.plV))) (wPost :: x.1 :: itoaB x.2.1 :: x.2.2.map pcB) (⟨#[101, 114, 114, 111, 114, 32]⟩ ++ itoaB (postE A E s x)) (dkB A E s (.row 7 (L.map Job.plV))) := by
 have hl : (wPost :: x.1 :: itoaB x.2.1 :: x.2.2.map pcB).length = 3 + x.2.2.length := by simp; omega
 have hp : PlOk (.row 7 (L.map Job.plV)) := .inr ⟨L, rfl⟩
 refine answer_pan (opq_dk A E s _ hp) (opq_en x) (cmd := wPost) (f := 80) h1 rfl (by kernel_rfl) (by omega) rfl rfl rfl ?_ (post_pan A E s L x hE h0)
 have := read_post (opq_dk A E s _ hp) (wPost :: x.1 :: itoaB x.2.1 :: x.2.2.map pcB) (by omega) x.1 x.2.1 x.2.2 rfl rfl hn postW hl hb h10
 exact this
theorem ans_plan (A : List Ac) (E : List En) (s : Int) (x : Job.Pl) (hn : ∀ n ∈ [x.kind, x.at_, x.amt, x.num], -9999999999999 ≤ n ∧ n ≤ 9999999999999) (h0 : Job.plChk keyOk' codeOk [x] = 0) :
  AnsAt (dkB A E s .zero) [wPlan, x.key, itoaB x.kind, itoaB x.at_, itoaB x.amt, itoaB x.num, x.deb, x.cre] okT (dkB A E s (.row 7 ([x].map Job.plV))) :=
 answer_1 (opq_dk A E s _ (.inl rfl)) (opq_dk A E s _ (.inr ⟨[x], rfl⟩)) (opq_pl x) (cmd := wPlan) (f := 88) rfl (by kernel_rfl) (by simp) rfl rfl rfl
  (read_plan (opq_dk A E s _ (.inl rfl)) [wPlan, x.key, itoaB x.kind, itoaB x.at_, itoaB x.amt, itoaB x.num, x.deb, x.cre] (by simp) x.key x.deb x.cre x.kind x.at_ x.amt x.num rfl (fun i n h => by
   match i, h with
   | 0, h => cases h; rfl
   | 1, h => cases h; rfl
   | 2, h => cases h; rfl
   | 3, h => cases h; rfl
   | i + 4, h => simp at h) hn rfl rfl) (plan_mut A E s x h0)
section
variable (A : List Ac) (E : List En) (s : Int) (L : List Job.Pl) (hE : E.length ≤ maxLen)
include hE
theorem ans_run (n : Int) (hn : numOk n) (h0 : jrE A E s L n = 0) : AnsAt (dkB A E s (.row 7 (L.map Job.plV))) [wRun, itoaB n] okT (dkB A (runB A s E (Job.dueL n L)).2 s (.row 7 (L.map Job.plV))) :=
 answer_1 (opq_dk A E s _ (.inr ⟨L, rfl⟩)) (opq_dk A _ s _ (.inr ⟨L, rfl⟩)) (opq_int n) (cmd := wRun) (f := 91) rfl (by kernel_rfl) (by simp) rfl rfl rfl
  (read_run (opq_dk A E s _ (.inr ⟨L, rfl⟩)) [wRun, itoaB n] (by simp) n rfl hn) (run_mut A E s L n hE h0)
theorem ans_profit (m n : Int) (hm : numOk m) (hn : numOk n) (h0 : profE A E s m n = 0) (hb : -9223372036854775808 ≤ profN A E s m n ∧ profN A E s m n ≤ 9223372036854775807) :
  AnsAt (dkB A E s (.row 7 (L.map Job.plV))) [wProfit, itoaB m, itoaB n] (toldB [profN A E s m n]) (dkB A E s (.row 7 (L.map Job.plV))) :=
 answer_2 (opq_dk A E s _ (.inr ⟨L, rfl⟩)) (opq_dk A E s _ (.inr ⟨L, rfl⟩)) (opq_int m) (opq_int n) (cmd := wProfit) (f := 144) rfl (by kernel_rfl) (by simp) rfl rfl rfl
  (read_profit (opq_dk A E s _ (.inr ⟨L, rfl⟩)) [wProfit, itoaB m, itoaB n] (by simp) m n rfl hm rfl hn) (profit_mut A E s L m n hE h0 hb)
theorem ans_balance (c : ByteArray) (n : Int) (hn : numOk n) (h0 : balE A E s c n = 0) (hb : -9223372036854775808 ≤ balN A E s c n ∧ balN A E s c n ≤ 9223372036854775807) :
  AnsAt (dkB A E s (.row 7 (L.map Job.plV))) [wBalance, c, itoaB n] (toldB [balN A E s c n]) (dkB A E s (.row 7 (L.map Job.plV))) :=
 answer_2 (opq_dk A E s _ (.inr ⟨L, rfl⟩)) (opq_dk A E s _ (.inr ⟨L, rfl⟩)) (opq_str c) (opq_int n) (cmd := wBalance) (f := 143) rfl (by kernel_rfl) (by simp) rfl rfl rfl
  (read_balance (opq_dk A E s _ (.inr ⟨L, rfl⟩)) [wBalance, c, itoaB n] (by simp) c n rfl rfl hn) (balance_mut A E s L c n hE h0 hb)
theorem ans_trial (n : Int) (hn : numOk n) (h0 : tlookE A E s n = 0) (hb : ∀ x ∈ [trD E n A, trC E n A], -9223372036854775808 ≤ x ∧ x ≤ 9223372036854775807) :
  AnsAt (dkB A E s (.row 7 (L.map Job.plV))) [wTrial, itoaB n] (toldB [trD E n A, trC E n A]) (dkB A E s (.row 7 (L.map Job.plV))) :=
 answer_1 (opq_dk A E s _ (.inr ⟨L, rfl⟩)) (opq_dk A E s _ (.inr ⟨L, rfl⟩)) (opq_int n) (cmd := wTrial) (f := 146) rfl (by kernel_rfl) (by simp) rfl rfl rfl
  (read_trial (opq_dk A E s _ (.inr ⟨L, rfl⟩)) [wTrial, itoaB n] (by simp) n rfl hn) (trial_mut A E s L n hE h0 hb)
theorem ans_close (key : ByteArray) (n : Int) (code : ByteArray) (hn : numOk n) (h0 : clE A E s key n code = 0) :
  AnsAt (dkB A E s (.row 7 (L.map Job.plV))) [wClose, key, itoaB n, code] okT (dkB A (postB E (clsX key E n code A)) n (.row 7 (L.map Job.plV))) :=
 answer_3 (opq_dk A E s _ (.inr ⟨L, rfl⟩)) (opq_dk A _ n _ (.inr ⟨L, rfl⟩)) (opq_str key) (opq_int n) (opq_str code) (cmd := wClose) (f := 84) rfl (by kernel_rfl) (by simp) rfl rfl rfl
  (read_close (opq_dk A E s _ (.inr ⟨L, rfl⟩)) [wClose, key, itoaB n, code] (by simp) key code n rfl rfl hn rfl) (close_mut stableDk A E s L key n code hE h0)
theorem ans_undo (key by_ : ByteArray) (n : Int) (y : En) (hn : numOk n) (hz : bkChk A E s = 0) (hg : getE key E = some y) (hk : keyOk' by_ = true) (hd : 0 ≤ n ∧ n ≤ 292193) (h0 : postE A E s (by_, n, turnL y.2.2) = 0) :
  AnsAt (dkB A E s (.row 7 (L.map Job.plV))) [wUndo, key, by_, itoaB n] okT (dkB A (postB E (by_, n, turnL y.2.2)) s (.row 7 (L.map Job.plV))) :=
 answer_3 (opq_dk A E s _ (.inr ⟨L, rfl⟩)) (opq_dk A _ s _ (.inr ⟨L, rfl⟩)) (opq_str key) (opq_str by_) (opq_int n) (cmd := wUndo) (f := 86) rfl (by kernel_rfl) (by simp) rfl rfl rfl
  (read_undo (opq_dk A E s _ (.inr ⟨L, rfl⟩)) [wUndo, key, by_, itoaB n] (by simp) key by_ n rfl rfl rfl hn) (undo_mut stableDk A E s L key by_ n y hE hz hg hk hd h0)
end
end Go.Proofs.YtcmpjagpggjfiaaGreatDoor
end
section
namespace Go.Proofs.YtcmpjagpggjfiaaGreatDoor
open Go Go.Ev Go.RowKit Go.Acc Go.Dk Go.Lg
def yrP (a n : Int) : V := .row 7 ([rentP a n].map Job.plV)
def dkV (A : List Ac) (E : List En) (s : Int) (p : V) : V := .agg [.row 2 (A.map acV), .row 3 (E.map enW), .int .i64 s, p]
noncomputable def yrD (a n : Int) : Nat → V
 | 0 => .agg [.zero, .row 3 [], .int .i64 (-1), .zero]
 | 1 => dkV [(Dk.c40, 3)] [] (-1) .zero
 | 2 => dkV [(Dk.c10, 0), (Dk.c40, 3)] [] (-1) .zero
 | 3 => dkV [(Dk.c10, 0), (Dk.c30, 2), (Dk.c40, 3)] [] (-1) .zero
 | 4 => dkV A4 [] (-1) .zero
 | 5 => dkV A4 [saleX a] (-1) .zero
 | 6 => dkV A4 [saleX a] (-1) .zero
 | 7 => dkV A4 [saleX a] (-1) (yrP a n)
 | 8 => dkV A4 (E2 a n) (-1) (yrP a n)
 | 9 => dkV A4 (E2 a n) (-1) (yrP a n)
 | 10 => dkV A4 (E2 a n) (-1) (yrP a n)
 | 11 => dkV A4 (E4 a n) 400 (yrP a n)
 | 12 => dkV A4 (E4 a n) 400 (yrP a n)
 | 13 => dkV A4 (E4 a n) 400 (yrP a n)
 | 14 => dkV A4 (E4 a n) 400 (yrP a n)
 | _ => dkV A4 (E5 a n) 400 (yrP a n)
theorem dat_dk (A : List Ac) (E : List En) (s : Int) (p : V) (hp : PlOk p) : DatV (dkV A E s p) := by
 have ho := opq_dk A E s p hp
 rcases hp with rfl | ⟨L, rfl⟩
 all_goals exact ⟨ho, fun bs => by simp [dkV, V.refsIn, V.refsInL], fun b r => by simp [dkV, V.scrub, V.scrubL], _, rfl, fun bs => by simp [V.refsIn, V.refsInL], fun b r => by simp [V.scrub, V.scrubL]⟩
theorem dat_0 : DatV (.agg [.zero, .row 3 [], .int .i64 (-1), .zero]) :=
 ⟨opq_dk0 [] (-1), fun bs => by simp [V.refsIn, V.refsInL], fun b r => by simp [V.scrub, V.scrubL], _, rfl, fun bs => by simp [V.refsIn, V.refsInL], fun b r => by simp [V.scrub, V.scrubL]⟩
theorem yrD_dat (a n : Int) (k : Nat) : DatV (yrD a n k) := by
 unfold yrD
 split
 ·exact dat_0
 all_goals first | exact dat_dk _ _ _ _ (.inl rfl) | exact dat_dk _ _ _ _ (.inr ⟨_, rfl⟩)
section
variable {a n : Int} (h0 : 1 ≤ a) (h1 : a ≤ 100000) (hn : 1 ≤ n) (hn2 : n ≤ 12)
include h0 h1 hn hn2
theorem yr_ans (k : Nat) (x : List ByteArray × ByteArray) (hx : (yrW a n)[k]? = some x) : AnsAt (.box (yrD a n k)) x.1 x.2 (.box (yrD a n (k + 1))) := by
 obtain ⟨f1, f2, f3, f4, f5, f6, f7, f8⟩ := e2_facts h0 h1 hn hn2
 obtain ⟨g1, g2, g3, g4⟩ := e4_facts h0 h1 hn hn2
 have m2 : (E2 a n).length ≤ maxLen := by unfold maxLen; omega
 have m4 : (E4 a n).length ≤ maxLen := by unfold maxLen; omega
 have hsl : ∀ p ∈ (saleX a).2.2, (58 : UInt8) ∉ p.1.data.toList ∧ p.1.size ≤ 100 ∧ -9999999999999 ≤ p.2 ∧ p.2 ≤ 9999999999999 := by
  intro p hp
  unfold saleX at hp
  simp only [List.mem_cons, List.mem_nil_iff, or_false] at hp
  rcases hp with rfl | rfl
  ·exact ⟨(by decide : (58 : UInt8) ∉ Dk.c10.data.toList), (by decide : Dk.c10.size ≤ 100), by simp only; omega, by simp only; omega⟩
  ·exact ⟨(by decide : (58 : UInt8) ∉ Dk.c40.data.toList), (by decide : Dk.c40.size ≤ 100), by simp only; omega, by simp only; omega⟩
 match k, hx with
 | 0, hx => cases hx; exact ans_acct0 [] (-1) Dk.c40 3 (by unfold numOk; omega) (by decide +kernel)
 | 1, hx => cases hx; exact ans_acct [(Dk.c40, 3)] [] (-1) Dk.c10 0 (by unfold numOk; omega) (by decide) (by decide) (ordA_of (by decide +kernel)) (by decide +kernel)
 | 2, hx => cases hx; exact ans_acct [(Dk.c10, 0), (Dk.c40, 3)] [] (-1) Dk.c30 2 (by unfold numOk; omega) (by decide) (by decide) (ordA_of (by decide +kernel)) (by decide +kernel)
 | 3, hx => cases hx; exact ans_acct [(Dk.c10, 0), (Dk.c30, 2), (Dk.c40, 3)] [] (-1) Dk.c50 4 (by unfold numOk; omega) (by decide) (by decide) (ordA_of (by decide +kernel)) (by decide +kernel)
 | 4, hx =>
  cases hx
  have := ans_post A4 [] (-1) .zero (.inl rfl) (saleX a) (by simp [maxLen]) (by unfold numOk saleX; simp only; omega) hsl (by simp [saleX]) (sale1 h0 h1).1
  rw [(sale1 h0 h1).2] at this
  exact this
 | 5, hx =>
  cases hx
  have := ans_post A4 [saleX a] (-1) .zero (.inl rfl) (saleX a) (by simp [maxLen]) (by unfold numOk saleX; simp only; omega) hsl (by simp [saleX]) (sale2 h0 h1).1
  rw [(sale2 h0 h1).2] at this
  exact this
 | 6, hx =>
  cases hx
  exact ans_plan A4 [saleX a] (-1) (rentP a n) (by
   intro m hm
   unfold rentP at hm
   simp only [List.mem_cons, List.mem_nil_iff, or_false] at hm
   omega) (rent_chk h0 h1 hn hn2)
 | 7, hx => cases hx; exact ans_run A4 [saleX a] (-1) [rentP a n] (by simp [maxLen]) 400 (by unfold numOk; omega) (run1 h0 h1 hn hn2)
 | 8, hx =>
  cases hx
  have := ans_run A4 (E2 a n) (-1) [rentP a n] m2 400 (by unfold numOk; omega) (run2 h0 h1 hn hn2).1
  rw [(run2 h0 h1 hn hn2).2] at this
  exact this
 | 9, hx =>
  cases hx
  obtain ⟨p1, p2⟩ := prof1 h0 h1 hn hn2
  have := ans_profit A4 (E2 a n) (-1) [rentP a n] m2 0 400 (by unfold numOk; omega) (by unfold numOk; omega) p1 (by omega)
  rw [p2] at this
  exact this
 | 10, hx =>
  cases hx
  obtain ⟨p1, p2⟩ := close1 h0 h1 hn hn2
  have := ans_close A4 (E2 a n) (-1) [rentP a n] m2 kEnd 400 Dk.c30 (by unfold numOk; omega) p1
  rw [p2] at this
  exact this
 | 11, hx =>
  cases hx
  obtain ⟨p1, p2, p3⟩ := trial1 h0 h1 hn hn2
  have := ans_trial A4 (E4 a n) 400 [rentP a n] m4 400 (by unfold numOk; omega) p1 (by rw [p2, p3]; intro y hy; simp at hy; omega)
  rw [p2, p3] at this
  exact this
 | 12, hx =>
  cases hx
  have p1 := late1 h0 h1 hn hn2
  have := ans_late A4 (E4 a n) 400 [rentP a n] lateX m4 (by unfold numOk lateX; simp only; omega) (by
   intro p hp
   unfold lateX at hp
   simp only [List.mem_cons, List.mem_nil_iff, or_false] at hp
   rcases hp with rfl | rfl
   ·exact ⟨by decide, by decide, by decide, by decide⟩
   ·exact ⟨by decide, by decide, by decide, by decide⟩) (by simp [lateX]) (by rw [p1]; decide) (by rw [p1]; decide)
  rw [p1] at this
  exact this
 | 13, hx =>
  cases hx
  obtain ⟨p1, p2⟩ := bal1 h0 h1 hn hn2
  have := ans_balance A4 (E4 a n) 400 [rentP a n] m4 Dk.c30 400 (by unfold numOk; omega) p1 (by omega)
  rw [p2] at this
  exact this
 | 14, hx =>
  cases hx
  obtain ⟨p1, p2, p3, p4⟩ := undo1 h0 h1 hn hn2
  have := ans_undo A4 (E4 a n) 400 [rentP a n] m4 kSale kBack 401 (saleX a) (by unfold numOk; omega) g3 p1 (by decide) (by omega) p2
  rw [show postB (E4 a n) (kBack, 401, turnL (saleX a).2.2) = E5 a n from p3] at this
  exact this
 | 15, hx =>
  cases hx
  obtain ⟨p1, p2⟩ := prof2 h0 h1 hn hn2
  have m5 : (E5 a n).length ≤ maxLen := by unfold E5; rw [insE_len]; unfold maxLen; omega
  have := ans_profit A4 (E5 a n) 400 [rentP a n] m5 401 401 (by unfold numOk; omega) (by unfold numOk; omega) p1 (by omega)
  rw [p2] at this
  exact this
 | k + 16, hx => simp [yrW] at hx
end
end Go.Proofs.YtcmpjagpggjfiaaGreatDoor
end
