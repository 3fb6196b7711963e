/-
  A year at the desk in plain words: what each line finds and leaves.
-/
import Derived.Test.YtcmpjagpggjfiaaGreatDoorT43
import Derived.Test.YtcmpjagpggjfiaaGreatDoorT38
import Derived.Test.YtcmpjagpggjfiaaGreatDoorT23
import Derived.Test.YtcmpjagpggjfiaaGreatDoorT37
import Derived.Test.YtcmpjagpggjfiaaGreatDoorT18
set_option linter.unusedVariables false
namespace Go.Dk
open Go Go.Ev Go.Acc
open Go.Proofs.YtcmpjagpggjfiaaGreatDoor
theorem ofX_in {c : ByteArray} {f t : Int} {x : En} (h : f ≤ x.2.1 ∧ x.2.1 ≤ t) : ofX c f t x = ofL c x.2.2 := if_pos h
theorem ofX_out {c : ByteArray} {f t : Int} {x : En} (h : ¬ (f ≤ x.2.1 ∧ x.2.1 ≤ t)) : ofX c f t x = 0 := if_neg h
theorem ofB_one (c : ByteArray) (f t : Int) (x : En) : ofB c f t [x] = ofX c f t x := by simp [ofB]
section
variable {a n : Int} (h0 : 1 ≤ a) (h1 : a ≤ 100000) (hn : 1 ≤ n) (hn2 : n ≤ 12)
include h0 h1 in
theorem sale1 : postE A4 [] (-1) (saleX a) = 0 ∧ postB [] (saleX a) = [saleX a] :=
 post_new book0 (sale_ok h0 h1) rfl (by show (hasA A4 c10 && (hasA A4 c40 && true)) = true; decide) (by show (-1 : Int) < 5; omega) (by show 0 < 60; omega)
include h0 h1 in
theorem book1 : bkChk A4 [saleX a] (-1) = 0 := by
 have h := sale1 h0 h1
 have := (postE_ok h.1).2.2
 rwa [h.2] at this
include h0 h1 in
theorem sale2 : postE A4 [saleX a] (-1) (saleX a) = 0 ∧ postB [saleX a] (saleX a) = [saleX a] := post_old (book1 h0 h1) (by simp)
noncomputable def rentL (a n : Int) : List En := Job.dueL 400 [rentP a n]
noncomputable def E2 (a n : Int) : List En := (runB A4 (-1) [saleX a] (rentL a n)).2
include h0 h1 hn hn2 in
theorem e2_facts : (runB A4 (-1) [saleX a] (rentL a n)).1 = 0 ∧ bkChk A4 (E2 a n) (-1) = 0 ∧ (E2 a n).length ≤ 13 ∧
  (∀ c, ofB c 0 400 (E2 a n) = ((if c50 = c then a else 0) + if c10 = c then -a else 0) + ((if c10 = c then a else 0) + if c40 = c then -a else 0)) ∧ (∀ c f t, 400 < f → ofB c f t (E2 a n) = 0) ∧
  (∀ y ∈ E2 a n, y.1 ≠ kEnd ∧ y.1 ≠ kBack ∧ y.1 ≠ kLate) ∧ saleX a ∈ E2 a n ∧ ∀ x ∈ rentL a n, x ∈ E2 a n := by
 obtain ⟨p1, p2, p3⟩ := rent_parts (a := a) (by omega) hn hn2
 obtain ⟨d1, d2, d3, d4⟩ := due_facts (a := a) (n := n) (by omega) h1 (Job.partL (rentP a n)) 0 (by rw [p1]; omega) p2
 have hr : rentL a n = Job.dueFrom 400 (rentP a n) 0 (Job.partL (rentP a n)) := by
  unfold rentL Job.dueL Job.dueP
  simp
 have hlen : (rentL a n).length ≤ 12 := by
  rw [hr]
  have := Job.dueFrom_len 400 (rentP a n) 0 (Job.partL (rentP a n))
  rw [p1] at this
  omega
 rw [← hr] at d1 d2 d3 d4
 rw [p3] at d3
 obtain ⟨q1, q2, q3, q4, q5⟩ := runB_new (A := A4) (s := -1) (r := rentL a n) (E := [saleX a]) (book1 h0 h1) (fun x hx => by
   obtain ⟨g1, g2, g3, _⟩ := d1 x hx
   exact ⟨g1, g2, by omega⟩) d2 (fun x hx y hy => by
   obtain ⟨_, _, _, j, m, _, b2, _, b4⟩ := d1 x hx
   rw [List.mem_singleton] at hy
   rw [hy, b4]
   exact (rent_key j b2).2.1.symm) (by rw [List.length_singleton]; omega)
 refine ⟨q1, q2, ?_, fun c => ?_, fun c f t hf => ?_, fun y hy => ?_, ?_, fun x hx => ?_⟩
 ·unfold E2; rw [q3, List.length_singleton]; omega
 ·unfold E2
  rw [q4, d3 c 0 400 (by omega) (by omega), ofB_one, ofX_in (by show (0 : Int) ≤ 5 ∧ (5 : Int) ≤ 400; omega)]
  show _ + ofL c [(c10, a), (c40, -a)] = _
  rw [ofL_two]
 ·unfold E2
  rw [q4, d4 c f t hf, ofB_one, ofX_out (by show ¬ (f ≤ (5 : Int) ∧ (5 : Int) ≤ t); omega)]
  rfl
 ·rcases (q5 y).1 hy with h | h
  ·obtain ⟨_, _, _, j, m, _, b2, _, b4⟩ := d1 y h
   rw [b4]
   exact (rent_key j b2).2.2
  ·rw [List.mem_singleton] at h
   rw [h]
   exact ⟨by show kSale ≠ kEnd; decide, by show kSale ≠ kBack; decide, by show kSale ≠ kLate; decide⟩
 ·exact (q5 _).2 (.inr (by simp))
 ·exact (q5 x).2 (.inl hx)
include h0 h1 hn hn2 in
theorem run1 : jrE A4 [saleX a] (-1) [rentP a n] 400 = 0 := by
 unfold jrE
 rw [if_neg (fun h => h (book1 h0 h1)), if_neg (fun h => h (rent_chk h0 h1 hn hn2)), if_neg (fun h => h (by omega))]
 exact (e2_facts h0 h1 hn hn2).1
include h0 h1 hn hn2 in
theorem run2 : jrE A4 (E2 a n) (-1) [rentP a n] 400 = 0 ∧ (runB A4 (-1) (E2 a n) (Job.dueL 400 [rentP a n])).2 = E2 a n := by
 obtain ⟨_, f2, _, _, _, _, _, f8⟩ := e2_facts h0 h1 hn hn2
 have hr : runB A4 (-1) (E2 a n) (Job.dueL 400 [rentP a n]) = (0, E2 a n) := runB_old f2 f8
 refine ⟨?_, by rw [hr]⟩
 unfold jrE
 rw [if_neg (fun h => h f2), if_neg (fun h => h (rent_chk h0 h1 hn hn2)), if_neg (fun h => h (by omega)), hr]
include h0 h1 hn hn2 in
theorem e2_bal : ofB c10 0 400 (E2 a n) = 0 ∧ ofB c30 0 400 (E2 a n) = 0 ∧ ofB c40 0 400 (E2 a n) = -a ∧ ofB c50 0 400 (E2 a n) = a := by
 obtain ⟨_, _, _, f4, _⟩ := e2_facts h0 h1 hn hn2
 have d1 : c50 ≠ c10 := by decide
 have d2 : c40 ≠ c10 := by decide
 have d3 : c50 ≠ c30 := by decide
 have d4 : c10 ≠ c30 := by decide
 have d5 : c40 ≠ c30 := by decide
 have d6 : c50 ≠ c40 := by decide
 have d7 : c10 ≠ c40 := by decide
 have d8 : c40 ≠ c50 := by decide
 have d9 : c10 ≠ c50 := by decide
 rw [f4, f4, f4, f4]
 simp only [if_true, d1, d2, d3, d4, d5, d6, d7, d8, d9, if_false]
 omega
theorem kd_A4 (E : List En) (f t k : Int) : kdS E f t k A4 = (if (0 : Int) = k then ofB c10 f t E else 0) + ((if (2 : Int) = k then ofB c30 f t E else 0) + ((if (3 : Int) = k then ofB c40 f t E else 0) + ((if (4 : Int) = k then ofB c50 f t E else 0) + 0))) := rfl
theorem tlook_ok {E : List En} {s d : Int} (hb : bkChk A4 E s = 0) (h : 0 ≤ d ∧ d ≤ 292193) : tlookE A4 E s d = 0 := by
 unfold tlookE
 rw [if_neg (fun h => h hb), if_pos h]
theorem prof_ok {E : List En} {s f t : Int} (hb : bkChk A4 E s = 0) (hf : 0 ≤ f ∧ f ≤ 292193) (ht : 0 ≤ t ∧ t ≤ 292193) (hft : f ≤ t) : profE A4 E s f t = 0 ∧ profN A4 E s f t = -ofB c40 f t E - ofB c50 f t E := by
 have he : profE A4 E s f t = 0 := by
  unfold profE
  rw [tlook_ok hb hf, if_neg (fun h => h rfl), if_pos ⟨ht, hft⟩]
 refine ⟨he, ?_⟩
 unfold profN
 rw [if_pos he, kd_A4, kd_A4]
 simp
include h0 h1 hn hn2 in
theorem prof1 : profE A4 (E2 a n) (-1) 0 400 = 0 ∧ profN A4 (E2 a n) (-1) 0 400 = 0 := by
 obtain ⟨_, f2, _⟩ := e2_facts h0 h1 hn hn2
 obtain ⟨_, _, b3, b4⟩ := e2_bal h0 h1 hn hn2
 obtain ⟨p1, p2⟩ := prof_ok f2 (f := 0) (t := 400) (by omega) (by omega) (by omega)
 exact ⟨p1, by rw [p2, b3, b4]; omega⟩
def endX (a : Int) : En := (kEnd, 400, [(c40, a), (c50, -a)])
include h0 h1 hn hn2 in
theorem cls_is : clsX kEnd (E2 a n) 400 c30 A4 = endX a ∧ clsL (E2 a n) 400 A4 ≠ [] := by
 obtain ⟨b1, b2, b3, b4⟩ := e2_bal h0 h1 hn hn2
 have hf : A4.filter (clsB (E2 a n) 400) = [(c40, 3), (c50, 4)] := by
  have g1 : clsB (E2 a n) 400 (c10, 0) = false := by unfold clsB; simp only [b1]; rfl
  have g2 : clsB (E2 a n) 400 (c30, 2) = false := by unfold clsB; simp only [b2]; rfl
  have g3 : clsB (E2 a n) 400 (c40, 3) = true := by unfold clsB; simp only [b3]; rw [decide_eq_true (by omega)]; rfl
  have g4 : clsB (E2 a n) 400 (c50, 4) = true := by unfold clsB; simp only [b4]; rw [decide_eq_true (by omega)]; rfl
  unfold A4
  rw [List.filter_cons, List.filter_cons, List.filter_cons, List.filter_cons, g1, g2, g3, g4]
  rfl
 have hL : clsL (E2 a n) 400 A4 = [(c40, a), (c50, -a)] := by
  unfold clsL
  rw [hf]
  simp only [List.map_cons, List.map_nil, b3, b4, Int.neg_neg]
 have hS : clsS (E2 a n) 400 A4 = 0 := by
  unfold clsS
  rw [hf]
  simp only [List.map_cons, List.map_nil, b3, b4, List.sum_cons, List.sum_nil]
  omega
 refine ⟨?_, by rw [hL]; simp⟩
 unfold clsX
 rw [hL, hS, if_neg (fun h => h rfl)]
 rfl
noncomputable def E4 (a n : Int) : List En := insE (endX a) (E2 a n)
include h0 h1 hn hn2 in
theorem e4_facts : postE A4 (E2 a n) (-1) (endX a) = 0 ∧ postB (E2 a n) (endX a) = E4 a n ∧ bkChk A4 (E4 a n) 400 = 0 ∧ (E4 a n).length ≤ 14 := by
 obtain ⟨_, f2, f3, _, _, f6, _⟩ := e2_facts h0 h1 hn hn2
 have hX : enX (endX a) = 0 := two_ok (by decide) (by decide) (by decide) (by decide) (by decide) (by omega) (by omega) (by omega)
 have hg : getE (endX a).1 (E2 a n) = none := by
  cases h : getE (endX a).1 (E2 a n) with
  | none => rfl
  | some y => obtain ⟨hy, he⟩ := getE_some h; exact absurd he (f6 y hy).1
 obtain ⟨p1, p2⟩ := post_new f2 hX hg (by show (hasA A4 c40 && (hasA A4 c50 && true)) = true; decide) (by show (-1 : Int) < 400; omega) (by omega)
 have hb := (postE_ok p1).2.2
 rw [p2] at hb
 refine ⟨p1, p2, ?_, by unfold E4; rw [insE_len]; omega⟩
 obtain ⟨g1, g2, g3, g4, g5, g6⟩ := bkChk_iff.1 hb
 exact bkChk_iff.2 ⟨g1, by omega, g3, g4, g5, g6⟩
include h0 h1 hn hn2 in
theorem close1 : clE A4 (E2 a n) (-1) kEnd 400 c30 = 0 ∧ postB (E2 a n) (clsX kEnd (E2 a n) 400 c30 A4) = E4 a n := by
 obtain ⟨_, f2, _⟩ := e2_facts h0 h1 hn hn2
 obtain ⟨c1, c2⟩ := cls_is h0 h1 hn hn2
 obtain ⟨p1, p2, _⟩ := e4_facts h0 h1 hn hn2
 have hk : kindR c30 A4 = (2, 0) := by decide +kernel
 refine ⟨?_, by rw [c1, p2]⟩
 unfold clE
 rw [if_neg (fun h => h f2), if_neg (fun h => h (by omega)), hk, if_neg (fun h => h rfl), if_neg (fun h => h rfl), if_neg c2, c1, p1, if_neg (fun h => h rfl), if_neg (by omega)]
include h0 h1 hn hn2 in
theorem e4_bal : ofB c10 0 400 (E4 a n) = 0 ∧ ofB c30 0 400 (E4 a n) = 0 ∧ ofB c40 0 400 (E4 a n) = 0 ∧ ofB c50 0 400 (E4 a n) = 0 := by
 obtain ⟨b1, b2, b3, b4⟩ := e2_bal h0 h1 hn hn2
 have key : ∀ c, ofB c 0 400 (E4 a n) = ((if c40 = c then a else 0) + if c50 = c then -a else 0) + ofB c 0 400 (E2 a n) := fun c => by
  unfold E4
  rw [ofB_ins, ofX_in (by show (0 : Int) ≤ 400 ∧ (400 : Int) ≤ 400; omega)]
  show ofL c [(c40, a), (c50, -a)] + _ = _
  rw [ofL_two]
 have d1 : c50 ≠ c10 := by decide
 have d2 : c40 ≠ c10 := by decide
 have d3 : c50 ≠ c30 := by decide
 have d5 : c40 ≠ c30 := by decide
 have d6 : c50 ≠ c40 := by decide
 have d8 : c40 ≠ c50 := by decide
 rw [key, key, key, key, b1, b2, b3, b4]
 simp only [if_true, d1, d2, d3, d5, d6, d8, if_false]
 omega
include h0 h1 hn hn2 in
theorem trial1 : tlookE A4 (E4 a n) 400 400 = 0 ∧ trD (E4 a n) 400 A4 = 0 ∧ trC (E4 a n) 400 A4 = 0 := by
 obtain ⟨_, _, f3, _⟩ := e4_facts h0 h1 hn hn2
 obtain ⟨b1, b2, b3, b4⟩ := e4_bal h0 h1 hn hn2
 refine ⟨tlook_ok f3 (by omega), ?_, ?_⟩
 ·show pos (ofB c10 0 400 (E4 a n)) + (pos (ofB c30 0 400 (E4 a n)) + (pos (ofB c40 0 400 (E4 a n)) + (pos (ofB c50 0 400 (E4 a n)) + 0))) = 0
  rw [b1, b2, b3, b4]
  rfl
 ·show neg (ofB c10 0 400 (E4 a n)) + (neg (ofB c30 0 400 (E4 a n)) + (neg (ofB c40 0 400 (E4 a n)) + (neg (ofB c50 0 400 (E4 a n)) + 0))) = 0
  rw [b1, b2, b3, b4]
  rfl
include h0 h1 hn hn2 in
theorem late1 : postE A4 (E4 a n) 400 lateX = 9 := by
 obtain ⟨_, _, f3, _⟩ := e4_facts h0 h1 hn hn2
 obtain ⟨_, _, _, _, _, f6, _⟩ := e2_facts h0 h1 hn hn2
 have hX : enX lateX = 0 := by decide +kernel
 have hg : getE lateX.1 (E4 a n) = none := by
  cases h : getE lateX.1 (E4 a n) with
  | none => rfl
  | some y =>
   obtain ⟨hy, he⟩ := getE_some h
   rcases mem_insE.1 hy with rfl | hy
   ·exact absurd he (by show kEnd ≠ kLate; decide)
   ·exact absurd he (f6 y hy).2.2
 unfold postE
 rw [if_neg (fun h => h f3), if_neg (fun h => h hX), hg]
 simp only
 rw [if_neg (by show ¬ (hasA A4 c10 && (hasA A4 c40 && true)) = false; decide), if_pos (by show (400 : Int) ≤ 400; omega)]
include h0 h1 hn hn2 in
theorem bal1 : balE A4 (E4 a n) 400 c30 400 = 0 ∧ balN A4 (E4 a n) 400 c30 400 = 0 := by
 obtain ⟨_, _, f3, _⟩ := e4_facts h0 h1 hn hn2
 obtain ⟨_, b2, _⟩ := e4_bal h0 h1 hn hn2
 have he : balE A4 (E4 a n) 400 c30 400 = 0 := by
  unfold balE
  rw [if_neg (fun h => h f3), if_neg (by decide), if_neg (fun h => h (by omega))]
 exact ⟨he, by unfold balN; rw [if_pos he, b2]⟩
def backX (a : Int) : En := (kBack, 401, turnL (saleX a).2.2)
noncomputable def E5 (a n : Int) : List En := insE (backX a) (E4 a n)
include h0 h1 hn hn2 in
theorem undo1 : getE kSale (E4 a n) = some (saleX a) ∧ postE A4 (E4 a n) 400 (backX a) = 0 ∧ postB (E4 a n) (backX a) = E5 a n ∧ bkChk A4 (E5 a n) 400 = 0 := by
 obtain ⟨_, _, f3, f4⟩ := e4_facts h0 h1 hn hn2
 obtain ⟨_, _, _, _, _, f6, f7, _⟩ := e2_facts h0 h1 hn hn2
 have hmem : saleX a ∈ E4 a n := mem_insE.2 (.inr f7)
 have hB : backX a = (kBack, 401, [(c10, -a), (c40, -(-a))]) := by
  unfold backX saleX turnL
  simp only [List.map_cons, List.map_nil]
  rw [show 0 - a = -a by omega, show 0 - -a = -(-a) by omega]
 have hX : enX (backX a) = 0 := by
  rw [hB]
  exact two_ok (by decide) (by decide) (by decide) (by decide) (by decide) (by omega) (by omega) (by omega)
 have hg : getE (backX a).1 (E4 a n) = none := by
  cases h : getE (backX a).1 (E4 a n) with
  | none => rfl
  | some y =>
   obtain ⟨hy, he⟩ := getE_some h
   rcases mem_insE.1 hy with rfl | hy
   ·exact absurd he (by show kEnd ≠ kBack; decide)
   ·exact absurd he (f6 y hy).2.1
 have hk : knownB A4 (backX a) = true := by
  rw [hB]
  show (hasA A4 c10 && (hasA A4 c40 && true)) = true
  decide
 obtain ⟨p1, p2⟩ := post_new f3 hX hg hk (by show (400 : Int) < 401; omega) (by omega)
 have hb := (postE_ok p1).2.2
 rw [p2] at hb
 exact ⟨getE_mem (bkChk_iff.1 f3).2.2.2.2.1 hmem, p1, p2, hb⟩
include h0 h1 hn hn2 in
theorem prof2 : profE A4 (E5 a n) 400 401 401 = 0 ∧ profN A4 (E5 a n) 400 401 401 = -a := by
 obtain ⟨_, _, _, f4⟩ := undo1 h0 h1 hn hn2
 obtain ⟨_, _, _, _, g5, _⟩ := e2_facts h0 h1 hn hn2
 obtain ⟨p1, p2⟩ := prof_ok f4 (f := 401) (t := 401) (by omega) (by omega) (by omega)
 have key : ∀ c, ofB c 401 401 (E5 a n) = (if c10 = c then -a else 0) + if c40 = c then -(-a) else 0 := fun c => by
  unfold E5 E4
  rw [ofB_ins, ofB_ins, g5 c 401 401 (by omega), ofX_in (by show (401 : Int) ≤ 401 ∧ (401 : Int) ≤ 401; omega), ofX_out (by show ¬ ((401 : Int) ≤ 400 ∧ (400 : Int) ≤ 401); omega)]
  have hB : (backX a).2.2 = [(c10, -a), (c40, -(-a))] := by
   unfold backX saleX turnL
   simp only [List.map_cons, List.map_nil]
   rw [show 0 - a = -a by omega, show 0 - -a = -(-a) by omega]
  rw [hB, ofL_two]
  omega
 have d6 : c10 ≠ c40 := by decide
 have d8 : c40 ≠ c50 := by decide
 have d9 : c10 ≠ c50 := by decide
 refine ⟨p1, ?_⟩
 rw [p2, key, key]
 simp only [if_true, d6, d8, d9, if_false]
 omega
end
end Go.Dk
