/-
  A year at the desk in plain words: entries that are new, entries that are there already.
-/
import Derived.Test.YtcmpjagpggjfiaaGreatDoorT21
import Derived.Test.YtcmpjagpggjfiaaGreatDoorT17
set_option linter.unusedVariables false
namespace Go.Dk
open Go Go.Ev Go.Acc
open Go.Proofs.YtcmpjagpggjfiaaGreatDoor
theorem getE_mem {E : List En} (hn : (keysE E).Nodup) {x : En} (hx : x ∈ E) : getE x.1 E = some x := by
 cases h : getE x.1 E with
 | none => exact absurd rfl (getE_none h x hx)
 | some y =>
  obtain ⟨hy, he⟩ := getE_some h
  obtain ⟨i, hi, rfl⟩ := List.mem_iff_getElem.1 hx
  obtain ⟨j, hj, rfl⟩ := List.mem_iff_getElem.1 hy
  have hij : i = j := (List.getElem_inj (h₀ := by simpa [keysE] using hi) (h₁ := by simpa [keysE] using hj) hn).1 (by simpa [keysE] using he.symm)
  subst hij
  rfl
theorem post_new {A : List (ByteArray × Int)} {E : List En} {s : Int} {x : En} (hb : bkChk A E s = 0) (hx : enX x = 0) (hg : getE x.1 E = none) (hk : knownB A x = true) (hs : s < x.2.1) (hl : E.length < 60) : postE A E s x = 0 ∧ postB E x = insE x E := by
 refine ⟨?_, by unfold postB; rw [hg]⟩
 unfold postE
 rw [if_neg (fun h => h hb), if_neg (fun h => h hx), hg]
 simp only
 rw [if_neg (by rw [hk]; simp), if_neg (by omega), if_neg (by omega)]
theorem post_old {A : List (ByteArray × Int)} {E : List En} {s : Int} {x : En} (hb : bkChk A E s = 0) (hx : x ∈ E) : postE A E s x = 0 ∧ postB E x = E := by
 obtain ⟨_, _, _, h4, h5, _⟩ := bkChk_iff.1 hb
 have hg := getE_mem h5 hx
 refine ⟨?_, by unfold postB; rw [hg]⟩
 unfold postE
 rw [if_neg (fun h => h hb), if_neg (fun h => h (h4 x hx).1), hg]
 simp only [if_true]
theorem runB_old {A : List (ByteArray × Int)} {E : List En} {s : Int} (hb : bkChk A E s = 0) : ∀ {r : List En}, (∀ x ∈ r, x ∈ E) → runB A s E r = (0, E)
 | [], _ => rfl
 | x :: r, h => by
  obtain ⟨h1, h2⟩ := post_old hb (h x (by simp))
  rw [runB, if_pos h1, h2]
  exact runB_old hb fun y hy => h y (List.mem_cons_of_mem _ hy)
theorem runB_new {A : List (ByteArray × Int)} {s : Int} : ∀ {r E : List En}, bkChk A E s = 0 → (∀ x ∈ r, enX x = 0 ∧ knownB A x = true ∧ s < x.2.1) → (r.map (·.1)).Nodup → (∀ x ∈ r, ∀ y ∈ E, y.1 ≠ x.1) → E.length + r.length ≤ 60 →
  (runB A s E r).1 = 0 ∧ bkChk A (runB A s E r).2 s = 0 ∧ (runB A s E r).2.length = E.length + r.length ∧ (∀ c f t, ofB c f t (runB A s E r).2 = (r.map (ofX c f t)).sum + ofB c f t E) ∧ ∀ y, y ∈ (runB A s E r).2 ↔ y ∈ r ∨ y ∈ E
 | [], E, hb, _, _, _, _ => ⟨rfl, hb, rfl, fun c f t => by simp [runB], fun y => by simp [runB]⟩
 | x :: r, E, hb, h1, h2, h3, h4 => by
  obtain ⟨a1, a2, a3⟩ := h1 x (by simp)
  have hg : getE x.1 E = none := by
   cases h : getE x.1 E with
   | none => rfl
   | some y => obtain ⟨hy, he⟩ := getE_some h; exact absurd he (h3 x (by simp) y hy)
  rw [List.length_cons] at h4
  obtain ⟨p1, p2⟩ := post_new hb a1 hg a2 a3 (by omega)
  have hb2 := (postE_ok p1).2.2
  rw [p2] at hb2
  rw [List.map_cons, List.nodup_cons] at h2
  rw [runB, if_pos p1, p2]
  obtain ⟨q1, q2, q3, q4, q5⟩ := runB_new (r := r) hb2 (fun y hy => h1 y (List.mem_cons_of_mem _ hy)) h2.2 (fun y hy z hz => by
   rcases mem_insE.1 hz with rfl | hz
   ·exact fun e => h2.1 (List.mem_map.2 ⟨y, hy, e.symm⟩)
   ·exact h3 y (List.mem_cons_of_mem _ hy) z hz) (by rw [insE_len]; omega)
  refine ⟨q1, q2, by rw [q3, insE_len, List.length_cons]; omega, fun c f t => ?_, fun y => ?_⟩
  ·rw [q4, ofB_ins, List.map_cons, List.sum_cons]
   omega
  ·rw [q5, mem_insE, List.mem_cons]
   constructor
   ·rintro (h | h | h)
    ·exact .inl (.inr h)
    ·exact .inl (.inl h)
    ·exact .inr h
   ·rintro ((h | h) | h)
    ·exact .inr (.inl h)
    ·exact .inl h
    ·exact .inr (.inr h)
/-! ### this year's -/
def c10 : ByteArray := ⟨#[49, 48]⟩
def c30 : ByteArray := ⟨#[51, 48]⟩
def c40 : ByteArray := ⟨#[52, 48]⟩
def c50 : ByteArray := ⟨#[53, 48]⟩
def kSale : ByteArray := ⟨#[115, 97, 108, 101]⟩
def kRent : ByteArray := ⟨#[114, 101, 110, 116]⟩
def kEnd : ByteArray := ⟨#[101, 110, 100]⟩
def kLate : ByteArray := ⟨#[108, 97, 116, 101]⟩
def kBack : ByteArray := ⟨#[98, 97, 99, 107]⟩
def A4 : List (ByteArray × Int) := [(c10, 0), (c30, 2), (c40, 3), (c50, 4)]
theorem two_ok {k : ByteArray} {d : Int} {c e : ByteArray} {n : Int} (hk : keyOk' k = true) (hd : 0 ≤ d ∧ d ≤ 292193) (hc : codeOk c = true) (he : codeOk e = true) (hce : c ≠ e) (hn : n ≠ 0) (h0 : -1000000000000 ≤ n) (h1 : n ≤ 1000000000000) : enX (k, d, [(c, n), (e, -n)]) = 0 := by
 have e1 : lnE [] [(c, n), (e, -n)] = 0 := by
  simp only [lnE, List.nil_append]
  rw [if_neg (by rw [hc]; simp), if_neg (fun h => h ⟨⟨h0, h1⟩, hn⟩), if_neg (by simp [hasC]), if_neg (by rw [he]; simp), if_neg (fun h => h ⟨⟨by omega, by omega⟩, by omega⟩), if_neg (by simp [hasC, hce])]
 have e2 : lnSum [(c, n), (e, -n)] 2 = 0 := by simp [lnSum]; omega
 unfold enX enE
 rw [if_neg (by rw [hk]; simp), if_neg (fun h => h hd)]
 unfold lnChk
 rw [if_neg (by simp), e1, if_neg (fun h => h rfl)]
 rw [if_neg]
 rintro (h | h)
 ·simp at h
 ·exact h e2
theorem ofL_two (x c e : ByteArray) (n : Int) : ofL x [(c, n), (e, -n)] = (if c = x then n else 0) + if e = x then -n else 0 := by
 unfold ofL lnW isC
 simp
def saleX (a : Int) : En := (kSale, 5, [(c10, a), (c40, -a)])
theorem sale_ok {a : Int} (h0 : 1 ≤ a) (h1 : a ≤ 100000) : enX (saleX a) = 0 := two_ok (by decide) (by decide) (by decide) (by decide) (by decide) (by omega) (by omega) (by omega)
theorem book0 : bkChk A4 [] (-1) = 0 := by decide +kernel
def rentP (a n : Int) : Job.Pl := ⟨kRent, 0, 0, a, n, c50, c10⟩
theorem add12 : ∀ k : Nat, k < 12 → 0 ≤ Cal.add 0 k ∧ Cal.add 0 k ≤ 400 := by decide
theorem rent_key : ∀ k : Nat, k < 12 → keyOk' (Job.keyP (rentP 0 0) k) = true ∧ Job.keyP (rentP 0 0) k ≠ kSale ∧ Job.keyP (rentP 0 0) k ≠ kEnd ∧ Job.keyP (rentP 0 0) k ≠ kBack ∧ Job.keyP (rentP 0 0) k ≠ kLate := by decide
theorem rent_keys : ((List.range 12).map (Job.keyP (rentP 0 0))).Nodup := by decide
theorem rent_chk {a n : Int} (h0 : 1 ≤ a) (h1 : a ≤ 100000) (hn : 1 ≤ n) (hn2 : n ≤ 12) : Job.plChk keyOk' codeOk [rentP a n] = 0 := by
 have hadd : 0 ≤ Cal.add 0 (n - 1) := by
  obtain ⟨k, rfl⟩ : ∃ k : Nat, n = k + 1 := ⟨(n - 1).toNat, by omega⟩
  rw [show ((k : Int) + 1 - 1) = k by omega]
  exact (add12 k (by omega)).1
 have h1 : Job.oneE keyOk' codeOk (rentP a n) = 0 := by
  unfold Job.oneE
  rw [if_neg, if_neg, if_neg, if_neg]
  ·show ¬ Cal.add 0 (n - 1) < 0
   omega
  ·rintro (h | h | h)
   ·exact absurd h (by show ¬ codeOk _ = false; simp only [rentP]; decide)
   ·exact absurd h (by show ¬ codeOk _ = false; simp only [rentP]; decide)
   ·exact absurd h (show (rentP a n).deb ≠ (rentP a n).cre from (by decide : c50 ≠ c10))
  ·rintro (h | h | h | h)
   ·exact h ⟨Int.le_refl _, by show (0 : Int) ≤ 1; omega⟩
   ·exact h ⟨Int.le_refl _, by show (0 : Int) ≤ 292193; omega⟩
   ·exact h ⟨by show 0 ≤ a; omega, by show a ≤ _; omega⟩
   ·exact h ⟨hn, by show n ≤ 40; omega⟩
  ·rintro (h | h | h)
   ·exact absurd h (by show ¬ keyOk' kRent = false; decide)
   ·exact absurd h (by show ¬ 9 < kRent.size; decide)
   ·exact absurd h (by show ¬ Job.dash kRent = true; decide)
 unfold Job.plChk
 rw [if_neg (by simp)]
 show Job.plE keyOk' codeOk [rentP a n] (0 + 1) = 0
 rw [Job.plE_step keyOk' codeOk (l := [rentP a n]) (k := 0) rfl rfl, if_pos h1]
 simp
/-! ### what is due -/
theorem known_rent (k : ByteArray) (d m : Int) : knownB A4 (k, d, [(c50, m), (c10, -m)]) = true := by
 have : knownB A4 (k, d, [(c50, m), (c10, -m)]) = (hasA A4 c50 && (hasA A4 c10 && true)) := rfl
 rw [this]
 decide
theorem dueFrom_cons (day : Int) (p : Job.Pl) (k : Nat) (n : Int) (L : List Int) : Job.dueFrom day p k (n :: L) = (if Cal.add p.at_ k ≤ day ∧ n ≠ 0 then [Job.enP p k n] else []) ++ Job.dueFrom day p (k + 1) L := rfl
theorem enP_rent (a n : Int) (k : Nat) (m : Int) : Job.enP (rentP a n) k m = (Job.keyP (rentP 0 0) k, Cal.add 0 k, [(c50, m), (c10, -m)]) := rfl
theorem due_facts {a n : Int} (h0 : 0 ≤ a) (h1 : a ≤ 100000) : ∀ (L : List Int) (k : Nat), k + L.length ≤ 12 → (∀ x ∈ L, 0 ≤ x ∧ x ≤ a) →
  (∀ x ∈ Job.dueFrom 400 (rentP a n) k L, enX x = 0 ∧ knownB A4 x = true ∧ (0 ≤ x.2.1 ∧ x.2.1 ≤ 400) ∧ ∃ (j : Nat) (m : Int), k ≤ j ∧ j < 12 ∧ m ≠ 0 ∧ x = (Job.keyP (rentP 0 0) j, Cal.add 0 j, [(c50, m), (c10, -m)])) ∧
  ((Job.dueFrom 400 (rentP a n) k L).map (·.1)).Nodup ∧
  (∀ c f t, f ≤ 0 → 400 ≤ t → ((Job.dueFrom 400 (rentP a n) k L).map (ofX c f t)).sum = (if c50 = c then L.sum else 0) + if c10 = c then -L.sum else 0) ∧
  (∀ c f t, 400 < f → ((Job.dueFrom 400 (rentP a n) k L).map (ofX c f t)).sum = 0)
 | [], k, _, _ => ⟨by simp [Job.dueFrom], by simp [Job.dueFrom], fun c f t _ _ => by simp [Job.dueFrom], fun c f t _ => by simp [Job.dueFrom]⟩
 | m :: L, k, hk, hL => by
  rw [List.length_cons] at hk
  obtain ⟨i1, i2, i3, i4⟩ := due_facts h0 h1 L (k + 1) (by omega) fun x hx => hL x (List.mem_cons_of_mem _ hx)
  have hm := hL m (by simp)
  have ha := add12 k (by omega)
  rw [dueFrom_cons, show (rentP a n).at_ = 0 from rfl, enP_rent]
  have hrk := rent_key k (by omega)
  have hkk : ∀ x ∈ Job.dueFrom 400 (rentP a n) (k + 1) L, x.1 ≠ Job.keyP (rentP 0 0) k := fun x hx he => by
   obtain ⟨_, _, _, j, m', b1, b2, _, b4⟩ := i1 x hx
   rw [b4] at he
   have e1 : ((List.range 12).map (Job.keyP (rentP 0 0)))[j]'(by simp; omega) = ((List.range 12).map (Job.keyP (rentP 0 0)))[k]'(by simp; omega) := by simpa using he
   have := (List.getElem_inj rent_keys).1 e1
   omega
  have hself : ∃ (j : Nat) (m' : Int), k ≤ j ∧ j < 12 ∧ m' = m ∧ (Job.keyP (rentP 0 0) k, Cal.add 0 (k : Int)) = (Job.keyP (rentP 0 0) j, Cal.add 0 (j : Int)) := ⟨k, m, Nat.le_refl _, by omega, rfl, rfl⟩
  generalize Job.dueFrom 400 (rentP a n) (k + 1) L = R at *
  generalize Job.keyP (rentP 0 0) k = K at *
  generalize Cal.add 0 (k : Int) = q at *
  by_cases h : m = 0
  ·rw [if_neg (fun hh => hh.2 h), List.nil_append, h]
   refine ⟨fun x hx => ?_, i2, fun c f t hf ht => by rw [i3 c f t hf ht, List.sum_cons]; simp, i4⟩
   obtain ⟨a1, a2, a3, j, m', b1, b2, b3, b4⟩ := i1 x hx
   exact ⟨a1, a2, a3, j, m', by omega, b2, b3, b4⟩
  ·rw [if_pos ⟨ha.2, h⟩]
   have hX : enX (K, q, [(c50, m), (c10, -m)]) = 0 := two_ok hrk.1 ⟨ha.1, by omega⟩ (by decide) (by decide) (by decide) h (by omega) (by omega)
   refine ⟨fun x hx => ?_, ?_, fun c f t hf ht => ?_, fun c f t hf => ?_⟩
   ·rw [List.singleton_append, List.mem_cons] at hx
    rcases hx with rfl | hx
    ·obtain ⟨j, m', c1, c2, rfl, c4⟩ := hself
     simp only [Prod.mk.injEq] at c4
     exact ⟨hX, known_rent _ _ _, ⟨ha.1, ha.2⟩, j, m', c1, c2, h, by rw [← c4.1, ← c4.2]⟩
    ·obtain ⟨a1, a2, a3, j, m', b1, b2, b3, b4⟩ := i1 x hx
     exact ⟨a1, a2, a3, j, m', by omega, b2, b3, b4⟩
   ·rw [List.singleton_append, List.map_cons, List.nodup_cons]
    refine ⟨fun hx => ?_, i2⟩
    obtain ⟨x, hx, he⟩ := List.mem_map.1 hx
    exact hkk x hx he
   ·rw [List.singleton_append, List.map_cons, List.sum_cons, i3 c f t hf ht, List.sum_cons]
    unfold ofX
    rw [if_pos ⟨by show f ≤ q; omega, by show q ≤ t; omega⟩, ofL_two]
    split <;> split <;> omega
   ·rw [List.singleton_append, List.map_cons, List.sum_cons, i4 c f t hf]
    unfold ofX
    rw [if_neg (fun hh => by have : f ≤ q := hh.1; omega)]
    omega
theorem rent_parts {a n : Int} (h0 : 0 ≤ a) (hn : 1 ≤ n) (hn2 : n ≤ 12) : (Job.partL (rentP a n)).length = n.toNat ∧ (∀ x ∈ Job.partL (rentP a n), 0 ≤ x ∧ x ≤ a) ∧ (Job.partL (rentP a n)).sum = a := by
 have hF : Job.partF (rentP a n) = lnS a n := by
  funext k
  unfold Job.partF
  rw [if_neg (by show ¬ (0 : Int) = 1; omega)]
  rfl
 have hL : Job.partL (rentP a n) = steps (lnS a n) n.toNat := by unfold Job.partL; rw [hF]; rfl
 have hnn : ((n.toNat : Nat) : Int) = n := by omega
 refine ⟨by rw [hL]; simp [steps], fun x hx => ?_, ?_⟩
 ·rw [hL] at hx
  exact steps_bd (fun k _ => lnS_mono h0 hn (by omega)) (fun k hk => lnS_bd h0 hn (by omega) (by omega)) x hx
 ·rw [hL, steps_sum, hnn, lnS_n h0 hn, lnS_0 hn]
  omega
def lateX : En := (kLate, 400, [(c10, 1), (c40, -1)])
end Go.Dk
