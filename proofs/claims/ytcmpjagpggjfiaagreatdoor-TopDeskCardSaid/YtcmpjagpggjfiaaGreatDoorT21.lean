/-
  Steps of the proof of TopDesk: TsE DecE TopP PoE PoF BkJ YrP TsF.
-/
import Derived.Test.YtcmpjagpggjfiaaGreatDoorT20
import Derived.Test.YtcmpjagpggjfiaaGreatDoorT08
import Derived.Test.YtcmpjagpggjfiaaGreatDoorT19
import Derived.Test.YtcmpjagpggjfiaaGreatDoorT18
set_option linter.unusedVariables false
set_option linter.unusedSimpArgs false
section
namespace Go.Proofs.YtcmpjagpggjfiaaGreatDoor
open Go Go.Ev Go.RowKit Go.Acc
set_option maxHeartbeats 4000000
theorem fam_ex {P : Program} {J : World → Prop} {f : FuncId} {α : Type} (a : α → List V) (r : α → V × List Ev.Blk) (hi : ∀ i j, a i = a j → r i = r j) (h : ∀ i, SoundAt P J f (a i) (r i).1 (r i).2) :
  ∃ F : List V → Option (V × List Ev.Blk), (∀ i, F (a i) = some (r i)) ∧ Snd P J f F := by
 refine ⟨fun x => open Classical in if h : ∃ i, a i = x then some (r h.choose) else none, fun i => ?_, fun args r' bs h' => ?_⟩
 ·have hx : ∃ j, a j = a i := ⟨i, rfl⟩
  simp only [dif_pos hx]
  rw [hi _ _ hx.choose_spec]
 ·by_cases hx : ∃ i, a i = args
  ·simp only [dif_pos hx] at h'
   have e := Option.some.inj h'
   have := h hx.choose
   rw [e, hx.choose_spec] at this
   exact this
  ·simp only [dif_neg hx] at h'
   cases h'
def tlookE (A : List (ByteArray × Int)) (E : List En) (s : Int) (day : Int) : Int := if bkChk A E s ≠ 0 then bkChk A E s else if 0 ≤ day ∧ day ≤ 292193 then 0 else 1
theorem tlook_sound {J : World → Prop} (hJ : Stable J) (A : List (ByteArray × Int)) (E : List En) (s : Int) (day : Int) (hE : E.length ≤ maxLen) : SoundAt Tryz.prog J 176 [bkV A E s, .int .i64 day] (.int .i64 (tlookE A E s day)) [] := by
 have hB := bcheck_sound hJ A E s hE
 unfold bkV at hB ⊢
 refine evFn (l := [(26, at1 _ (.int .i64 (bkChk A E s), [])), (38, dayF)]) (nv := nv0) (fz := fz0) (dr := dr176) (dd := dd176) (lam := []) (ms := ms0) ⟨at1_snd hB, is_snd hJ, trivial⟩ hJ trivial ms0_ok Tryz.func176 rfl rfl (Nat.le_of_ble_eq_true rfl) (Nat.le_of_ble_eq_true rfl) drOk176 ?_
 dsimp only [Tryz.f176, dr176, dd176, Option.getD_some]
 refine ev_start ?_
 by_cases hz : bkChk A E s = 0
 ·by_cases hd : 0 ≤ day ∧ day ≤ 292193
  ·have e1 : tlookE A E s day = 0 := by unfold tlookE; rw [if_neg (fun h => h hz), if_pos hd]
   have hd' := decide_eq_true hd
   simp (disch := omega) only [at1_eq, dayF_eq, hz, hd', e1, go_sem, evP_D, evD_guard, evD_cons, evD_zero, evD_nil]
  ·have e1 : tlookE A E s day = 1 := by unfold tlookE; rw [if_neg (fun h => h hz), if_neg hd]
   have hd' := decide_eq_false hd
   simp (disch := omega) only [at1_eq, dayF_eq, hz, hd', e1, go_sem, evP_D, evD_guard, evD_cons, evD_zero, evD_nil]
 ·have e1 : tlookE A E s day = bkChk A E s := by unfold tlookE; rw [if_pos hz]
  simp (disch := omega) only [at1_eq, hz, e1, go_sem, evP_D, evD_guard, evD_cons, evD_zero, evD_nil]
theorem of_ex {J : World → Prop} (hJ : Stable J) (A : List (ByteArray × Int)) (E : List En) (s : Int) (f t : Int) (hE : ∀ x ∈ E, enX x = 0) (hl : E.length ≤ 60) :
  ∃ F : List V → Option (V × List Ev.Blk), (∀ c : ByteArray, F [.agg [.row 2 (A.map acV), .row 3 (E.map enW), .int .i64 s], .str c, .int .i64 f, .int .i64 t] = some (.int .i64 (ofB c f t E), [])) ∧ Snd Tryz.prog J 39 F :=
 fam_ex (fun c : ByteArray => [bkV A E s, .str c, .int .i64 f, .int .i64 t]) (fun c => (.int .i64 (ofB c f t E), [])) (fun i j h => by
  simp only [List.cons.injEq, V.str.injEq, true_and, and_true] at h
  rw [h]) fun c => of_sound hJ A E s c f t hE hl
set_option maxHeartbeats 4000000 in
theorem trial_sound {J : World → Prop} (hJ : Stable J) (A : List (ByteArray × Int)) (E : List En) (s : Int) (day : Int) (hE : E.length ≤ maxLen) :
  SoundAt Tryz.prog J 147 [bkV A E s, .int .i64 day] (.tup [.int .i64 (if tlookE A E s day = 0 then trD E day A else 0), .int .i64 (if tlookE A E s day = 0 then trC E day A else 0), .int .i64 (tlookE A E s day)]) [] := by
 have hL := tlook_sound hJ A E s day hE
 unfold bkV at hL ⊢
 by_cases hz : tlookE A E s day = 0
 case neg =>
  refine evFn (l := [(176, at1 _ (.int .i64 (tlookE A E s day), []))]) (nv := nv0) (fz := fz0) (dr := dr147) (dd := dd147) (lam := []) (ms := ms0) ⟨at1_snd hL, trivial⟩ hJ trivial ms0_ok Tryz.func147 rfl rfl (Nat.le_of_ble_eq_true rfl) (Nat.le_of_ble_eq_true rfl) drOk147 ?_
  dsimp only [Tryz.f147, dr147, dd147, Option.getD_some]
  refine ev_start ?_
  simp (disch := omega) only [at1_eq, hz, if_false, go_sem, evP_D, evD_guard, evD_cons, evD_zero, evD_nil]
 have hc : bkChk A E s = 0 := by
  unfold tlookE at hz
  by_cases h : bkChk A E s = 0
  ·exact h
  ·rw [if_pos h] at hz; exact hz
 obtain ⟨h1, _, h3, h4⟩ := bkChk_ok hc
 have hEn : ∀ x ∈ E, enX x = 0 := fun x hx => (h4 x hx).1
 have hA24 := (acChk_codes h1).1
 obtain ⟨OF, hOF, hOFs⟩ := of_ex hJ A E s 0 day hEn h3
 refine evFn (l := [(176, at1 _ (.int .i64 (tlookE A E s day), [])), (39, OF)]) (nv := nv0) (fz := fz0) (dr := dr147) (dd := dd147) (lam := []) (ms := ms0) ⟨at1_snd hL, hOFs, trivial⟩ hJ trivial ms0_ok Tryz.func147 rfl rfl (Nat.le_of_ble_eq_true rfl) (Nat.le_of_ble_eq_true rfl) drOk147 ?_
 dsimp only [Tryz.f147, dr147, dd147, Option.getD_some]
 refine ev_start ?_
 rw [if_pos hz, if_pos hz]
 simp (disch := omega) only [at1_eq, hz, List.length_map, go_sem, evP_D, evD_guard, evD_cons, evD_zero, evD_nil]
 refine evQ_loop [1, 2, 8, 9, 20, 21, 22] [16] (fun σ => ∃ (k : Nat), k ≤ A.length ∧ σ = ⟨[(1, .int .i64 day), (2, .ptr 16 0), (8, .int .i64 (trD E day (A.take k))), (9, .int .i64 (trC E day (A.take k))), (20, .row 2 (A.map acV)), (21, .int .i64 A.length), (22, .int .i64 k)], [(16, .box (.agg [.row 2 (A.map acV), .row 3 (E.map enW), .int .i64 s]))]⟩)
  (fun σ => A.length - (match Ev.look 22 σ.env with | some (.int _ n) => n.toNat | _ => 0)) ?_ ?_
 ·simp only [go_sem, evP_D, evD_guard, evD_cons, evD_zero, evD_nil]
  exact ⟨0, Nat.zero_le _, rfl⟩
 ·rintro σ ⟨k, hkl, rfl⟩
  by_cases hlt : k < A.length
  ·have hlt' : (k : Int) < A.length := by omega
   obtain ⟨⟨c, kd⟩, hcn⟩ : ∃ p, A[k]? = some p := ⟨_, List.getElem?_eq_getElem hlt⟩
   have hg := acV_get hcn
   have hD : trD E day (A.take (k + 1)) = trD E day (A.take k) + pos (ofB c 0 day E) := sum_take (fun a : ByteArray × Int => pos (ofB a.1 0 day E)) hcn
   have hC : trC E day (A.take (k + 1)) = trC E day (A.take k) + neg (ofB c 0 day E) := sum_take (fun a : ByteArray × Int => neg (ofB a.1 0 day E)) hcn
   have bD := trD_bd hEn h3 day hA24 k
   have bC := trC_bd hEn h3 day hA24 k
   have bO := ofB_bd c 0 day hEn h3
   have hms : A.length - ((k : Int) + 1).toNat < A.length - (k : Int).toNat := by
    have e3 : ((k : Int) + 1).toNat = k + 1 := by omega
    rw [e3, Int.toNat_natCast]; exact Nat.sub_lt_sub_left hlt (Nat.lt_succ_self k)
   by_cases hp : 0 < ofB c 0 day E
   ·have e1 : pos (ofB c 0 day E) = ofB c 0 day E := if_pos hp
    have e2 : neg (ofB c 0 day E) = 0 := if_pos hp
    rw [e1] at hD
    rw [e2, Int.add_zero] at hC
    simp (disch := (first | omega | assumption)) only [hlt', idx_nat, List.length_map, hg, hOF, hp, go_sem, evP_D, evD_guard, evD_cons, evD_zero, evD_nil]
    exact ⟨⟨k + 1, hlt, by rw [hD, hC]; rfl⟩, hms⟩
   ·have e1 : pos (ofB c 0 day E) = 0 := if_neg hp
    have e2 : neg (ofB c 0 day E) = - ofB c 0 day E := if_neg hp
    rw [e1, Int.add_zero] at hD
    rw [e2] at hC
    simp (disch := (first | omega | assumption)) only [hlt', idx_nat, List.length_map, hg, hOF, hp, go_sem, evP_D, evD_guard, evD_cons, evD_zero, evD_nil]
    exact ⟨⟨k + 1, hlt, by rw [hD, hC, ← Int.sub_eq_add_neg]; rfl⟩, hms⟩
  ·have hk' : k = A.length := by omega
   subst hk'
   have hlt' : ¬ ((A.length : Int) < A.length) := by omega
   simp (disch := (first | omega | assumption)) only [hlt', hz, List.take_length, go_sem, evP_D, evD_guard, evD_cons, evD_zero, evD_nil]
end Go.Proofs.YtcmpjagpggjfiaaGreatDoor
end
section
namespace Go.Acc
open Go
def digB (n : Nat) : ByteArray := (⟨#[48, 49, 50, 51, 52, 53, 54, 55, 56, 57]⟩ : ByteArray).extract n (n + 1)
def decF : Nat → Nat → ByteArray
 | 0, n => digB n
 | k + 1, n => if n < 10 then digB n else decF k (n / 10) ++ digB (n % 10)
theorem decF_lt (k : Nat) {n : Nat} (h : n < 10) : decF k n = digB n := by
 cases k with
 | zero => rfl
 | succ k => unfold decF; rw [if_pos h]
theorem digB_size {n : Nat} (h : n < 10) : (digB n).size = 1 := by
 unfold digB
 rw [ByteArray.size_extract]
 have : (⟨#[48, 49, 50, 51, 52, 53, 54, 55, 56, 57]⟩ : ByteArray).size = 10 := rfl
 omega
theorem decF_size : ∀ (k n : Nat), n < 10 ^ (k + 1) → (decF k n).size ≤ k + 1
 | 0, n, h => by
  have h10 : n < 10 := by simpa using h
  show (digB n).size ≤ 1
  rw [digB_size h10]
  exact Nat.le_refl _
 | k + 1, n, h => by
  unfold decF
  split
  ·rename_i h10; rw [digB_size h10]; omega
  ·have h1 : n / 10 < 10 ^ (k + 1) := by rw [Nat.div_lt_iff_lt_mul (by omega)]; rw [Nat.pow_succ] at h; exact h
   have := decF_size k (n / 10) h1
   rw [ByteArray.size_append, digB_size (Nat.mod_lt _ (by omega))]
   omega
end Go.Acc
namespace Go.Proofs.YtcmpjagpggjfiaaGreatDoor
open Go Go.Ev Go.RowKit Go.Acc
set_option maxHeartbeats 4000000
theorem bin_add_str {x y : ByteArray} (h : ((x.size + y.size : Nat) : Int) ≤ 9223372036854775807) : binV .add (.str x) (.str y) = some (.str (x ++ y)) := by
 unfold binV
 exact if_pos (by omega)
theorem dec_small {J : World → Prop} (hJ : Stable J) (n : Nat) (h : n < 10) : SoundAt Tryz.prog J 5 [.int .i64 n] (.str (digB n)) [] := by
 have h0 : ¬ (n : Int) < 0 := by omega
 have h1 : (n : Int) < 10 := by omega
 have hs : ByteArray.size (⟨#[48, 49, 50, 51, 52, 53, 54, 55, 56, 57]⟩ : ByteArray) = 10 := rfl
 have e1 : ((n : Int)).toNat = n := by omega
 have e2 : ((n : Int) + 1).toNat = n + 1 := by omega
 have c1 : (n : Int) + 1 ≤ 10 := by omega
 have c2 : (n : Int) ≤ ((n + 1 : Nat) : Int) := by omega
 have c3 : 0 ≤ (n : Int) + 1 := by omega
 have c4 : 0 ≤ (n : Int) := by omega
 have hd : digB n = (⟨#[48, 49, 50, 51, 52, 53, 54, 55, 56, 57]⟩ : ByteArray).extract n (n + 1) := rfl
 rw [hd]
 refine evFn (l := []) (nv := nv0) (fz := fz0) (dr := dr5) (dd := dd5) (lam := []) (ms := ms0) trivial hJ trivial ms0_ok Tryz.func5 rfl rfl (Nat.le_of_ble_eq_true rfl) (Nat.le_of_ble_eq_true rfl) drOk5 ?_
 dsimp only [Tryz.f5, dr5, dd5, Option.getD_some]
 refine ev_start ?_
 simp (disch := omega) only [h0, h1, hs, c1, c2, c3, c4, e1, e2, and_self, go_sem, evP_D, evD_guard, evD_cons, evD_zero, evD_nil]
theorem dec_nat {J : World → Prop} (hJ : Stable J) : ∀ (k n : Nat), n < 10 ^ (k + 1) → k ≤ 18 → (n : Int) ≤ 9223372036854775807 → SoundAt Tryz.prog J 5 [.int .i64 n] (.str (decF k n)) []
 | 0, n, h, _, _ => dec_small hJ n (by simpa using h)
 | k + 1, n, h, hk, hn => by
  by_cases h10 : n < 10
  ·rw [decF_lt _ h10]; exact dec_small hJ n h10
  obtain ⟨DF, hDF, hDFs⟩ := fam_ex (f := 5) (fun m : { m : Nat // m < 10 ^ (k + 1) ∧ (m : Int) ≤ 9223372036854775807 } => [V.int .i64 (m.1 : Int)]) (fun m => (V.str (decF k m.1), [])) (fun i j hij => by
   simp only [List.cons.injEq, V.int.injEq, true_and, and_true] at hij
   have : i.1 = j.1 := by omega
   rw [this]) (fun m => dec_nat hJ k m.1 m.2.1 (by omega) m.2.2)
  have hq : (n : Int).tdiv 10 = ((n / 10 : Nat) : Int) := rfl
  have hr : (n : Int).tmod 10 = ((n % 10 : Nat) : Int) := rfl
  have d1 : n / 10 < 10 ^ (k + 1) := by rw [Nat.div_lt_iff_lt_mul (by omega)]; rw [Nat.pow_succ] at h; exact h
  have hp : 10 ≤ 10 ^ (k + 1) := by rw [Nat.pow_succ]; have : 0 < 10 ^ k := Nat.pow_pos (by omega); omega
  have m1 := Nat.mod_lt n (show 0 < 10 by omega)
  have f1 := hDF ⟨n / 10, d1, by omega⟩
  have f2 := hDF ⟨n % 10, by omega, by omega⟩
  simp only [decF_lt k m1] at f1 f2
  have s1 := decF_size k (n / 10) d1
  have s2 := digB_size m1
  have e : decF (k + 1) n = decF k (n / 10) ++ digB (n % 10) := by rw [decF]; exact if_neg h10
  have h0 : ¬ (n : Int) < 0 := by omega
  have h1 : ¬ (n : Int) < 10 := by omega
  have w1 : IntKind.i64.wrap ((n / 10 : Nat) : Int) = ((n / 10 : Nat) : Int) := by rw [IntKind.wrap_i64]; omega
  rw [e]
  generalize n / 10 = Q at *
  generalize n % 10 = R at *
  refine evFn (l := [(5, DF)]) (nv := nv0) (fz := fz0) (dr := dr5) (dd := dd5) (lam := []) (ms := ms0) ⟨hDFs, trivial⟩ hJ trivial ms0_ok Tryz.func5 rfl rfl (Nat.le_of_ble_eq_true rfl) (Nat.le_of_ble_eq_true rfl) drOk5 ?_
  dsimp only [Tryz.f5, dr5, dd5, Option.getD_some]
  refine ev_start ?_
  simp (disch := omega) only [h0, h1, hq, hr, w1, f1, f2, bin_add_str, go_sem, evP_D, evD_guard, evD_cons, evD_zero, evD_nil]
end Go.Proofs.YtcmpjagpggjfiaaGreatDoor
end
section
namespace Go.Acc
open Go Go.Proofs.YtcmpjagpggjfiaaGreatDoor
def c10 : ByteArray := ⟨#[49, 48]⟩
def c15 : ByteArray := ⟨#[49, 53]⟩
def c20 : ByteArray := ⟨#[50, 48]⟩
def c30 : ByteArray := ⟨#[51, 48]⟩
def c40 : ByteArray := ⟨#[52, 48]⟩
def c50 : ByteArray := ⟨#[53, 48]⟩
def plA : List (ByteArray × Int) := [(c10, 0), (c15, 0), (c20, 1), (c30, 2), (c40, 3), (c50, 4)]
def keyT (n : Nat) : ByteArray := (⟨#[107]⟩ : ByteArray) ++ decF 1 n
def mvX (n : Nat) (at_ a : Int) (to from_ : ByteArray) : En := (keyT n, at_, [(to, a), (from_, -a)])
theorem keyT_ok : ∀ n : Fin 100, keyOk' (keyT n.1) = true := by decide +kernel
theorem plA_ok : acChk plA = 0 := by
 unfold acChk plA
 simp only [acE, ByteArray.toList_eq]
 decide +kernel
theorem plA_has : hasA plA c10 = true ∧ hasA plA c15 = true ∧ hasA plA c20 = true ∧ hasA plA c30 = true ∧ hasA plA c40 = true ∧ hasA plA c50 = true := by decide +kernel
theorem codes_ok : codeOk c10 = true ∧ codeOk c15 = true ∧ codeOk c20 = true ∧ codeOk c30 = true ∧ codeOk c40 = true ∧ codeOk c50 = true := by decide +kernel
theorem enX_mv {n : Nat} {at_ a : Int} {to from_ : ByteArray} (hn : n < 100) (h0 : 0 ≤ at_) (h1 : at_ ≤ 292193) (ha : a ≠ 0) (ha0 : -1000000000000 ≤ a) (ha1 : a ≤ 1000000000000) (ht : codeOk to = true) (hf : codeOk from_ = true) (hne : to ≠ from_) : enX (mvX n at_ a to from_) = 0 := by
 have hk := keyT_ok ⟨n, hn⟩
 simp only at hk
 have hne' : decide (to = from_) = false := decide_eq_false hne
 have e1 : lnE [] [(to, a), (from_, -a)] = 0 := by
  simp only [lnE, ht, hf, hasC, List.any_nil, List.nil_append, List.any_cons, hne', Bool.or_false, Bool.true_eq_false, if_false, Bool.false_eq_true]
  rw [if_neg (fun h => h ⟨⟨ha0, ha1⟩, ha⟩), if_neg (fun h => h ⟨⟨by omega, by omega⟩, by omega⟩)]
 have e2 : lnSum [(to, a), (from_, -a)] 2 = 0 := by
  simp [lnSum]
  omega
 unfold enX mvX enE lnChk
 simp only [hk, e1, Bool.true_eq_false, if_false, List.length_cons, List.length_nil]
 rw [if_neg (fun h => h ⟨h0, h1⟩), if_neg (by omega), if_neg (fun h => h rfl), if_neg (fun h => by rcases h with h | h; omega; exact h e2)]
theorem known_mv {n : Nat} {at_ a : Int} {to from_ : ByteArray} (ht : hasA plA to = true) (hf : hasA plA from_ = true) : knownB plA (mvX n at_ a to from_) = true := by
 unfold knownB mvX
 simp [ht, hf]
theorem ofX_mv (c : ByteArray) (d : Int) (n : Nat) (at_ a : Int) (to from_ : ByteArray) : ofX c 0 d (mvX n at_ a to from_) = if 0 ≤ at_ ∧ at_ ≤ d then (if to = c then a else 0) + (if from_ = c then -a else 0) else 0 := by
 unfold ofX mvX
 simp only
 split
 ·unfold ofL
  simp only [List.map_cons, List.map_nil, List.sum_cons, List.sum_nil, lnW, isC, decide_eq_true_eq]
  omega
 ·rfl
theorem post_mv {E : List En} {n : Nat} {at_ a : Int} {to from_ : ByteArray} (hb : bkChk plA E (-1) = 0) (hx : enX (mvX n at_ a to from_) = 0) (hno : ∀ y ∈ E, y.1 ≠ keyT n) (ht : hasA plA to = true) (hf : hasA plA from_ = true) (h0 : 0 ≤ at_) (hl : E.length < 60) :
  postE plA E (-1) (mvX n at_ a to from_) = 0 ∧ postB E (mvX n at_ a to from_) = insE (mvX n at_ a to from_) E := by
 have hg : getE (mvX n at_ a to from_).1 E = none := by
  unfold getE
  rw [List.find?_eq_none]
  intro y hy
  rw [decide_eq_true_eq]
  exact hno y hy
 have hk := known_mv (n := n) (at_ := at_) (a := a) ht hf
 constructor
 ·unfold postE
  rw [if_neg (fun h => h hb), if_neg (fun h => h hx)]
  simp only [hg]
  rw [if_neg (by rw [hk]; simp), if_neg (by show ¬ at_ ≤ -1; omega), if_neg (by omega)]
 ·unfold postB
  simp only [hg]
theorem plain_ok : bkChk plA [] (-1) = 0 := bkChk_iff.2 ⟨plA_ok, by omega, by simp, by simp, by simp [keysE], fun i k y z _ hy => by simp at hy⟩
end Go.Acc
end
section
namespace Go.Acc
open Go
def isK (k : ByteArray) (y : En) : Bool := decide (y.1 = k)
def fiE (k : ByteArray) (E : List En) : Int := if E.any (isK k) = true then ((E.findIdx (isK k) : Nat) : Int) else -1
theorem find_idx {α : Type} (p : α → Bool) : ∀ (E : List α) (y : α), E.find? p = some y → E.any p = true ∧ E[E.findIdx p]? = some y
 | [], _, h => by simp at h
 | x :: r, y, h => by
  rw [List.find?_cons] at h
  rw [List.findIdx_cons, List.any_cons]
  cases hp : p x with
  | true => rw [hp] at h; simp at h; subst h; exact ⟨rfl, rfl⟩
  | false =>
   rw [hp] at h
   obtain ⟨h1, h2⟩ := find_idx p r y h
   exact ⟨by rw [h1]; rfl, h2⟩
theorem fiE_some {k : ByteArray} {E : List En} {y : En} (h : getE k E = some y) : ∃ i : Nat, fiE k E = (i : Int) ∧ E[i]? = some y := by
 obtain ⟨h1, h2⟩ := find_idx (isK k) E y h
 exact ⟨_, by unfold fiE; rw [if_pos h1], h2⟩
theorem fiE_none {k : ByteArray} {E : List En} (h : getE k E = none) : fiE k E = -1 := by
 unfold fiE
 rw [if_neg]
 intro ha
 obtain ⟨y, hy, hp⟩ := List.any_eq_true.1 ha
 exact getE_none h y hy (of_decide_eq_true hp)
def bsB (x : En) (E : List En) : Bool := match E[posE x E]? with
 | some y => decide (cmpE y x = 0)
 | none => false
end Go.Acc
namespace Go.Proofs.YtcmpjagpggjfiaaGreatDoor
open Go Go.Ev Go.RowKit Go.Acc
set_option maxHeartbeats 4000000
theorem indexE_sound {J : World → Prop} (hJ : Stable J) (g : FuncId) (cs : List V) (G : List V → Option (V × List Ev.Blk)) (hG : Snd Tryz.prog J g G) (hd : V.dataL cs = true) (p : En → Bool) (l : List En) (hp : ∀ n ∈ l, G (enW n :: cs) = some (.bool (p n), [])) :
  SoundAt Tryz.prog J 97 [.row 3 (l.map enW), .fn g cs] (.int .i64 (if l.any p = true then ((l.findIdx p : Nat) : Int) else -1)) [] := by
 refine SoundAt.row 0 rfl (callOk Tryz.func97 rfl rfl) fun hlen => ?_
 simp only [maxLen, List.length_map] at hlen
 refine evFn (l := [(g, G)]) (nv := nv0) (fz := fz0) (dr := dr97) (dd := dd97) (lam := []) (ms := ms0) ⟨hG, trivial⟩ hJ trivial ms0_ok Tryz.func97 rfl rfl (Nat.le_of_ble_eq_true rfl) (Nat.le_of_ble_eq_true rfl) drOk97 ?_
 dsimp only [Tryz.f97, dr97, dd97, Option.getD_some]
 refine ev_start ?_
 simp (disch := omega) only [go_sem, evP_D, evD_guard, evD_cons, evD_zero, evD_nil]
 refine evQ_loop [0, 1, 7, 8] [] (fun σ => ∃ k : Nat, (k ≤ l.length ∧ ∀ i (h : i < l.length), i < k → p l[i] = false) ∧ σ = ⟨[(0, .row 3 (l.map enW)), (1, .fn g cs), (7, .int .i64 l.length), (8, .int .i64 k)], []⟩) (fun σ => l.length - (match Ev.look 8 σ.env with | some (.int _ n) => n.toNat | _ => 0)) ?_ ?_
 ·simp only [go_sem, evP_D, evD_guard, evD_cons, evD_zero, evD_nil]
  exact ⟨refsInL_data hd, 0, ⟨Nat.zero_le _, fun _ _ h => by omega⟩, rfl⟩
 ·rintro σ ⟨k, ⟨hk, hall⟩, rfl⟩
  by_cases hlt : k < l.length
  ·have hlt' : (k : Int) < l.length := by omega
   have hg : (l.map enW)[k]? = some (.agg [.str l[k].1, .int .i64 l[k].2.1, .row 2 (l[k].2.2.map acV)]) := enW_get (c := l[k].1) (d := l[k].2.1) (l := l[k].2.2) (List.getElem?_eq_getElem hlt)
   have hpk := hp l[k] (List.getElem_mem hlt)
   simp only [enW] at hpk
   cases hb : p l[k] with
   | true =>
    rw [hb] at hpk
    have hany : l.any p = true := List.any_eq_true.2 ⟨l[k], List.getElem_mem hlt, hb⟩
    have hidx : l.findIdx p = k := (List.findIdx_eq hlt).2 ⟨hb, fun j hj => hall j (by omega) hj⟩
    simp (disch := (first | omega | assumption)) only [hlt', idx_nat, List.length_map, hg, hpk, hd, V.dataL, V.data, hany, hidx, go_sem, evP_D, evD_guard, evD_cons, evD_zero, evD_nil]
   | false =>
    rw [hb] at hpk
    simp (disch := (first | omega | assumption)) only [hlt', idx_nat, List.length_map, hg, hpk, hd, refsInL_data hd, scrubL_data hd, V.dataL, V.data, go_sem, evP_D, evD_guard, evD_cons, evD_zero, evD_nil]
    exact ⟨⟨k + 1, ⟨hlt, fun i hi hik => by
     by_cases e : i = k
     ·subst e; exact hb
     ·exact hall i hi (by omega)⟩, rfl⟩, by show l.length - ((k : Int) + 1).toNat < l.length - (k : Int).toNat; omega⟩
  ·have hk' : k = l.length := by omega
   subst hk'
   have hlt' : ¬ ((l.length : Int) < l.length) := by omega
   have hany : l.any p = false := by
    rw [List.any_eq_false]
    intro x hx
    obtain ⟨i, hi, rfl⟩ := List.mem_iff_getElem.1 hx
    simp [hall i hi hi]
   simp (disch := (first | omega | assumption)) only [hlt', hany, go_sem, evP_D, evD_guard, evD_cons, evD_zero, evD_nil]
def bfind1F : List V → Option (V × List Ev.Blk)
 | [.agg [.str c, .int .i64 n, .row 2 ls], .rd (.str k) 0] => (unAc ls).map fun _ => (.bool (decide (c = k)), [])
 | _ => none
theorem bfind1_snd {J : World → Prop} (hJ : Stable J) : Snd Tryz.prog J 98 bfind1F := by
 intro args r bs h
 unfold bfind1F at h
 split at h
 ·rename_i c n ls k
  simp only [Option.map_eq_some_iff] at h
  obtain ⟨l, hl, h⟩ := h
  obtain ⟨rfl, rfl⟩ := some_pair (congrArg some h)
  rw [unAc_eq hl]
  refine evFn (l := []) (nv := nv0) (fz := fz0) (dr := dr98) (dd := dd98) (lam := []) (ms := ms0) trivial hJ trivial ms0_ok Tryz.func98 rfl rfl (Nat.le_of_ble_eq_true rfl) (Nat.le_of_ble_eq_true rfl) drOk98 ?_
  dsimp only [Tryz.f98, dr98, dd98, Option.getD_some]
  refine ev_start ?_
  simp (disch := omega) only [bin_eql_str, go_sem, evP_D, evD_guard, evD_cons, evD_zero, evD_nil]
 ·cases h
theorem bfind_sound {J : World → Prop} (hJ : Stable J) (A : List (ByteArray × Int)) (E : List En) (s : Int) (k : ByteArray) : SoundAt Tryz.prog J 28 [bkV A E s, .str k] (.int .i64 (fiE k E)) [] := by
 have hI := indexE_sound hJ 98 [.rd (.str k) 0] bfind1F (bfind1_snd hJ) rfl (isK k) E fun n _ => by simp only [bfind1F, enW, unAc_map, Option.map_some]; rfl
 unfold bkV
 refine evFn (l := [(97, at1 [.row 3 (E.map enW), .fn 98 [.rd (.str k) 0]] (.int .i64 (fiE k E), []))]) (nv := nv0) (fz := fz0) (dr := dr28) (dd := dd28) (lam := []) (ms := ms0) ⟨at1_snd hI, trivial⟩ hJ trivial ms0_ok Tryz.func28 rfl rfl (Nat.le_of_ble_eq_true rfl) (Nat.le_of_ble_eq_true rfl) drOk28 ?_
 dsimp only [Tryz.f28, dr28, dd28, Option.getD_some]
 refine ev_start ?_
 simp (disch := omega) only [at1_eq, List.mapM_cons, List.mapM_nil, Option.bind_eq_bind, Option.pure_def, Option.bind_some, go_sem, evP_D, evD_guard, evD_cons, evD_zero, evD_nil]
theorem esame_sound {J : World → Prop} (hJ : Stable J) (x y : En) : SoundAt Tryz.prog J 29 [enW x, enW y] (.bool (decide (x = y))) [] := by
 obtain ⟨k, d, l⟩ := x
 obtain ⟨k', d', l'⟩ := y
 unfold enW
 by_cases hk : k = k'
 ·subst hk
  by_cases hd : d = d'
  ·subst hd
   have e : decide ((k, d, l) = (k, d, l')) = decide (l = l') := by simp
   refine evFn (l := [(99, eqLF)]) (nv := nv0) (fz := fz0) (dr := dr29) (dd := dd29) (lam := []) (ms := ms0) ⟨eqL_snd hJ, trivial⟩ hJ trivial ms0_ok Tryz.func29 rfl rfl (Nat.le_of_ble_eq_true rfl) (Nat.le_of_ble_eq_true rfl) drOk29 ?_
   dsimp only [Tryz.f29, dr29, dd29, Option.getD_some]
   refine ev_start ?_
   simp (disch := omega) only [eqLF_rows, bin_eql_str, decide_true, e, go_sem, evP_D, evD_guard, evD_cons, evD_zero, evD_nil]
  ·have e : decide ((k, d, l) = (k, d', l')) = false := by simp [hd]
   refine evFn (l := [(99, eqLF)]) (nv := nv0) (fz := fz0) (dr := dr29) (dd := dd29) (lam := []) (ms := ms0) ⟨eqL_snd hJ, trivial⟩ hJ trivial ms0_ok Tryz.func29 rfl rfl (Nat.le_of_ble_eq_true rfl) (Nat.le_of_ble_eq_true rfl) drOk29 ?_
   dsimp only [Tryz.f29, dr29, dd29, Option.getD_some]
   refine ev_start ?_
   simp (disch := omega) only [eqLF_rows, bin_eql_str, decide_true, hd, e, go_sem, evP_D, evD_guard, evD_cons, evD_zero, evD_nil]
 ·have e : decide ((k, d, l) = (k', d', l')) = false := by simp [hk]
  have hk' := decide_eq_false hk
  refine evFn (l := [(99, eqLF)]) (nv := nv0) (fz := fz0) (dr := dr29) (dd := dd29) (lam := []) (ms := ms0) ⟨eqL_snd hJ, trivial⟩ hJ trivial ms0_ok Tryz.func29 rfl rfl (Nat.le_of_ble_eq_true rfl) (Nat.le_of_ble_eq_true rfl) drOk29 ?_
  dsimp only [Tryz.f29, dr29, dd29, Option.getD_some]
  refine ev_start ?_
  simp (disch := omega) only [eqLF_rows, bin_eql_str, hk', e, go_sem, evP_D, evD_guard, evD_cons, evD_zero, evD_nil]
end Go.Proofs.YtcmpjagpggjfiaaGreatDoor
end
section
namespace Go.Acc
open Go
theorem posE_mid {x : En} {E : List En} (hs : srtE E) {h : Nat} {y : En} (hy : E[h]? = some y) : (ltB y x = true → ∀ (k : Nat) z, k ≤ h → E[k]? = some z → ltB z x = true) ∧ (ltB y x = false → ∀ (k : Nat) z, h ≤ k → E[k]? = some z → ltB z x = false) := by
 constructor
 ·intro hl k z hk hz
  rcases Nat.lt_or_ge k h with hkh | hkh
  ·exact ltB_trans (hs k h z y hkh hz hy) hl
  ·have e : k = h := by omega
   subst e
   rw [hy] at hz
   cases hz
   exact hl
 ·intro hl k z hk hz
  rcases Nat.lt_or_ge h k with hkh | hkh
  ·cases hzx : ltB z x with
   | false => rfl
   | true =>
    have := ltB_trans (hs h k y z hkh hy hz) hzx
    rw [hl] at this
    cases this
  ·have e : k = h := by omega
   subst e
   rw [hy] at hz
   cases hz
   exact hl
end Go.Acc
namespace Go.Proofs.YtcmpjagpggjfiaaGreatDoor
open Go Go.Ev Go.RowKit Go.Acc
set_option maxHeartbeats 4000000
theorem half_shr (n : Nat) : binV .shr (.int .u64 ((n : Nat) : Int)) (.int .u64 1) = some (.int .u64 ((n / 2 : Nat) : Int)) := by
 have h : (2 ^ (min (Int.toNat 1) IntKind.u64.bits) : Int) = 2 := rfl
 have e : binV .shr (.int .u64 ((n : Nat) : Int)) (.int .u64 1) = some (.int .u64 (Int.fdiv ((n : Nat) : Int) (2 ^ (min (Int.toNat 1) IntKind.u64.bits)))) := by unfold binV; simp
 rw [e, h, Int.fdiv_eq_ediv_of_nonneg _ (by omega)]
 rfl
set_option maxHeartbeats 4000000 in
theorem bse_sound {J : World → Prop} (hJ : Stable J) (E : List En) (x : En) (hs : srtE E) (hE : ∀ y ∈ E, 0 ≤ y.2.1 ∧ y.2.1 ≤ 292193) (hx : 0 ≤ x.2.1 ∧ x.2.1 ≤ 292193) (hl : E.length ≤ 60) :
  SoundAt Tryz.prog J 33 [.row 3 (E.map enW), enW x, .fn 34 []] (.tup [.int .i64 (posE x E), .bool (bsB x E)]) [] := by
 obtain ⟨xk, xd, xl⟩ := x
 simp only at hx
 unfold enW
 refine evFn (l := [(34, cmpF)]) (nv := nv0) (fz := fz0) (dr := dr33) (dd := dd33) (lam := []) (ms := ms0) ⟨cmp_snd hJ, trivial⟩ hJ trivial ms0_ok Tryz.func33 rfl rfl (Nat.le_of_ble_eq_true rfl) (Nat.le_of_ble_eq_true rfl) drOk33 ?_
 dsimp only [Tryz.f33, dr33, dd33, Option.getD_some]
 refine ev_start ?_
 simp (disch := omega) only [List.length_map, go_sem, evP_D, evD_guard, evD_cons, evD_zero, evD_nil]
 refine evQ_loop [0, 2, 4, 8, 9, 10] [32] (fun σ => ∃ i j : Nat, (i ≤ j ∧ j ≤ E.length ∧ (∀ (k : Nat) y, k < i → E[k]? = some y → ltB y (xk, xd, xl) = true) ∧ (∀ (k : Nat) y, j ≤ k → E[k]? = some y → ltB y (xk, xd, xl) = false)) ∧
   σ = ⟨[(0, .row 3 (E.map enW)), (2, .fn 34 []), (4, .ptr 32 0), (8, .int .i64 E.length), (9, .int .i64 i), (10, .int .i64 j)], [(32, .box (.agg [.str xk, .int .i64 xd, .row 2 (xl.map acV)]))]⟩)
  (fun σ => (match Ev.look 10 σ.env with | some (.int _ n) => n.toNat | _ => 0) - (match Ev.look 9 σ.env with | some (.int _ n) => n.toNat | _ => 0)) ?_ ?_
 ·simp only [go_sem, evP_D, evD_guard, evD_cons, evD_zero, evD_nil]
  exact ⟨0, E.length, ⟨Nat.zero_le _, Nat.le_refl _, fun _ _ h => by omega, fun k y hk hy => by have := (List.getElem?_eq_some_iff.1 hy).1; omega⟩, rfl⟩
 ·rintro σ ⟨i, j, ⟨hij, hj, h1, h2⟩, rfl⟩
  by_cases hlt : i < j
  ·have hlt' : (i : Int) < j := by omega
   have hlt1 : (i + j) / 2 < E.length := by omega
   obtain ⟨⟨c, d, l⟩, hcn⟩ : ∃ p, E[(i + j) / 2]? = some p := ⟨_, List.getElem?_eq_getElem hlt1⟩
   have hg := enW_get hcn
   have hdd := hE _ (List.mem_of_getElem? hcn)
   simp only at hdd
   have hc := cmpF_eq (a := c) (b := xk) (d := d) (e := xd) (l := l) (m := xl) hdd hx
   have w1 : IntKind.i64.wrap ((i : Int) + (j : Int)) = ((i + j : Nat) : Int) := by rw [IntKind.wrap_i64]; omega
   have w2 : IntKind.u64.wrap ((i + j : Nat) : Int) = ((i + j : Nat) : Int) := by simp [IntKind.wrap, IntKind.bits, IntKind.signed]; omega
   have w3 : IntKind.i64.wrap (((i + j) / 2 : Nat) : Int) = (((i + j) / 2 : Nat) : Int) := by rw [IntKind.wrap_i64]; omega
   have hm := posE_mid (x := (xk, xd, xl)) hs hcn
   cases hb : ltB (c, d, l) (xk, xd, xl) with
   | true =>
    have hneg : cmpE (c, d, l) (xk, xd, xl) < 0 := by
     have := (cmpE_ge (c, d, l) (xk, xd, xl))
     rw [hb] at this
     simp only [reduceCtorEq, iff_false] at this
     omega
    simp (disch := (first | omega | assumption)) only [hlt', w1, w2, w3, half_shr, idx_nat, List.length_map, hg, hc, hneg, go_sem, evP_D, evD_guard, evD_cons, evD_zero, evD_nil]
    refine ⟨⟨(i + j) / 2 + 1, j, ⟨by omega, hj, fun k y hk hy => hm.1 hb k y (by omega) hy, h2⟩, rfl⟩, ?_⟩
    have e3 : ((((i + j) / 2 : Nat) : Int) + 1).toNat = (i + j) / 2 + 1 := by omega
    rw [e3, Int.toNat_natCast, Int.toNat_natCast]
    omega
   | false =>
    have hneg : ¬ cmpE (c, d, l) (xk, xd, xl) < 0 := by
     have := (cmpE_ge (c, d, l) (xk, xd, xl)).2 hb
     omega
    simp (disch := (first | omega | assumption)) only [hlt', w1, w2, w3, half_shr, idx_nat, List.length_map, hg, hc, hneg, go_sem, evP_D, evD_guard, evD_cons, evD_zero, evD_nil]
    refine ⟨⟨i, (i + j) / 2, ⟨by omega, by omega, h1, fun k y hk hy => hm.2 hb k y hk hy⟩, rfl⟩, ?_⟩
    rw [Int.toNat_natCast, Int.toNat_natCast, Int.toNat_natCast]
    omega
  ·have hij' : i = j := by omega
   subst hij'
   have hlt' : ¬ ((i : Int) < (i : Int)) := by omega
   have hp := posE_uniq (xk, xd, xl) E i hj h1 h2
   rw [hp]
   by_cases hi : i < E.length
   ·have hi' : (i : Int) < E.length := by omega
    obtain ⟨⟨c, d, l⟩, hcn⟩ : ∃ p, E[i]? = some p := ⟨_, List.getElem?_eq_getElem hi⟩
    have hg := enW_get hcn
    have hdd := hE _ (List.mem_of_getElem? hcn)
    simp only at hdd
    have hc := cmpF_eq (a := c) (b := xk) (d := d) (e := xd) (l := l) (m := xl) hdd hx
    have hbs : bsB (xk, xd, xl) E = decide (cmpE (c, d, l) (xk, xd, xl) = 0) := by unfold bsB; rw [hp, hcn]
    by_cases h0 : cmpE (c, d, l) (xk, xd, xl) = 0
    ·have h0' := decide_eq_true h0
     simp (disch := (first | omega | assumption)) only [hlt', hi', idx_nat, List.length_map, hg, hc, hbs, h0, go_sem, evP_D, evD_guard, evD_cons, evD_zero, evD_nil]
    ·have h0' := decide_eq_false h0
     simp (disch := (first | omega | assumption)) only [hlt', hi', idx_nat, List.length_map, hg, hc, hbs, h0, go_sem, evP_D, evD_guard, evD_cons, evD_zero, evD_nil]
   ·have hi' : ¬ ((i : Int) < E.length) := by omega
    have hbs : bsB (xk, xd, xl) E = false := by unfold bsB; rw [hp, List.getElem?_eq_none (by omega)]
    simp (disch := (first | omega | assumption)) only [hlt', hi', hbs, go_sem, evP_D, evD_guard, evD_cons, evD_zero, evD_nil]
end Go.Proofs.YtcmpjagpggjfiaaGreatDoor
end
section
namespace Go.Proofs.YtcmpjagpggjfiaaGreatDoor
open Go Go.Ev Go.RowKit Go.Acc
def unEn : List V → Option (List En)
 | [] => some []
 | .agg [.str k, .int .i64 d, .row 2 es] :: r => match unAc es, unEn r with
  | some l, some E => some ((k, d, l) :: E)
  | _, _ => none
 | _ => none
theorem unEn_map : ∀ E : List En, unEn (E.map enW) = some E
 | [] => rfl
 | (k, d, l) :: E => by simp only [List.map_cons, enW, unEn, unAc_map]; rw [show unEn (List.map enW E) = some E from unEn_map E]
end Go.Proofs.YtcmpjagpggjfiaaGreatDoor
end
section
namespace Go.Acc
open Go.Proofs.YtcmpjagpggjfiaaGreatDoor
open Go Go.Ev
def runB (A : List (ByteArray × Int)) (s : Int) : List En → List En → Int × List En
 | E, [] => (0, E)
 | E, x :: r => if postE A E s x = 0 then runB A s (postB E x) r else (postE A E s x, [])
/-! ### the sum of everything -/
/-! ### closing -/
def clsB (E : List En) (day : Int) (a : ByteArray × Int) : Bool := decide (ofB a.1 0 day E ≠ 0) && (decide (a.2 = 3) || decide (a.2 = 4))
def clsL (E : List En) (day : Int) (A : List (ByteArray × Int)) : List (ByteArray × Int) := (A.filter (clsB E day)).map fun a => (a.1, -(ofB a.1 0 day E))
def clsS (E : List En) (day : Int) (A : List (ByteArray × Int)) : Int := ((A.filter (clsB E day)).map fun a => ofB a.1 0 day E).sum
def clsX (key : ByteArray) (E : List En) (day : Int) (code : ByteArray) (A : List (ByteArray × Int)) : En := (key, day, clsL E day A ++ if clsS E day A ≠ 0 then [(code, clsS E day A)] else [])
end Go.Acc
end
section
namespace Go.Proofs.YtcmpjagpggjfiaaGreatDoor
open Go Go.Ev Go.RowKit Go.Acc
set_option maxHeartbeats 4000000
theorem idx5_0 : idx 5 0 = some 0 := by decide
theorem idx5_1 : idx 5 1 = some 1 := by decide
theorem idx5_2 : idx 5 2 = some 2 := by decide
theorem idx5_3 : idx 5 3 = some 3 := by decide
theorem idx5_4 : idx 5 4 = some 4 := by decide
def kdV (E : List En) (f t : Int) (A : List (ByteArray × Int)) : V := .agg [.int .i64 (kdS E f t 0 A), .int .i64 (kdS E f t 1 A), .int .i64 (kdS E f t 2 A), .int .i64 (kdS E f t 3 A), .int .i64 (kdS E f t 4 A)]
theorem kdS_succ {E : List En} {f t i : Int} {A : List (ByteArray × Int)} {k : Nat} {c : ByteArray} {d : Int} (h : A[k]? = some (c, d)) : kdS E f t i (A.take (k + 1)) = kdS E f t i (A.take k) + if d = i then ofB c f t E else 0 :=
 sum_take (fun a : ByteArray × Int => if a.2 = i then ofB a.1 f t E else 0) h
set_option maxHeartbeats 8000000 in
theorem kinds_sound {J : World → Prop} (hJ : Stable J) (A : List (ByteArray × Int)) (E : List En) (s f t : Int) (hc : bkChk A E s = 0) :
  SoundAt Tryz.prog J 177 [bkV A E s, .int .i64 f, .int .i64 t] (kdV E f t A) [] := by
 obtain ⟨h1, _, h3, h4⟩ := bkChk_ok hc
 have hEn : ∀ x ∈ E, enX x = 0 := fun x hx => (h4 x hx).1
 have hA24 := (acChk_codes h1).1
 have hkd := (acChk_codes h1).2.1
 obtain ⟨OF, hOF, hOFs⟩ := of_ex hJ A E s f t hEn h3
 unfold bkV kdV
 refine evFn (l := [(39, OF)]) (nv := nv0) (fz := fz0) (dr := dr177) (dd := dd177) (lam := []) (ms := ms0) ⟨hOFs, trivial⟩ hJ trivial ms0_ok Tryz.func177 rfl rfl (Nat.le_of_ble_eq_true rfl) (Nat.le_of_ble_eq_true rfl) drOk177 ?_
 dsimp only [Tryz.f177, dr177, dd177, Option.getD_some]
 refine ev_start ?_
 simp (disch := omega) only [List.length_map, go_sem, evP_D, evD_guard, evD_cons, evD_zero, evD_nil]
 refine evQ_loop [1, 2, 3, 6, 7, 11, 12, 13] [24, 48, 56] (fun σ => ∃ (k : Nat), k ≤ A.length ∧ σ = ⟨[(1, .int .i64 f), (2, .int .i64 t), (3, .ptr 24 0), (6, .ptr 48 0), (7, .ptr 56 0), (11, .row 2 (A.map acV)), (12, .int .i64 A.length), (13, .int .i64 k)], [(24, .box (.agg [.row 2 (A.map acV), .row 3 (E.map enW), .int .i64 s])), (48, .box (.agg [.int .i64 0, .int .i64 0, .int .i64 0, .int .i64 0, .int .i64 0])), (56, .box (kdV E f t (A.take k)))]⟩)
  (fun σ => A.length - (match Ev.look 13 σ.env with | some (.int _ n) => n.toNat | _ => 0)) ?_ ?_
 ·simp only [go_sem, evP_D, evD_guard, evD_cons, evD_zero, evD_nil]
  exact ⟨0, Nat.zero_le _, rfl⟩
 ·rintro σ ⟨k, hkl, rfl⟩
  by_cases hlt : k < A.length
  ·have hlt' : (k : Int) < A.length := by omega
   obtain ⟨⟨c, kd⟩, hcn⟩ : ∃ p, A[k]? = some p := ⟨_, List.getElem?_eq_getElem hlt⟩
   have hg := acV_get hcn
   have hk4 := hkd _ (List.mem_of_getElem? hcn)
   simp only at hk4
   have s0 := kdS_succ (E := E) (f := f) (t := t) (i := 0) hcn
   have s1 := kdS_succ (E := E) (f := f) (t := t) (i := 1) hcn
   have s2 := kdS_succ (E := E) (f := f) (t := t) (i := 2) hcn
   have s3 := kdS_succ (E := E) (f := f) (t := t) (i := 3) hcn
   have s4 := kdS_succ (E := E) (f := f) (t := t) (i := 4) hcn
   have b0 := kdS_bd hEn h3 f t 0 hA24 k
   have b1 := kdS_bd hEn h3 f t 1 hA24 k
   have b2 := kdS_bd hEn h3 f t 2 hA24 k
   have b3 := kdS_bd hEn h3 f t 3 hA24 k
   have b4 := kdS_bd hEn h3 f t 4 hA24 k
   have bO := ofB_bd c f t hEn h3
   have hms : A.length - ((k : Int) + 1).toNat < A.length - (k : Int).toNat := by
    have e3 : ((k : Int) + 1).toNat = k + 1 := by omega
    rw [e3, Int.toNat_natCast]; exact Nat.sub_lt_sub_left hlt (Nat.lt_succ_self k)
   unfold kdV
   have h5 : kd = 0 ∨ kd = 1 ∨ kd = 2 ∨ kd = 3 ∨ kd = 4 := by omega
   rcases h5 with rfl | rfl | rfl | rfl | rfl
   all_goals
    simp (disch := (first | omega | assumption)) only [hlt', idx_nat, List.length_map, hg, hOF, idx5_0, idx5_1, idx5_2, idx5_3, idx5_4, go_sem, evP_D, evD_guard, evD_cons, evD_zero, evD_nil]
    refine ⟨⟨k + 1, hlt, ?_⟩, hms⟩
    rw [s0, s1, s2, s3, s4]
    simp only [Int.reduceEq, if_false, if_true, Int.add_zero, Int.natCast_add, Int.natCast_one]
  ·have hk' : k = A.length := by omega
   subst hk'
   have hlt' : ¬ ((A.length : Int) < A.length) := by omega
   unfold kdV
   simp (disch := (first | omega | assumption)) only [hlt', List.take_length, go_sem, evP_D, evD_guard, evD_cons, evD_zero, evD_nil]
end Go.Proofs.YtcmpjagpggjfiaaGreatDoor
end
