/-
  Steps of the proof of LogSays: TsE DecE.
-/
import Derived.Test.YtdmkmbaaemhhhaaGreatDoorL19
set_option linter.unusedVariables false
set_option linter.unusedSimpArgs false
section
namespace Go.Proofs.YtdmkmbaaemhhhaaGreatDoor
open Go Go.Ev Go.RowKit Go.Acc
theorem fam_ex {P : Program} {J : World → Prop} {f : FuncId} {α : Type} (a : α → List V) (r : α → V × List Ev.Blk) (hi : ∀ i j, a i = a j → r i = r j) (h : ∀ i, SoundAt P J f (a i) (r i).1 (r i).2) :
  ∃ F : List V → Option (V × List Ev.Blk), (∀ i, F (a i) = some (r i)) ∧ Snd P J f F := by
 refine ⟨fun x => open Classical in if h : ∃ i, a i = x then some (r h.choose) else none, fun i => ?_, fun args r' bs h' => ?_⟩
 ·have hx : ∃ j, a j = a i := ⟨i, rfl⟩
  simp only [dif_pos hx]
  rw [hi _ _ hx.choose_spec]
 ·by_cases hx : ∃ i, a i = args
  ·simp only [dif_pos hx] at h'
   have e := Option.some.inj h'
   have := h hx.choose
   rw [e, hx.choose_spec] at this
   exact this
  ·simp only [dif_neg hx] at h'
   cases h'
end Go.Proofs.YtdmkmbaaemhhhaaGreatDoor
end
section
namespace Go.Acc
open Go
def digB (n : Nat) : ByteArray := (⟨#[48, 49, 50, 51, 52, 53, 54, 55, 56, 57]⟩ : ByteArray).extract n (n + 1)
def decF : Nat → Nat → ByteArray
 | 0, n => digB n
 | k + 1, n => if n < 10 then digB n else decF k (n / 10) ++ digB (n % 10)
theorem decF_lt (k : Nat) {n : Nat} (h : n < 10) : decF k n = digB n := by
 cases k with
 | zero => rfl
 | succ k => unfold decF; rw [if_pos h]
theorem digB_size {n : Nat} (h : n < 10) : (digB n).size = 1 := by
 unfold digB
 rw [ByteArray.size_extract]
 have : (⟨#[48, 49, 50, 51, 52, 53, 54, 55, 56, 57]⟩ : ByteArray).size = 10 := rfl
 omega
theorem decF_size : ∀ (k n : Nat), n < 10 ^ (k + 1) → (decF k n).size ≤ k + 1
 | 0, n, h => by
  have h10 : n < 10 := by simpa using h
  show (digB n).size ≤ 1
  rw [digB_size h10]
  exact Nat.le_refl _
 | k + 1, n, h => by
  unfold decF
  split
  ·rename_i h10; rw [digB_size h10]; omega
  ·have h1 : n / 10 < 10 ^ (k + 1) := by rw [Nat.div_lt_iff_lt_mul (by omega)]; rw [Nat.pow_succ] at h; exact h
   have := decF_size k (n / 10) h1
   rw [ByteArray.size_append, digB_size (Nat.mod_lt _ (by omega))]
   omega
end Go.Acc
namespace Go.Proofs.YtdmkmbaaemhhhaaGreatDoor
open Go Go.Ev Go.RowKit Go.Acc
set_option maxHeartbeats 4000000
theorem bin_add_str {x y : ByteArray} (h : ((x.size + y.size : Nat) : Int) ≤ 9223372036854775807) : binV .add (.str x) (.str y) = some (.str (x ++ y)) := by
 unfold binV
 exact if_pos (by omega)
theorem dec_small {J : World → Prop} (hJ : Stable J) (n : Nat) (h : n < 10) : SoundAt Tryz.prog J 60 [.int .i64 n] (.str (digB n)) [] := by
 have h0 : ¬ (n : Int) < 0 := by omega
 have h1 : (n : Int) < 10 := by omega
 have hs : ByteArray.size (⟨#[48, 49, 50, 51, 52, 53, 54, 55, 56, 57]⟩ : ByteArray) = 10 := rfl
 have e1 : ((n : Int)).toNat = n := by omega
 have e2 : ((n : Int) + 1).toNat = n + 1 := by omega
 have c1 : (n : Int) + 1 ≤ 10 := by omega
 have c2 : (n : Int) ≤ ((n + 1 : Nat) : Int) := by omega
 have c3 : 0 ≤ (n : Int) + 1 := by omega
 have c4 : 0 ≤ (n : Int) := by omega
 have hd : digB n = (⟨#[48, 49, 50, 51, 52, 53, 54, 55, 56, 57]⟩ : ByteArray).extract n (n + 1) := rfl
 rw [hd]
 refine evFn (l := []) (nv := nv0) (fz := fz0) (dr := dr60) (dd := dd60) (lam := []) (ms := ms0) trivial hJ trivial ms0_ok Tryz.func60 rfl rfl (Nat.le_of_ble_eq_true rfl) (Nat.le_of_ble_eq_true rfl) drOk60 ?_
 dsimp only [Tryz.f60, dr60, dd60, Option.getD_some]
 refine ev_start ?_
 simp (disch := omega) only [h0, h1, hs, c1, c2, c3, c4, e1, e2, and_self, go_sem, evP_D, evD_guard, evD_cons, evD_zero, evD_nil]
theorem dec_nat {J : World → Prop} (hJ : Stable J) : ∀ (k n : Nat), n < 10 ^ (k + 1) → k ≤ 18 → (n : Int) ≤ 9223372036854775807 → SoundAt Tryz.prog J 60 [.int .i64 n] (.str (decF k n)) []
 | 0, n, h, _, _ => dec_small hJ n (by simpa using h)
 | k + 1, n, h, hk, hn => by
  by_cases h10 : n < 10
  ·rw [decF_lt _ h10]; exact dec_small hJ n h10
  obtain ⟨DF, hDF, hDFs⟩ := fam_ex (f := 60) (fun m : { m : Nat // m < 10 ^ (k + 1) ∧ (m : Int) ≤ 9223372036854775807 } => [V.int .i64 (m.1 : Int)]) (fun m => (V.str (decF k m.1), [])) (fun i j hij => by
   simp only [List.cons.injEq, V.int.injEq, true_and, and_true] at hij
   have : i.1 = j.1 := by omega
   rw [this]) (fun m => dec_nat hJ k m.1 m.2.1 (by omega) m.2.2)
  have hq : (n : Int).tdiv 10 = ((n / 10 : Nat) : Int) := rfl
  have hr : (n : Int).tmod 10 = ((n % 10 : Nat) : Int) := rfl
  have d1 : n / 10 < 10 ^ (k + 1) := by rw [Nat.div_lt_iff_lt_mul (by omega)]; rw [Nat.pow_succ] at h; exact h
  have hp : 10 ≤ 10 ^ (k + 1) := by rw [Nat.pow_succ]; have : 0 < 10 ^ k := Nat.pow_pos (by omega); omega
  have m1 := Nat.mod_lt n (show 0 < 10 by omega)
  have f1 := hDF ⟨n / 10, d1, by omega⟩
  have f2 := hDF ⟨n % 10, by omega, by omega⟩
  simp only [decF_lt k m1] at f1 f2
  have s1 := decF_size k (n / 10) d1
  have s2 := digB_size m1
  have e : decF (k + 1) n = decF k (n / 10) ++ digB (n % 10) := by rw [decF]; exact if_neg h10
  have h0 : ¬ (n : Int) < 0 := by omega
  have h1 : ¬ (n : Int) < 10 := by omega
  have w1 : IntKind.i64.wrap ((n / 10 : Nat) : Int) = ((n / 10 : Nat) : Int) := by rw [IntKind.wrap_i64]; omega
  rw [e]
  generalize n / 10 = Q at *
  generalize n % 10 = R at *
  refine evFn (l := [(60, DF)]) (nv := nv0) (fz := fz0) (dr := dr60) (dd := dd60) (lam := []) (ms := ms0) ⟨hDFs, trivial⟩ hJ trivial ms0_ok Tryz.func60 rfl rfl (Nat.le_of_ble_eq_true rfl) (Nat.le_of_ble_eq_true rfl) drOk60 ?_
  dsimp only [Tryz.f60, dr60, dd60, Option.getD_some]
  refine ev_start ?_
  simp (disch := omega) only [h0, h1, hq, hr, w1, f1, f2, bin_add_str, go_sem, evP_D, evD_guard, evD_cons, evD_zero, evD_nil]
end Go.Proofs.YtdmkmbaaemhhhaaGreatDoor
end
