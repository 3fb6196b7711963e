/-
  Dec of a number that is not negative.
-/
import Derived.Test.YtcmpjagpggjfiaaGreatDoorT21
import Derived.Test.YtcmpjagpggjfiaaGreatDoorT01
namespace Go.Dk
open Go Go.Acc Go.Lg
theorem decF_itoa : ∀ (k n : Nat), n < 10 ^ (k + 1) → decF k n = ⟨(Lib.decDigits n).toArray⟩
 | 0, n, h => by
  have h10 : n < 10 := by simpa using h
  rw [Lib.decDigits_one h10]
  show digB n = _
  have : ∀ m : Fin 10, digB m.val = ⟨[UInt8.ofNat (48 + m.val)].toArray⟩ := by decide +kernel
  exact this ⟨n, h10⟩
 | k + 1, n, h => by
  by_cases h10 : n < 10
  ·rw [decF_lt _ h10, ← decF_lt 0 h10]
   exact decF_itoa 0 n (by simpa using h10)
  ·have d1 : n / 10 < 10 ^ (k + 1) := by rw [Nat.div_lt_iff_lt_mul (by omega)]; rw [Nat.pow_succ] at h; exact h
   have e : decF (k + 1) n = decF k (n / 10) ++ digB (n % 10) := by rw [decF]; exact if_neg h10
   have e2 : digB (n % 10) = decF 0 (n % 10) := rfl
   rw [e, e2, decF_itoa k _ d1, decF_itoa 0 _ (by have := Nat.mod_lt n (show 0 < 10 by omega); simpa using this), Lib.decDigits_one (Nat.mod_lt _ (by omega))]
   refine ba_ext ?_
   have e3 : Lib.decDigits n = Lib.decDigits (n / 10) ++ [UInt8.ofNat (48 + n % 10)] := by rw [Lib.decDigits, dif_neg h10]
   rw [e3]
   simp
end Go.Dk
namespace Go.Proofs.YtcmpjagpggjfiaaGreatDoor
open Go Go.Ev Go.RowKit Go.Acc Go.Lg Go.Dk
theorem dec_pos {J : World → Prop} (hJ : Stable J) (n : Int) (h0 : 0 ≤ n) (h1 : n ≤ 1000000000000000000) : SoundAt Tryz.prog J 5 [.int .i64 n] (.str (itoaB n)) [] := by
 obtain ⟨m, rfl⟩ : ∃ m : Nat, n = m := ⟨n.toNat, by omega⟩
 have e : itoaB (m : Int) = ⟨(Lib.decDigits m).toArray⟩ := by
  unfold itoaB Lib.itoa
  rw [if_neg (by omega), Int.toNat_natCast]
 have hm : m ≤ 1000000000000000000 := by omega
 rw [e, ← decF_itoa 18 m (Nat.lt_of_le_of_lt hm (by decide))]
 exact dec_nat hJ 18 m (Nat.lt_of_le_of_lt hm (by decide)) (Nat.le_refl _) (by omega)
end Go.Proofs.YtcmpjagpggjfiaaGreatDoor
