/-
  The keys of parts, walked: bytes as a string.
-/
import Derived.Test.YtdmkmbaaemhhhaaDoorJobH
import Derived.WalkKit
import Derived.BigCall
import Derived.BigGuard
import Derived.BigQuiet
namespace Go.Proofs.YtdmkmbaaemhhhaaDoor
open Go Go.Ev Go.RowKit Go.Job Go.Acc Go.Lib
theorem u8_of {a : Nat} (h : a < 10) : (((48 + a).toUInt8.toNat : Nat) : Int) = 48 + a := by
  have : (48 + a).toUInt8.toNat = 48 + a := by
    rw [Nat.toUInt8, UInt8.toNat_ofNat']
    omega
  omega
set_option maxHeartbeats 1000000 in
set_option maxRecDepth 100000 in
theorem jkey_any (s d c : ByteArray) (a1 a2 a3 a4 : Int) (k a b : Nat) (hs : s.size ≤ 9) (ha : (k : Int).tdiv 10 = a) (hb : (k : Int).tmod 10 = b) (ha2 : a < 10) (hb2 : b < 10) (w : World) :
    Calls Tryd.prog 24 #[.agg #[.string s, .int .i64 a1, .int .i64 a2, .int .i64 a3, .int .i64 a4, .string d, .string c], .int .i64 k] w fun e w' => e = .returned (.string (s ++ ⟨#[45]⟩ ++ ⟨#[(48 + a).toUInt8, (48 + b).toUInt8]⟩)) ∧ Below w.heap.size w w' := by
  have mixed := mixOk
  have hconv : ∀ (W : World), W.cell? ⟨w.heap.size + 1, 0, none⟩ = some (.int .u8 (48 + (a : Int))) → W.cell? ⟨w.heap.size + 1, 1, none⟩ = some (.int .u8 (48 + (b : Int))) →
      (convert 97 9 (.slice (some ⟨w.heap.size + 1, 0, none⟩) 2 2)).run Tryd.prog W = .ok (.string ⟨#[(48 + a).toUInt8, (48 + b).toUInt8]⟩) W := by
    intro W h0 h1
    refine run_convert_bytes_back W 97 9 5 ⟨w.heap.size + 1, 0, none⟩ 2 [(48 + a).toUInt8, (48 + b).toUInt8] (by kernel_rfl) (by kernel_rfl) (by kernel_rfl) fun j hj => ?_
    match j, hj with
    | 0, _ => simp only [List.getElem_cons_zero]; rw [u8_of ha2]; exact h0
    | 1, _ => simp only [List.getElem_cons_succ, List.getElem_cons_zero]; rw [u8_of hb2]; exact h1
    | _ + 2, hj => simp at hj; omega
  go_enter Tryd.func24, Tryd.ntmps24
  go_wp2
  refine bodyPost_ret (v := Value.string (s ++ ⟨#[45]⟩ ++ ⟨#[(48 + a).toUInt8, (48 + b).toUInt8]⟩)) (by simp [results, Tryd.results24, go_sem]) rfl ⟨rfl, ?_⟩
  (repeat' (first | (with_reducible exact Below.refl _ _) | (with_reducible assumption) | (with_reducible refine Below.alloc ?_ ?_ _) | (with_reducible refine Below.drew ?_) | (with_reducible refine below_drewN ?_ _) | (with_reducible refine Below.setCell ?_ ?_ _) | go_size))
theorem jkey_sound {J : World → Prop} (p : Pl) (k : Nat) (hs : p.key.size ≤ 9) (hk : k < 100) : SoundAt Tryd.prog J 24 [plV p, .int .i64 k] (.str (keyP p k)) [] := by
  have t1 : (k : Int).tdiv 10 = ((k / 10 : Nat) : Int) := by rw [Int.tdiv_eq_ediv_of_nonneg (by omega)]; omega
  have t2 : (k : Int).tmod 10 = ((k % 10 : Nat) : Int) := by rw [Int.tmod_eq_emod_of_nonneg (by omega)]; omega
  exact sound_plain (callOk Tryd.func24 rfl rfl) rfl rfl fun w _ => jkey_any p.key p.deb p.cre p.kind p.at_ p.amt p.num k (k / 10) (k % 10) hs t1 t2 (by omega) (by omega) w
end Go.Proofs.YtdmkmbaaemhhhaaDoor
