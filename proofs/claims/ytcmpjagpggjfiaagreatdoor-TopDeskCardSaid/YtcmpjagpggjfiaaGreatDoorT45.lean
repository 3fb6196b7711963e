/-
  Steps of the proof of TopDesk: DkW DkK.
-/
import Derived.Test.YtcmpjagpggjfiaaGreatDoorT43
import Derived.Test.YtcmpjagpggjfiaaGreatDoorT33
import Derived.Test.YtcmpjagpggjfiaaGreatDoorT29
set_option linter.unusedVariables false
set_option linter.unusedSimpArgs false
section
namespace Go.Proofs.YtcmpjagpggjfiaaGreatDoor
open Go Go.Ev Go.RowKit Go.Acc Go.Dk Go.Lg
def wAcct : ByteArray := ⟨#[97, 99, 99, 116]⟩
def wPost : ByteArray := ⟨#[112, 111, 115, 116]⟩
def wClose : ByteArray := ⟨#[99, 108, 111, 115, 101]⟩
def wUndo : ByteArray := ⟨#[117, 110, 100, 111]⟩
def wPlan : ByteArray := ⟨#[112, 108, 97, 110]⟩
def wRun : ByteArray := ⟨#[114, 117, 110]⟩
def wBalance : ByteArray := ⟨#[98, 97, 108, 97, 110, 99, 101]⟩
def wProfit : ByteArray := ⟨#[112, 114, 111, 102, 105, 116]⟩
def wTrial : ByteArray := ⟨#[116, 114, 105, 97, 108]⟩
def okT : ByteArray := ⟨#[111, 107]⟩
structure WdOk (w : ByteArray) : Prop where
 sp : (32 : UInt8) ∉ w.data.toList
 nl : (10 : UInt8) ∉ w.data.toList
 ne : w.size ≠ 0
 le : w.size ≤ 60
theorem wd_itoa {n : Int} (h : numOk n) : WdOk (itoaB n) := by
 refine ⟨by rw [itoaB_data]; exact itoa_no (by decide) (by decide) n, by rw [itoaB_data]; exact itoa_no (by decide) (by decide) n, fun h0 => ?_, ?_⟩
 ·have h1 : (itoaB n).data.toList.length = 0 := by rw [Array.length_toList]; exact h0
  rw [itoaB_data] at h1
  have h2 : ∀ m, Lib.decDigits m ≠ [] := fun m => by rw [Lib.decDigits]; split <;> simp
  have h3 := List.length_eq_zero_iff.1 h1
  unfold Lib.itoa at h3
  split at h3
  ·cases h3
  ·exact h2 _ h3
 ·have := itoaB_size (n := n) (k := 12) (by unfold numOk at h; omega)
  omega
theorem wd_pc {p : ByteArray × Int} (h : WdOk p.1) (h2 : p.1.size ≤ 20) (hn : numOk p.2) : WdOk (pcB p) := by
 have hi := wd_itoa hn
 refine ⟨?_, ?_, ?_, ?_⟩
 ·rw [pcB_data]
  unfold pcL
  rw [List.mem_append, List.mem_cons]
  rintro (h1 | h1 | h1)
  ·exact h.sp h1
  ·exact absurd h1 (by decide)
  ·exact hi.sp (by rw [itoaB_data]; exact h1)
 ·rw [pcB_data]
  unfold pcL
  rw [List.mem_append, List.mem_cons]
  rintro (h1 | h1 | h1)
  ·exact h.nl h1
  ·exact absurd h1 (by decide)
  ·exact hi.nl (by rw [itoaB_data]; exact h1)
 ·unfold pcB
  rw [ByteArray.size_append, ByteArray.size_append]
  have := h.ne
  omega
 ·unfold pcB
  rw [ByteArray.size_append, ByteArray.size_append]
  have := itoaB_size (n := p.2) (k := 12) (by unfold numOk at hn; omega)
  have h1 : ByteArray.size ⟨#[58]⟩ = 1 := rfl
  omega
theorem joinW_len : ∀ {ws : List ByteArray}, (∀ w ∈ ws, WdOk w) → (joinW ws).length ≤ 61 * ws.length := by
 have key : ∀ (ws : List ByteArray), (∀ w ∈ ws, WdOk w) → (ws.flatMap fun q => 32 :: q.data.toList).length ≤ 61 * ws.length := by
  intro ws
  induction ws with
  | nil => intro _; simp
  | cons w ws ih =>
   intro h
   have h1 := ih fun x hx => h x (List.mem_cons_of_mem _ hx)
   have h2 := (h w (by simp)).le
   have h3 : w.data.toList.length = w.size := by rw [Array.length_toList]; rfl
   rw [List.flatMap_cons, List.length_append, List.length_cons, List.length_cons]
   omega
 intro ws h
 cases ws with
 | nil => simp [joinW]
 | cons w ws =>
  have h1 := key ws fun x hx => h x (List.mem_cons_of_mem _ hx)
  have h2 := (h w (by simp)).le
  have h3 : w.data.toList.length = w.size := by rw [Array.length_toList]; rfl
  unfold joinW
  rw [List.length_append, List.length_cons]
  omega
theorem LnOk.of {ws : List ByteArray} {c : ByteArray} (h0 : ws[0]? = some c) (hc : decide (c = ⟨#[35]⟩) = false) (h : ∀ w ∈ ws, WdOk w) (hl : ws.length ≤ 100) : LnOk ⟨(joinW ws).toArray⟩ ws := by
 have hlt := (List.getElem?_eq_some_iff.1 h0).1
 refine ⟨words_cut (by intro e; rw [e] at h0; simp at h0) fun w hw => (h w hw).sp, hlt, fun i x hx => ?_, fun x hx => ?_, by omega, ?_⟩
 ·refine decide_eq_false fun e => ?_
  have := (h x (List.mem_of_getElem? hx)).ne
  rw [e] at this
  exact this rfl
 ·rw [h0] at hx
  cases hx
  exact hc
 ·have := joinW_len h
  show (joinW ws).toArray.size ≤ 65536
  rw [List.size_toArray]
  omega
theorem wd_lit {w : ByteArray} (h : (decide ((32 : UInt8) ∉ w.data.toList) && decide ((10 : UInt8) ∉ w.data.toList) && decide (w.size ≠ 0) && decide (w.size ≤ 60)) = true) : WdOk w := by
 rw [Bool.and_eq_true, Bool.and_eq_true, Bool.and_eq_true] at h
 exact ⟨of_decide_eq_true h.1.1.1, of_decide_eq_true h.1.1.2, of_decide_eq_true h.1.2, of_decide_eq_true h.2⟩
def psW (x : En) : List ByteArray := wPost :: x.1 :: itoaB x.2.1 :: x.2.2.map pcB
def yrW (a n : Int) : List (List ByteArray × ByteArray) :=
 [([wAcct, Dk.c40, itoaB 3], okT), ([wAcct, Dk.c10, itoaB 0], okT), ([wAcct, Dk.c30, itoaB 2], okT), ([wAcct, Dk.c50, itoaB 4], okT), (psW (saleX a), okT), (psW (saleX a), okT),
 ([wPlan, kRent, itoaB 0, itoaB 0, itoaB a, itoaB n, Dk.c50, Dk.c10], okT), ([wRun, itoaB 400], okT), ([wRun, itoaB 400], okT), ([wProfit, itoaB 0, itoaB 400], toldB [0]), ([wClose, kEnd, itoaB 400, Dk.c30], okT), ([wTrial, itoaB 400], toldB [0, 0]),
 (psW lateX, ⟨#[101, 114, 114, 111, 114, 32]⟩ ++ itoaB 9), ([wBalance, Dk.c30, itoaB 400], toldB [0]), ([wUndo, kSale, kBack, itoaB 401], okT), ([wProfit, itoaB 401, itoaB 401], toldB [-a])]
section
variable {a n : Int} (h0 : 1 ≤ a) (h1 : a ≤ 100000) (hn : 1 ≤ n) (hn2 : n ≤ 12)
include h0 h1 hn hn2
theorem yr_words : ∀ x ∈ yrW a n, (∃ c, x.1[0]? = some c ∧ decide (c = ⟨#[35]⟩) = false) ∧ (∀ w ∈ x.1, WdOk w) ∧ x.1.length ≤ 10 := by
 have i0 : ∀ m : Int, 0 ≤ m → m ≤ 100000 → WdOk (itoaB m) := fun m a1 a2 => wd_itoa (by unfold numOk; omega)
 have w1 : ∀ w ∈ [wAcct, wPost, wClose, wUndo, wPlan, wRun, wBalance, wProfit, wTrial, Dk.c10, Dk.c30, Dk.c40, Dk.c50, kSale, kRent, kEnd, kLate, kBack], WdOk w := by
  have : ∀ w ∈ [wAcct, wPost, wClose, wUndo, wPlan, wRun, wBalance, wProfit, wTrial, Dk.c10, Dk.c30, Dk.c40, Dk.c50, kSale, kRent, kEnd, kLate, kBack], (decide ((32 : UInt8) ∉ w.data.toList) && decide ((10 : UInt8) ∉ w.data.toList) && decide (w.size ≠ 0) && decide (w.size ≤ 60)) = true := by decide
  exact fun w hw => wd_lit (this w hw)
 have p1 : ∀ (c : ByteArray) (m : Int), (c = Dk.c10 ∨ c = Dk.c40) → -100000 ≤ m → m ≤ 100000 → WdOk (pcB (c, m)) := fun c m hc a1 a2 => by
  rcases hc with rfl | rfl
  ·exact wd_pc (w1 Dk.c10 (by simp)) (show ByteArray.size _ ≤ 20 from (by decide : ByteArray.size ⟨#[0, 0]⟩ ≤ 20)) (by unfold numOk; simp only; omega)
  ·exact wd_pc (w1 Dk.c40 (by simp)) (show ByteArray.size _ ≤ 20 from (by decide : ByteArray.size ⟨#[0, 0]⟩ ≤ 20)) (by unfold numOk; simp only; omega)
 intro x hx
 simp only [yrW, List.mem_cons, List.mem_nil_iff, or_false] at hx
 rcases hx with rfl | rfl | rfl | rfl | rfl | rfl | rfl | rfl | rfl | rfl | rfl | rfl | rfl | rfl | rfl | rfl
 all_goals refine ⟨⟨_, rfl, by decide⟩, fun w hw => ?_, by simp [psW, saleX, lateX]⟩
 all_goals simp only [psW, saleX, lateX, List.map_cons, List.map_nil, List.mem_cons, List.mem_nil_iff, or_false] at hw
 all_goals (repeat' (first | (rcases hw with rfl | hw) | subst hw))
 all_goals first | exact i0 _ (by omega) (by omega) | exact p1 _ _ (.inl rfl) (by omega) (by omega) | exact p1 _ _ (.inr rfl) (by omega) (by omega) | exact w1 _ (by simp)
end
end Go.Proofs.YtcmpjagpggjfiaaGreatDoor
end
section
namespace Go.Proofs.YtcmpjagpggjfiaaGreatDoor
open Go Go.Ev Go.RowKit Go.Acc Go.Dk Go.Lg
def scT (A N : ByteArray) : ByteArray := (⟨#[97, 99, 99, 116, 32, 52, 48, 32, 51, 10, 97, 99, 99, 116, 32, 49, 48, 32, 48, 10, 97, 99, 99, 116, 32, 51, 48, 32, 50, 10, 97, 99, 99, 116, 32, 53, 48, 32, 52, 10, 112, 111, 115, 116, 32, 115, 97, 108, 101, 32, 53, 32, 49, 48, 58]⟩ : ByteArray) ++ A ++ ⟨#[32, 52, 48, 58, 45]⟩ ++ A ++ ⟨#[10, 112, 111, 115, 116, 32, 115, 97, 108, 101, 32, 53, 32, 49, 48, 58]⟩ ++ A ++ ⟨#[32, 52, 48, 58, 45]⟩ ++ A ++ ⟨#[10, 112, 108, 97, 110, 32, 114, 101, 110, 116, 32, 48, 32, 48, 32]⟩ ++ A ++ ⟨#[32]⟩ ++ N ++ ⟨(([32, 53, 48, 32, 49, 48, 10, 114, 117, 110, 32, 52, 48, 48, 10, 114, 117, 110, 32, 52, 48, 48, 10, 112, 114, 111, 102, 105, 116, 32, 48, 32, 52, 48].append [48, 10, 99, 108, 111, 115, 101, 32, 101, 110, 100, 32, 52, 48, 48, 32, 51, 48, 10, 116, 114, 105, 97, 108, 32, 52, 48, 48, 10, 112, 111, 115, 116, 32]).append ([108, 97, 116, 101, 32, 52, 48, 48, 32, 49, 48, 58, 49, 32, 52, 48, 58, 45, 49, 10, 98, 97, 108, 97, 110, 99, 101, 32, 51, 48, 32, 52, 48, 48].append [10, 117, 110, 100, 111, 32, 115, 97, 108, 101, 32, 98, 97, 99, 107, 32, 52, 48, 49, 10, 112, 114, 111, 102, 105, 116, 32, 52, 48, 49, 32, 52, 48, 49, 10])).toArray⟩
def wantT : ByteArray := ⟨#[111, 107, 10, 111, 107, 10, 111, 107, 10, 111, 107, 10, 111, 107, 10, 111, 107, 10, 111, 107, 10, 111, 107, 10, 111, 107, 10, 111, 107, 32, 48, 10]⟩
def restT (A : ByteArray) : ByteArray := (⟨#[111, 107, 10, 111, 107, 32, 48, 32, 48, 10, 101, 114, 114, 111, 114, 32, 57, 10, 111, 107, 32, 48, 10, 111, 107, 10, 111, 107, 32, 45]⟩ : ByteArray) ++ A ++ ⟨#[10]⟩
theorem i0 : Lib.itoa 0 = [48] := by decide +kernel
theorem i2 : Lib.itoa 2 = [50] := by decide +kernel
theorem i3 : Lib.itoa 3 = [51] := by decide +kernel
theorem i4 : Lib.itoa 4 = [52] := by decide +kernel
theorem i5 : Lib.itoa 5 = [53] := by decide +kernel
theorem i9 : Lib.itoa 9 = [57] := by decide +kernel
theorem i1 : Lib.itoa 1 = [49] := by decide +kernel
theorem i11 : Lib.itoa (-1) = [45, 49] := by decide +kernel
theorem i400 : Lib.itoa 400 = [52, 48, 48] := by decide +kernel
theorem i401 : Lib.itoa 401 = [52, 48, 49] := by decide +kernel
set_option maxRecDepth 100000 in
theorem sc_data {a n : Int} (ha : 0 < a) : (scT (itoaB a) (itoaB n)).data.toList = scriptL ((yrW a n).map (·.1)) := by
 have hm := itoa_neg ha
 simp only [scT, yrW, psW, saleX, lateX, scriptL, joinW, List.map_cons, List.map_nil, List.flatMap_cons, List.flatMap_nil, pcB_data, pcL, itoaB_data, hm, i0, i1, i2, i3, i4, i5, i11, i400, i401, ByteArray.data_append, Array.toList_append, List.append_assoc, List.nil_append, List.append_nil]
 generalize Lib.itoa a = A
 generalize Lib.itoa n = N
 rfl
set_option maxRecDepth 100000 in
theorem out_data {a n : Int} (ha : 0 < a) : outLs ((yrW a n).map (·.2)) = (wantT ++ restT (itoaB a)).data.toList := by
 have hm := itoa_neg ha
 simp only [wantT, restT, yrW, outLs, toldB, okT, List.foldl_cons, List.foldl_nil, List.map_cons, List.map_nil, List.flatMap_cons, List.flatMap_nil, itoaB_data, hm, i0, i9, ByteArray.data_append, Array.toList_append, List.append_assoc, List.nil_append, List.append_nil]
 generalize Lib.itoa a = A
 rfl
end Go.Proofs.YtcmpjagpggjfiaaGreatDoor
end
