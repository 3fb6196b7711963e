/-
  talref.number: a word read as a number (an elder walk; what Dec answers is handed in).
-/
import Derived.Test.YtdmkmbaaemhhhaaGreatDoorP05
import Derived.Test.YtdmkmbaaemhhhaaGreatDoorP06
import Derived.Test.YtdmkmbaaemhhhaaGreatDoorP01
import Derived.LoopTactic
import Derived.Lib.ConvBytes
import Derived.Lib.AtoiErrMem
set_option linter.unusedVariables false
namespace Go.Proofs.YtdmkmbaaemhhhaaGreatDoor
open Go Go.RowKit Go.Shelf Go.Lg
theorem str_beq (a b : ByteArray) : (a.toList == b.toList) = decide (a = b) := by
 rw [Bool.eq_iff_iff, beq_iff_eq, decide_eq_true_iff, Lib.toList_data, Lib.toList_data]
 exact ⟨ba_ext, fun h => by rw [h]⟩
theorem num_short {most : Int} {s : ByteArray} (h : most < s.size) (w : World) :
  Calls Tryz.prog 68 #[.string s, .int .i64 most] w fun e w' => e = .returned (.tuple #[.int .i64 0, .bool false]) ∧ Below w.heap.size w w' := by
 have h1 : (most : Int) < (s.size : Int) := h
 go_enter Tryz.func68, Tryz.ntmps68
 go_wp2
 go_ret2
 exact ⟨rfl, Below.refl _ _⟩
set_option maxHeartbeats 4000000 in
set_option maxRecDepth 100000 in
theorem num_walk {most : Int} {s : ByteArray} (h : ¬ most < s.size) (h18 : most ≤ 18) (w : World)
  (hD : ∀ (n : Int) (w' : World), -1000000000000000000 ≤ n → n ≤ 1000000000000000000 → Below w.heap.size w w' → Calls Tryz.prog 60 #[.int .i64 n] w' fun e w'' => e = .returned (.string (itoaB n)) ∧ Below w'.heap.size w' w'') :
  Calls Tryz.prog 68 #[.string s, .int .i64 most] w fun e w' => e = .returned (.tuple #[.int .i64 (num2 most s).1, .bool (num2 most s).2]) ∧ Below w.heap.size w w' := by
 have HD := Lib.hid hD
 clear hD
 have hp := fun W => Any.strings_HasPrefix Tryz.lays99 s ⟨#[45]⟩ W
 have ht := fun W => Any.strings_TrimPrefix Tryz.lays101 s ⟨#[45]⟩ W
 go_enter Tryz.func68, Tryz.ntmps68
 go_wp2_with (first
  | (go_at_call 67; refine (hp _).mono ?_; rintro e w1 ⟨rfl, rfl⟩)
  | (go_at_call 106; refine (ht _).mono ?_; rintro e w2 ⟨rfl, rfl⟩))
 rw [Lib.run_convert_string_bytes w2 9 130 5 _ Tryz.underlying9 Tryz.underlying130 Tryz.underlying5]
 simp only [Result.andThen]
 rw [Oper.upon_value]
 have hts : (⟨(tailM s).toArray⟩ : ByteArray).size = (tailM s).length := by simp [ByteArray.size]
 have hcells := Lib.bytesWorld_cell w2 5 ⟨(tailM s).toArray⟩
 have hbel := Lib.bytesWorld_below w2 5 ⟨(tailM s).toArray⟩
 have hN : (tailM s).length ≤ 18 := by
  have h1 := Lib.trimPrefix_le s.data.toList [45]
  have h2 := Lib.size_eq s
  unfold tailM
  omega
 have e45 : (⟨#[45]⟩ : ByteArray).data.toList = [45] := rfl
 have eT : Lib.trimPrefix s.data.toList [45] = tailM s := rfl
 have eN : Lib.hasPrefix s.data.toList [45] = negM s := rfl
 rw [eT, eN]
 have hnum : ((tailM s).all isDig = false → num2 most s = (0, false)) ∧ ((tailM s).all isDig = true → num2 most s = (if negM s = true then -(valL 0 (tailM s) : Int) else valL 0 (tailM s), decide (itoaB (if negM s = true then -(valL 0 (tailM s) : Int) else valL 0 (tailM s)) = s))) := by
  unfold num2
  rw [if_neg (by omega)]
  exact ⟨fun h => by rw [h]; rfl, fun h => by rw [if_pos h]⟩
 generalize Lib.bytesWorld w2 5 ⟨(tailM s).toArray⟩ = w3 at *
 generalize grownCap w2 (⟨(tailM s).toArray⟩ : ByteArray).size 0 5 = cap at *
 rw [hts] at *
 generalize hT : tailM s = T at *
 clear hp ht eT eN
 go_wp2
 go_loopw [7, 20] (fun n i wr => ∃ j : Nat, i = .int .i64 j ∧ j ≤ T.length ∧ n = .int .i64 (valL 0 (T.take j)) ∧ (T.take j).all isDig = true ∧ wr = w3) (fun _ i _ => T.length - (intOf i).toNat)
 case atStart => exact ⟨0, rfl, Nat.zero_le _, rfl, rfl, rfl⟩
 case round =>
  obtain ⟨j, rfl, hj, rfl, hall, rfl⟩ := hrel
  by_cases hjn : j < T.length
  ·obtain ⟨c, hc⟩ : ∃ c, T[j]? = some c := ⟨_, List.getElem?_eq_getElem hjn⟩
   have hcj := hcells j hjn
   rw [List.getD_eq_getElem?_getD, hc, Option.getD_some] at hcj
   have i0 : (0 : Int) ≤ (j : Int) := by omega
   have i1 : (j : Int) < (T.length : Int) := by omega
   have hc255 := c.toNat_lt
   by_cases hd : isDig c = true
   ·have hd' := of_decide_eq_true (show decide (48 ≤ c.toNat ∧ c.toNat ≤ 57) = true from hd)
    have b0 : ¬ ((c.toNat : Int) < 48) := by omega
    have b1 : ¬ ((57 : Int) < (c.toNat : Int)) := by omega
    have hv := valL_lt (T.take j) 0 (fun x hx => by
     have := List.all_eq_true.1 hall x hx
     have := of_decide_eq_true (show decide (48 ≤ x.toNat ∧ x.toNat ≤ 57) = true from this)
     omega)
    clear hcells
    go_wp2
    have hl : (T.take j).length ≤ 17 := by rw [List.length_take]; omega
    have hp : 10 ^ (T.take j).length ≤ 100000000000000000 := Nat.le_trans (Nat.pow_le_pow_right (by omega) hl) (by decide)
    have hX : valL 0 (T.take j) < 100000000000000000 := by omega
    clear hp hv
    have hv2 : valL 0 (T.take (j + 1)) = valL 0 (T.take j) * 10 + (c.toNat - 48) := by
     rw [List.take_add_one, hc, Option.toList_some, valL_app, valL_cons, valL_nil]
    refine ⟨⟨j + 1, by simp, hjn, ?_, ?_, trivial⟩, by simp [intOf]; omega⟩
    ·refine congrArg _ ?_
     rw [hv2]
     clear hv2 hc hcj hd hall hT hN HD hbel
     generalize valL 0 (T.take j) = X at *
     generalize c.toNat = d at *
     have w1 : wrap64 (10 * (X : Int)) = 10 * (X : Int) := by simp only [wrap64]; omega
     have w2 : wrap64 (10 * (X : Int) + ((d : Int) - 48)) = 10 * (X : Int) + ((d : Int) - 48) := by simp only [wrap64]; omega
     rw [w1, w2]
     omega
    ·rw [List.take_add_one, hc, Option.toList_some, List.all_append, hall]
     simp [hd]
   ·have hno : T.all isDig = false := List.all_eq_false.2 ⟨c, List.mem_of_getElem? hc, hd⟩
    have hd' : ¬ (48 ≤ c.toNat ∧ c.toNat ≤ 57) := fun h => hd (decide_eq_true h)
    have hres := hnum.1 hno
    clear hnum
    by_cases b0 : (c.toNat : Int) < 48
    ·clear hcells
     go_wp2
     go_ret2
     exact ⟨by first | rfl | (rw [hres]; rfl), hbel⟩
    ·have b1 : (57 : Int) < (c.toNat : Int) := by omega
     clear hcells
     go_wp2
     go_ret2
     exact ⟨by first | rfl | (rw [hres]; rfl), hbel⟩
  ·have hjn' : j = T.length := by omega
   subst hjn'
   rw [List.take_length] at hall ⊢
   have hres := hnum.2 hall
   have hv := valL_lt T 0 (fun x hx => by
    have := List.all_eq_true.1 hall x hx
    have := of_decide_eq_true (show decide (48 ≤ x.toNat ∧ x.toNat ≤ 57) = true from this)
    omega)
   have hp : 10 ^ T.length ≤ 1000000000000000000 := Nat.le_trans (Nat.pow_le_pow_right (by omega) hN) (by decide)
   have hX : valL 0 T < 1000000000000000000 := by omega
   clear hp hv
   clear hcells hnum
   generalize valL 0 T = X at *
   cases hneg : negM s with
   | true =>
    rw [hneg] at hres
    have HR := Lib.hid hres
    clear hres
    go_wp2_with (go_at_call 60; refine (HD.out _ _ (by omega) (by omega) hbel).mono ?_; rintro e w5 ⟨rfl, hb5⟩)
    refine bodyPost_ret (v := .tuple #[.int .i64 (num2 most s).1, .bool (num2 most s).2]) (by rw [HR.out]; simp [results, Tryz.results68, go_sem, str_beq]) rfl ⟨rfl, ?_⟩
    exact hbel.trans (hb5.mono hbel.size)
   | false =>
    rw [hneg] at hres
    have HR := Lib.hid hres
    clear hres
    go_wp2_with (go_at_call 60; refine (HD.out _ _ (by omega) (by omega) hbel).mono ?_; rintro e w5 ⟨rfl, hb5⟩)
    refine bodyPost_ret (v := .tuple #[.int .i64 (num2 most s).1, .bool (num2 most s).2]) (by rw [HR.out]; simp [results, Tryz.results68, go_sem, str_beq]) rfl ⟨rfl, ?_⟩
    exact hbel.trans (hb5.mono hbel.size)
end Go.Proofs.YtdmkmbaaemhhhaaGreatDoor
