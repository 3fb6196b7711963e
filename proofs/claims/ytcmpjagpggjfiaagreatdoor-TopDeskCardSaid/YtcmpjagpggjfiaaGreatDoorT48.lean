/-
  TopDesk itself, run by the machine over desk.Run.
-/
import Derived.Test.YtcmpjagpggjfiaaGreatDoorT45
import Derived.Test.YtcmpjagpggjfiaaGreatDoorT47
import Derived.Test.YtcmpjagpggjfiaaGreatDoorT36
set_option linter.unusedVariables false
set_option linter.unusedSimpArgs false
namespace Go.Proofs.YtcmpjagpggjfiaaGreatDoor
open Go Go.Ev Go.RowKit Go.Acc Go.Lg
set_option maxHeartbeats 4000000
theorem dec_ex {J : World → Prop} (hJ : Stable J) : ∃ F : List V → Option (V × List Ev.Blk), (∀ n : Int, 0 ≤ n → n ≤ 1000000 → F [.int .i64 n] = some (.str (itoaB n), [])) ∧ Snd Tryz.prog J 5 F := by
 obtain ⟨F, h1, h2⟩ := fam_ex (P := Tryz.prog) (J := J) (f := 5) (fun x : { n : Int // 0 ≤ n ∧ n ≤ 1000000 } => [.int .i64 x.1]) (fun x => (.str (itoaB x.1), [])) (fun i j h => by
  simp only [List.cons.injEq, V.int.injEq, true_and, and_true] at h
  rw [h]) fun x => dec_pos hJ x.1 x.2.1 (by have := x.2.2; omega)
 exact ⟨F, fun n h0 hn => h1 ⟨n, h0, hn⟩, h2⟩
theorem ext_left {x y : ByteArray} {k : Nat} (h : x.size = k) : (x ++ y).extract 0 k = x := by
 refine ba_ext ?_
 have h1 : x.data.toList.length = k := by rw [Array.length_toList]; exact h
 rw [ByteArray.data_extract, ByteArray.data_append, Array.toList_extract, Array.toList_append, ← h1]
 simp only [List.extract, List.drop_zero, Nat.sub_zero, List.take_left]
theorem ext_right {x y : ByteArray} {k m : Nat} (h : x.size = k) (hm : m = (x ++ y).size) : (x ++ y).extract k m = y := by
 refine ba_ext ?_
 have h1 : x.data.toList.length = k := by rw [Array.length_toList]; exact h
 have h2 : y.data.toList.length = y.size := by rw [Array.length_toList]; rfl
 have h3 : m - k = y.data.toList.length := by rw [hm, ByteArray.size_append, h2]; omega
 rw [ByteArray.data_extract, ByteArray.data_append, Array.toList_extract, Array.toList_append]
 simp only [List.extract]
 rw [h3, ← h1, List.drop_left, List.take_length]
set_option maxRecDepth 100000 in
set_option maxHeartbeats 4000000 in
theorem desk_law0 (amount n : Int) (hRun : ∀ a m : Int, 1 ≤ a → a ≤ 100000 → 1 ≤ m → m ≤ 12 → SoundAt Tryz.prog DkJ 6 [.str (scT (itoaB a) (itoaB m))] (.str (wantT ++ restT (itoaB a))) []) : SoundAt Tryz.prog DkJ 3 [.int .i64 amount, .int .i64 n] (.bool true) [] := by
 have hJ := stableDk
 have hBg := begun_sound hJ
 obtain ⟨WF, hWF, hWFs⟩ := within_ex hJ
 have W1 := hWF amount 100000 (by decide) (by decide)
 have W2 := hWF n 12 (by decide) (by decide)
 have b1 := wthn_bd amount (n := 100000) (by decide)
 have b2 := wthn_bd n (n := 12) (by decide)
 generalize wthn amount 100000 = x at *
 generalize wthn n 12 = y at *
 obtain ⟨DF, hDF, hDFs⟩ := dec_ex hJ
 have D1 := hDF (1 + x) (by omega) (by omega)
 have D2 := hDF (1 + y) (by omega) (by omega)
 have hR := hRun (1 + x) (1 + y) (by omega) (by omega) (by omega) (by omega)
 have sA : (itoaB (1 + x)).size ≤ 14 := itoaB_size (k := 12) (by omega)
 have sN : (itoaB (1 + y)).size ≤ 14 := itoaB_size (k := 12) (by omega)
 generalize itoaB (1 + x) = A at *
 generalize itoaB (1 + y) = N at *
 -- literals
 obtain ⟨c1, kc1⟩ : ∃ c : ByteArray, c = ⟨#[97, 99, 99, 116, 32, 52, 48, 32, 51, 10, 97, 99, 99, 116, 32, 49, 48, 32, 48, 10, 97, 99, 99, 116, 32, 51, 48, 32, 50, 10, 97, 99, 99, 116, 32, 53, 48, 32, 52, 10, 112, 111, 115, 116, 32, 115, 97, 108, 101, 32, 53, 32, 49, 48, 58]⟩ := ⟨_, rfl⟩
 try dsimp only at kc1
 have zc1 : c1.size = 55 := by rw [kc1]; rfl
 obtain ⟨c2, kc2⟩ : ∃ c : ByteArray, c = ⟨#[32, 52, 48, 58, 45]⟩ := ⟨_, rfl⟩
 try dsimp only at kc2
 have zc2 : c2.size = 5 := by rw [kc2]; rfl
 obtain ⟨c3, kc3⟩ : ∃ c : ByteArray, c = ⟨#[10, 112, 111, 115, 116, 32, 115, 97, 108, 101, 32, 53, 32, 49, 48, 58]⟩ := ⟨_, rfl⟩
 try dsimp only at kc3
 have zc3 : c3.size = 16 := by rw [kc3]; rfl
 obtain ⟨c4, kc4⟩ : ∃ c : ByteArray, c = ⟨#[10, 112, 108, 97, 110, 32, 114, 101, 110, 116, 32, 48, 32, 48, 32]⟩ := ⟨_, rfl⟩
 try dsimp only at kc4
 have zc4 : c4.size = 15 := by rw [kc4]; rfl
 obtain ⟨cs, kcs⟩ : ∃ c : ByteArray, c = ⟨#[32]⟩ := ⟨_, rfl⟩
 try dsimp only at kcs
 have zcs : cs.size = 1 := by rw [kcs]; rfl
 obtain ⟨c5, kc5⟩ : ∃ c : ByteArray, c = ⟨(([32, 53, 48, 32, 49, 48, 10, 114, 117, 110, 32, 52, 48, 48, 10, 114, 117, 110, 32, 52, 48, 48, 10, 112, 114, 111, 102, 105, 116, 32, 48, 32, 52, 48].append [48, 10, 99, 108, 111, 115, 101, 32, 101, 110, 100, 32, 52, 48, 48, 32, 51, 48, 10, 116, 114, 105, 97, 108, 32, 52, 48, 48, 10, 112, 111, 115, 116, 32]).append ([108, 97, 116, 101, 32, 52, 48, 48, 32, 49, 48, 58, 49, 32, 52, 48, 58, 45, 49, 10, 98, 97, 108, 97, 110, 99, 101, 32, 51, 48, 32, 52, 48, 48].append [10, 117, 110, 100, 111, 32, 115, 97, 108, 101, 32, 98, 97, 99, 107, 32, 52, 48, 49, 10, 112, 114, 111, 102, 105, 116, 32, 52, 48, 49, 32, 52, 48, 49, 10])).toArray⟩ := ⟨_, rfl⟩
 try dsimp only at kc5
 have zc5 : c5.size = 137 := by rw [kc5]; rfl
 obtain ⟨cw, kcw⟩ : ∃ c : ByteArray, c = ⟨#[111, 107, 10, 111, 107, 10, 111, 107, 10, 111, 107, 10, 111, 107, 10, 111, 107, 10, 111, 107, 10, 111, 107, 10, 111, 107, 10, 111, 107, 32, 48, 10]⟩ := ⟨_, rfl⟩
 try dsimp only at kcw
 have zcw : cw.size = 32 := by rw [kcw]; rfl
 obtain ⟨cr, kcr⟩ : ∃ c : ByteArray, c = ⟨#[111, 107, 10, 111, 107, 32, 48, 32, 48, 10, 101, 114, 114, 111, 114, 32, 57, 10, 111, 107, 32, 48, 10, 111, 107, 10, 111, 107, 32, 45]⟩ := ⟨_, rfl⟩
 try dsimp only at kcr
 have zcr : cr.size = 30 := by rw [kcr]; rfl
 obtain ⟨cn, kcn⟩ : ∃ c : ByteArray, c = ⟨#[10]⟩ := ⟨_, rfl⟩
 try dsimp only at kcn
 have zcn : cn.size = 1 := by rw [kcn]; rfl
 have e1 := bin_add_str (x := c1) (y := A) (by omega)
 have t1 : (c1 ++ A).size = (c1).size + A.size := by rw [ByteArray.size_append]
 have e2 := bin_add_str (x := (c1 ++ A)) (y := c2) (by omega)
 have t2 : ((c1 ++ A) ++ c2).size = ((c1 ++ A)).size + c2.size := by rw [ByteArray.size_append]
 have e3 := bin_add_str (x := ((c1 ++ A) ++ c2)) (y := A) (by omega)
 have t3 : (((c1 ++ A) ++ c2) ++ A).size = (((c1 ++ A) ++ c2)).size + A.size := by rw [ByteArray.size_append]
 have e4 := bin_add_str (x := (((c1 ++ A) ++ c2) ++ A)) (y := c3) (by omega)
 have t4 : ((((c1 ++ A) ++ c2) ++ A) ++ c3).size = ((((c1 ++ A) ++ c2) ++ A)).size + c3.size := by rw [ByteArray.size_append]
 have e5 := bin_add_str (x := ((((c1 ++ A) ++ c2) ++ A) ++ c3)) (y := A) (by omega)
 have t5 : (((((c1 ++ A) ++ c2) ++ A) ++ c3) ++ A).size = (((((c1 ++ A) ++ c2) ++ A) ++ c3)).size + A.size := by rw [ByteArray.size_append]
 have e6 := bin_add_str (x := (((((c1 ++ A) ++ c2) ++ A) ++ c3) ++ A)) (y := c2) (by omega)
 have t6 : ((((((c1 ++ A) ++ c2) ++ A) ++ c3) ++ A) ++ c2).size = ((((((c1 ++ A) ++ c2) ++ A) ++ c3) ++ A)).size + c2.size := by rw [ByteArray.size_append]
 have e7 := bin_add_str (x := ((((((c1 ++ A) ++ c2) ++ A) ++ c3) ++ A) ++ c2)) (y := A) (by omega)
 have t7 : (((((((c1 ++ A) ++ c2) ++ A) ++ c3) ++ A) ++ c2) ++ A).size = (((((((c1 ++ A) ++ c2) ++ A) ++ c3) ++ A) ++ c2)).size + A.size := by rw [ByteArray.size_append]
 have e8 := bin_add_str (x := (((((((c1 ++ A) ++ c2) ++ A) ++ c3) ++ A) ++ c2) ++ A)) (y := c4) (by omega)
 have t8 : ((((((((c1 ++ A) ++ c2) ++ A) ++ c3) ++ A) ++ c2) ++ A) ++ c4).size = ((((((((c1 ++ A) ++ c2) ++ A) ++ c3) ++ A) ++ c2) ++ A)).size + c4.size := by rw [ByteArray.size_append]
 have e9 := bin_add_str (x := ((((((((c1 ++ A) ++ c2) ++ A) ++ c3) ++ A) ++ c2) ++ A) ++ c4)) (y := A) (by omega)
 have t9 : (((((((((c1 ++ A) ++ c2) ++ A) ++ c3) ++ A) ++ c2) ++ A) ++ c4) ++ A).size = (((((((((c1 ++ A) ++ c2) ++ A) ++ c3) ++ A) ++ c2) ++ A) ++ c4)).size + A.size := by rw [ByteArray.size_append]
 have e10 := bin_add_str (x := (((((((((c1 ++ A) ++ c2) ++ A) ++ c3) ++ A) ++ c2) ++ A) ++ c4) ++ A)) (y := cs) (by omega)
 have t10 : ((((((((((c1 ++ A) ++ c2) ++ A) ++ c3) ++ A) ++ c2) ++ A) ++ c4) ++ A) ++ cs).size = ((((((((((c1 ++ A) ++ c2) ++ A) ++ c3) ++ A) ++ c2) ++ A) ++ c4) ++ A)).size + cs.size := by rw [ByteArray.size_append]
 have e11 := bin_add_str (x := ((((((((((c1 ++ A) ++ c2) ++ A) ++ c3) ++ A) ++ c2) ++ A) ++ c4) ++ A) ++ cs)) (y := N) (by omega)
 have t11 : (((((((((((c1 ++ A) ++ c2) ++ A) ++ c3) ++ A) ++ c2) ++ A) ++ c4) ++ A) ++ cs) ++ N).size = (((((((((((c1 ++ A) ++ c2) ++ A) ++ c3) ++ A) ++ c2) ++ A) ++ c4) ++ A) ++ cs)).size + N.size := by rw [ByteArray.size_append]
 have e12 := bin_add_str (x := (((((((((((c1 ++ A) ++ c2) ++ A) ++ c3) ++ A) ++ c2) ++ A) ++ c4) ++ A) ++ cs) ++ N)) (y := c5) (by omega)
 have t12 : ((((((((((((c1 ++ A) ++ c2) ++ A) ++ c3) ++ A) ++ c2) ++ A) ++ c4) ++ A) ++ cs) ++ N) ++ c5).size = ((((((((((((c1 ++ A) ++ c2) ++ A) ++ c3) ++ A) ++ c2) ++ A) ++ c4) ++ A) ++ cs) ++ N)).size + c5.size := by rw [ByteArray.size_append]
 unfold scT wantT restT at hR
 dsimp only at hR
 rw [← kc1, ← kc2, ← kc3, ← kc4, ← kcs, ← kc5, ← kcw, ← kcr, ← kcn] at hR
 -- literals end
 have q1 : ¬ ((cw.size + (cr.size + A.size + cn.size) : Nat) : Int) < (cw.size : Int) := by omega
 have q2 : (0 ≤ (cw.size : Int) ∧ (cw.size : Int) ≤ ((cw.size + (cr.size + A.size + cn.size) : Nat) : Int)) = True := eq_true ⟨by omega, by omega⟩
 have q3 := ext_left (x := cw) (y := cr ++ A ++ cn) rfl
 have q4 := ext_right (x := cw) (y := cr ++ A ++ cn) (m := cw.size + (cr.size + A.size + cn.size)) rfl (by rw [ByteArray.size_append, ByteArray.size_append, ByteArray.size_append])
 have e13 := bin_add_str (x := cr) (y := A) (by omega)
 have e14 := bin_add_str (x := cr ++ A) (y := cn) (by rw [ByteArray.size_append]; omega)
 refine evFn (l := [(7, at1 _ (_, [])), (4, WF), (5, DF), (6, at1 _ (_, []))]) (nv := nv0) (fz := fz0) (dr := dr3) (dd := dd3) (lam := []) (ms := ms0) ⟨at1_snd hBg, hWFs, hDFs, at1_snd hR, trivial⟩ hJ trivial ms0_ok Tryz.func3 rfl rfl (Nat.le_of_ble_eq_true rfl) (Nat.le_of_ble_eq_true rfl) drOk3 ?_
 dsimp only [Tryz.f3, dr3, dd3, Option.getD_some]
 refine ev_start ?_
 rw [← kc1, ← kc2, ← kc3, ← kc4, ← kcs, ← kc5, ← kcw, ← kcr, ← kcn]
 simp (disch := omega) only [W1, W2, D1, D2, at1_eq, e1, e2, e3, e4, e5, e6, e7, e8, e9, e10, e11, e12, e13, e14, q1, q2, q3, q4, Int.toNat_natCast, if_true, decide_true, bin_eql_str, bin_neq_str, go_sem, evP_D, evD_guard, evD_cons, evD_zero, evD_nil]
end Go.Proofs.YtcmpjagpggjfiaaGreatDoor
