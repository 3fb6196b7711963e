/-
  What a line asks of the desk, as a function that does it: read and look, run by the machine.
-/
import Derived.Test.YtcmpjagpggjfiaaGreatDoorT27
import Derived.Test.YtcmpjagpggjfiaaGreatDoorT19
import Derived.Test.YtcmpjagpggjfiaaGreatDoorT22
set_option linter.unusedVariables false
set_option linter.unusedSimpArgs false
namespace Go.Proofs.YtcmpjagpggjfiaaGreatDoor
open Go Go.Ev Go.RowKit Go.Acc Go.Lg
set_option maxHeartbeats 4000000
theorem next_ex {J : World → Prop} (hJ : Stable J) (ws : List ByteArray) (hl : ws.length ≤ 100000) : ∃ F : List Ev.Blk → List V → Option (V × List Ev.Blk), (∀ (k : Nat) x, ws[k]? = some x → F [wdB ws k] [.ptr 1000000 0] = some (.str x, [wdB ws (k + 1)])) ∧ Mu Tryz.prog J 74 F := by
 obtain ⟨F, h1, h2⟩ := famN (P := Tryz.prog) (J := J) (f := 74) (fun q : { q : Nat × ByteArray // ws[q.1]? = some q.2 } => [wdB ws q.1.1]) (fun _ => [.ptr 1000000 0]) (fun q => (.str q.1.2, [wdB ws (q.1.1 + 1)])) (fun i j h _ => by
  obtain ⟨⟨k, x⟩, hk⟩ := i
  obtain ⟨⟨k', x'⟩, hk'⟩ := j
  simp only [List.cons.injEq, and_true] at h
  have e : k = k' := (wdB_inj h).2
  subst e
  simp only at hk hk'
  rw [hk] at hk'
  cases hk'
  rfl) fun q => next_mut hJ ws q.1.1 q.1.2 q.2 hl
 exact ⟨F, fun k x hx => h1 ⟨(k, x), hx⟩, h2⟩
def numOk (n : Int) : Prop := -9999999999999 ≤ n ∧ n ≤ 9999999999999
theorem num_ex (ws : List ByteArray) (hl : ws.length ≤ 100000) : ∃ F : List Ev.Blk → List V → Option (V × List Ev.Blk), (∀ (k : Nat) n, ws[k]? = some (itoaB n) → numOk n → F [wdB ws k] [.ptr 1000000 0] = some (.int .i64 n, [wdB ws (k + 1)])) ∧ Mu Tryz.prog DkJ 73 F := by
 obtain ⟨F, h1, h2⟩ := famN (P := Tryz.prog) (J := DkJ) (f := 73) (fun q : { q : Nat × Int // ws[q.1]? = some (itoaB q.2) ∧ numOk q.2 } => [wdB ws q.1.1]) (fun _ => [.ptr 1000000 0]) (fun q => (.int .i64 q.1.2, [wdB ws (q.1.1 + 1)])) (fun i j h _ => by
  obtain ⟨⟨k, x⟩, hk, b1⟩ := i
  obtain ⟨⟨k', x'⟩, hk', b2⟩ := j
  simp only [List.cons.injEq, and_true] at h
  have e : k = k' := (wdB_inj h).2
  subst e
  simp only [numOk] at hk hk' b1 b2
  rw [hk] at hk'
  have := itoaB_inj ⟨by omega, by omega⟩ ⟨by omega, by omega⟩ (Option.some.inj hk')
  subst this
  rfl) fun q => num_mut ws q.1.1 q.1.2 q.2.1 q.2.2.1 q.2.2.2 hl
 exact ⟨F, fun k x hx hb => h1 ⟨(k, x), hx, hb⟩, h2⟩
structure opq (D : V) : Prop where
 mv : ∀ ms, V.mv ms D = some D
 bk : ∀ ms, V.bk ms D = some D
theorem read_acct {D : V} (hD : opq D) (ws : List ByteArray) (hl : ws.length ≤ 100000) (c : ByteArray) (n : Int) (h1 : ws[1]? = some c) (h2 : ws[2]? = some (itoaB n)) (hn : numOk n) :
  MutAt Tryz.prog DkJ 25 [.box D, wdB ws 1] [.ptr 1000000 0, .str ⟨#[97, 99, 99, 116]⟩, .ptr 1000001 0] (.fn 77 [.ptr 1000002 0, .ptr 1000003 0, .ptr 1000004 0]) [.box D, wdB ws 3, .box (.ptr 1000000 0), .box (.str c), .box (.int .i64 n)] := by
 have hJ := stableDk
 obtain ⟨F, hF, sF⟩ := next_ex hJ ws hl
 obtain ⟨G, hG, sG⟩ := num_ex ws hl
 have e1 : F [.box (.agg [.row 1 (ws.map V.str), .int .i64 1])] [.ptr 1000000 0] = some (_, [.box (.agg [.row 1 (ws.map V.str), .int .i64 2])]) := hF 1 _ h1
 have e2 : G [.box (.agg [.row 1 (ws.map V.str), .int .i64 2])] [.ptr 1000000 0] = some (_, [.box (.agg [.row 1 (ws.map V.str), .int .i64 3])]) := hG 2 _ h2 hn
 unfold wdB at *
 refine evMut (nn := [24, 56, 64]) (l := []) (nv := nv0) (fz := fz0) (dr := dr25) (dd := dd25) (lam := []) (ms := ⟨[(74, F), (73, G)], lnL [(24, [1000001]), (26, [1000001])], []⟩) trivial hJ trivial ⟨⟨sF, sG, trivial⟩, trivial⟩ Tryz.func25 rfl rfl (Nat.le_of_ble_eq_true rfl) (Nat.le_of_ble_eq_true rfl) drOk25 rfl ?_
 dsimp only [Tryz.f25, dr25, dd25, Option.getD_some]
 refine ev_start ?_
 simp (disch := omega) only [hD.mv, hD.bk, bin_eql_str, eq_self, e1, e2, go_sem, evP_D, evD_guard, evD_cons, evD_zero, evD_nil]
theorem read_post {D : V} (hD : opq D) (ws : List ByteArray) (hl : ws.length ≤ 100000) (key : ByteArray) (n : Int) (L : List (ByteArray × Int)) (h1 : ws[1]? = some key) (h2 : ws[2]? = some (itoaB n)) (hn : numOk n) (hx : ∀ (i : Nat) p, L[i]? = some p → ws[3 + i]? = some (pcB p)) (hend : ws.length = 3 + L.length) (hb : ∀ p ∈ L, (58 : UInt8) ∉ p.1.data.toList ∧ p.1.size ≤ 100 ∧ -9999999999999 ≤ p.2 ∧ p.2 ≤ 9999999999999) (h10 : L.length ≤ 10) :
  MutAt Tryz.prog DkJ 25 [.box D, wdB ws 1] [.ptr 1000000 0, .str ⟨#[112, 111, 115, 116]⟩, .ptr 1000001 0] (.fn 80 [.ptr 1000002 0, .ptr 1000003 0]) [.box D, wdB ws ws.length, .box (.ptr 1000000 0), .box (.agg [.str key, .int .i64 n, .row 2 (L.map acV)])] := by
 have hJ := stableDk
 have q0 : decide ((⟨#[112, 111, 115, 116]⟩ : ByteArray) = ⟨#[97, 99, 99, 116]⟩) = false := by decide
 obtain ⟨F, hF, sF⟩ := next_ex hJ ws hl
 obtain ⟨G, hG, sG⟩ := num_ex ws hl
 obtain ⟨H, e3', sH⟩ := one_mu (lines_mut ws 3 L hx hend hb hl h10)
 have e3 : H [.box (.agg [.row 1 (ws.map V.str), .int .i64 3])] [.ptr 1000000 0] = some (_, [.box (.agg [.row 1 (ws.map V.str), .int .i64 (ws.length : Int)])]) := e3'
 have e1 : F [.box (.agg [.row 1 (ws.map V.str), .int .i64 1])] [.ptr 1000000 0] = some (_, [.box (.agg [.row 1 (ws.map V.str), .int .i64 2])]) := hF 1 _ h1
 have e2 : G [.box (.agg [.row 1 (ws.map V.str), .int .i64 2])] [.ptr 1000000 0] = some (_, [.box (.agg [.row 1 (ws.map V.str), .int .i64 3])]) := hG 2 _ h2 hn
 unfold wdB at *
 refine evMut (nn := [24, 72]) (l := []) (nv := nv0) (fz := fz0) (dr := dr25) (dd := dd25) (lam := []) (ms := ⟨[(74, F), (73, G), (79, H)], lnL [(31, [1000001]), (33, [1000001]), (36, [1000001])], []⟩) trivial hJ trivial ⟨⟨sF, sG, sH, trivial⟩, trivial⟩ Tryz.func25 rfl rfl (Nat.le_of_ble_eq_true rfl) (Nat.le_of_ble_eq_true rfl) drOk25 rfl ?_
 dsimp only [Tryz.f25, dr25, dd25, Option.getD_some]
 refine ev_start ?_
 simp (disch := omega) only [hD.mv, hD.bk, bin_eql_str, eq_self, q0, e1, e2, e3, go_sem, evP_D, evD_guard, evD_cons, evD_zero, evD_nil]
theorem read_close {D : V} (hD : opq D) (ws : List ByteArray) (hl : ws.length ≤ 100000) (key c : ByteArray) (n : Int) (h1 : ws[1]? = some key) (h2 : ws[2]? = some (itoaB n)) (hn : numOk n) (h3 : ws[3]? = some c) :
  MutAt Tryz.prog DkJ 25 [.box D, wdB ws 1] [.ptr 1000000 0, .str ⟨#[99, 108, 111, 115, 101]⟩, .ptr 1000001 0] (.fn 84 [.ptr 1000002 0, .ptr 1000003 0, .ptr 1000004 0, .ptr 1000005 0]) [.box D, wdB ws 4, .box (.ptr 1000000 0), .box (.str key), .box (.int .i64 n), .box (.str c)] := by
 have hJ := stableDk
 have q0 : decide ((⟨#[99, 108, 111, 115, 101]⟩ : ByteArray) = ⟨#[97, 99, 99, 116]⟩) = false := by decide
 have q1 : decide ((⟨#[99, 108, 111, 115, 101]⟩ : ByteArray) = ⟨#[112, 111, 115, 116]⟩) = false := by decide
 have q2 : decide ((⟨#[99, 108, 111, 115, 101]⟩ : ByteArray) = ⟨#[115, 104, 117, 116]⟩) = false := by decide
 obtain ⟨F, hF, sF⟩ := next_ex hJ ws hl
 obtain ⟨G, hG, sG⟩ := num_ex ws hl
 have e1 : F [.box (.agg [.row 1 (ws.map V.str), .int .i64 1])] [.ptr 1000000 0] = some (_, [.box (.agg [.row 1 (ws.map V.str), .int .i64 2])]) := hF 1 _ h1
 have e2 : G [.box (.agg [.row 1 (ws.map V.str), .int .i64 2])] [.ptr 1000000 0] = some (_, [.box (.agg [.row 1 (ws.map V.str), .int .i64 3])]) := hG 2 _ h2 hn
 have e3 : F [.box (.agg [.row 1 (ws.map V.str), .int .i64 3])] [.ptr 1000000 0] = some (_, [.box (.agg [.row 1 (ws.map V.str), .int .i64 4])]) := hF 3 _ h3
 unfold wdB at *
 refine evMut (nn := [24, 88, 96, 104]) (l := []) (nv := nv0) (fz := fz0) (dr := dr25) (dd := dd25) (lam := []) (ms := ⟨[(74, F), (73, G)], lnL [(47, [1000001]), (49, [1000001]), (51, [1000001])], []⟩) trivial hJ trivial ⟨⟨sF, sG, trivial⟩, trivial⟩ Tryz.func25 rfl rfl (Nat.le_of_ble_eq_true rfl) (Nat.le_of_ble_eq_true rfl) drOk25 rfl ?_
 dsimp only [Tryz.f25, dr25, dd25, Option.getD_some]
 refine ev_start ?_
 simp (disch := omega) only [hD.mv, hD.bk, bin_eql_str, eq_self, q0, q1, q2, e1, e2, e3, go_sem, evP_D, evD_guard, evD_cons, evD_zero, evD_nil]
theorem read_undo {D : V} (hD : opq D) (ws : List ByteArray) (hl : ws.length ≤ 100000) (key c : ByteArray) (n : Int) (h1 : ws[1]? = some key) (h2 : ws[2]? = some c) (h3 : ws[3]? = some (itoaB n)) (hn : numOk n) :
  MutAt Tryz.prog DkJ 25 [.box D, wdB ws 1] [.ptr 1000000 0, .str ⟨#[117, 110, 100, 111]⟩, .ptr 1000001 0] (.fn 86 [.ptr 1000002 0, .ptr 1000003 0, .ptr 1000004 0, .ptr 1000005 0]) [.box D, wdB ws 4, .box (.ptr 1000000 0), .box (.str key), .box (.str c), .box (.int .i64 n)] := by
 have hJ := stableDk
 have q0 : decide ((⟨#[117, 110, 100, 111]⟩ : ByteArray) = ⟨#[97, 99, 99, 116]⟩) = false := by decide
 have q1 : decide ((⟨#[117, 110, 100, 111]⟩ : ByteArray) = ⟨#[112, 111, 115, 116]⟩) = false := by decide
 have q2 : decide ((⟨#[117, 110, 100, 111]⟩ : ByteArray) = ⟨#[115, 104, 117, 116]⟩) = false := by decide
 have q3 : decide ((⟨#[117, 110, 100, 111]⟩ : ByteArray) = ⟨#[99, 108, 111, 115, 101]⟩) = false := by decide
 obtain ⟨F, hF, sF⟩ := next_ex hJ ws hl
 obtain ⟨G, hG, sG⟩ := num_ex ws hl
 have e1 : F [.box (.agg [.row 1 (ws.map V.str), .int .i64 1])] [.ptr 1000000 0] = some (_, [.box (.agg [.row 1 (ws.map V.str), .int .i64 2])]) := hF 1 _ h1
 have e2 : F [.box (.agg [.row 1 (ws.map V.str), .int .i64 2])] [.ptr 1000000 0] = some (_, [.box (.agg [.row 1 (ws.map V.str), .int .i64 3])]) := hF 2 _ h2
 have e3 : G [.box (.agg [.row 1 (ws.map V.str), .int .i64 3])] [.ptr 1000000 0] = some (_, [.box (.agg [.row 1 (ws.map V.str), .int .i64 4])]) := hG 3 _ h3 hn
 unfold wdB at *
 refine evMut (nn := [24, 112, 120, 128]) (l := []) (nv := nv0) (fz := fz0) (dr := dr25) (dd := dd25) (lam := []) (ms := ⟨[(74, F), (73, G)], lnL [(56, [1000001]), (58, [1000001]), (60, [1000001])], []⟩) trivial hJ trivial ⟨⟨sF, sG, trivial⟩, trivial⟩ Tryz.func25 rfl rfl (Nat.le_of_ble_eq_true rfl) (Nat.le_of_ble_eq_true rfl) drOk25 rfl ?_
 dsimp only [Tryz.f25, dr25, dd25, Option.getD_some]
 refine ev_start ?_
 simp (disch := omega) only [hD.mv, hD.bk, bin_eql_str, eq_self, q0, q1, q2, q3, e1, e2, e3, go_sem, evP_D, evD_guard, evD_cons, evD_zero, evD_nil]
theorem read_run {D : V} (hD : opq D) (ws : List ByteArray) (hl : ws.length ≤ 100000) (n : Int) (h1 : ws[1]? = some (itoaB n)) (hn : numOk n) :
  MutAt Tryz.prog DkJ 25 [.box D, wdB ws 1] [.ptr 1000000 0, .str ⟨#[114, 117, 110]⟩, .ptr 1000001 0] (.fn 91 [.ptr 1000002 0, .ptr 1000003 0]) [.box D, wdB ws 2, .box (.ptr 1000000 0), .box (.int .i64 n)] := by
 have hJ := stableDk
 have q0 : decide ((⟨#[114, 117, 110]⟩ : ByteArray) = ⟨#[97, 99, 99, 116]⟩) = false := by decide
 have q1 : decide ((⟨#[114, 117, 110]⟩ : ByteArray) = ⟨#[112, 111, 115, 116]⟩) = false := by decide
 have q2 : decide ((⟨#[114, 117, 110]⟩ : ByteArray) = ⟨#[115, 104, 117, 116]⟩) = false := by decide
 have q3 : decide ((⟨#[114, 117, 110]⟩ : ByteArray) = ⟨#[99, 108, 111, 115, 101]⟩) = false := by decide
 have q4 : decide ((⟨#[114, 117, 110]⟩ : ByteArray) = ⟨#[117, 110, 100, 111]⟩) = false := by decide
 have q5 : decide ((⟨#[114, 117, 110]⟩ : ByteArray) = ⟨#[112, 108, 97, 110]⟩) = false := by decide
 obtain ⟨G, hG, sG⟩ := num_ex ws hl
 have e1 : G [.box (.agg [.row 1 (ws.map V.str), .int .i64 1])] [.ptr 1000000 0] = some (_, [.box (.agg [.row 1 (ws.map V.str), .int .i64 2])]) := hG 1 _ h1 hn
 unfold wdB at *
 refine evMut (nn := [24, 152]) (l := []) (nv := nv0) (fz := fz0) (dr := dr25) (dd := dd25) (lam := []) (ms := ⟨[(73, G)], lnL [(95, [1000001])], []⟩) trivial hJ trivial ⟨⟨sG, trivial⟩, trivial⟩ Tryz.func25 rfl rfl (Nat.le_of_ble_eq_true rfl) (Nat.le_of_ble_eq_true rfl) drOk25 rfl ?_
 dsimp only [Tryz.f25, dr25, dd25, Option.getD_some]
 refine ev_start ?_
 simp (disch := omega) only [hD.mv, hD.bk, bin_eql_str, eq_self, q0, q1, q2, q3, q4, q5, e1, go_sem, evP_D, evD_guard, evD_cons, evD_zero, evD_nil]
theorem read_plan {D : V} (hD : opq D) (ws : List ByteArray) (hl : ws.length ≤ 100000) (key x y : ByteArray) (a b c d : Int) (h1 : ws[1]? = some key) (h2 : ∀ (i : Nat) n, [a, b, c, d][i]? = some n → ws[2 + i]? = some (itoaB n)) (hn : ∀ n ∈ [a, b, c, d], -9999999999999 ≤ n ∧ n ≤ 9999999999999) (h6 : ws[6]? = some x) (h7 : ws[7]? = some y) :
  MutAt Tryz.prog DkJ 25 [.box D, wdB ws 1] [.ptr 1000000 0, .str ⟨#[112, 108, 97, 110]⟩, .ptr 1000001 0] (.fn 88 [.ptr 1000002 0, .ptr 1000003 0]) [.box D, wdB ws 8, .box (.ptr 1000000 0), .box (.agg [.str key, .int .i64 a, .int .i64 b, .int .i64 c, .int .i64 d, .str x, .str y])] := by
 have hJ := stableDk
 have q0 : decide ((⟨#[112, 108, 97, 110]⟩ : ByteArray) = ⟨#[97, 99, 99, 116]⟩) = false := by decide
 have q1 : decide ((⟨#[112, 108, 97, 110]⟩ : ByteArray) = ⟨#[112, 111, 115, 116]⟩) = false := by decide
 have q2 : decide ((⟨#[112, 108, 97, 110]⟩ : ByteArray) = ⟨#[115, 104, 117, 116]⟩) = false := by decide
 have q3 : decide ((⟨#[112, 108, 97, 110]⟩ : ByteArray) = ⟨#[99, 108, 111, 115, 101]⟩) = false := by decide
 have q4 : decide ((⟨#[112, 108, 97, 110]⟩ : ByteArray) = ⟨#[117, 110, 100, 111]⟩) = false := by decide
 obtain ⟨F, hF, sF⟩ := next_ex hJ ws hl
 obtain ⟨H, e2', sH⟩ := one_mu (nums_mut ws 2 [a, b, c, d] h2 hn hl (by simp))
 have e2 : H [.box (.agg [.row 1 (ws.map V.str), .int .i64 2])] [.ptr 1000000 0, .int .i64 4] = some (.row 1 [.int .i64 a, .int .i64 b, .int .i64 c, .int .i64 d], [.box (.agg [.row 1 (ws.map V.str), .int .i64 6])]) := e2'
 have e1 : F [.box (.agg [.row 1 (ws.map V.str), .int .i64 1])] [.ptr 1000000 0] = some (_, [.box (.agg [.row 1 (ws.map V.str), .int .i64 2])]) := hF 1 _ h1
 have e3 : F [.box (.agg [.row 1 (ws.map V.str), .int .i64 6])] [.ptr 1000000 0] = some (_, [.box (.agg [.row 1 (ws.map V.str), .int .i64 7])]) := hF 6 _ h6
 have e4 : F [.box (.agg [.row 1 (ws.map V.str), .int .i64 7])] [.ptr 1000000 0] = some (_, [.box (.agg [.row 1 (ws.map V.str), .int .i64 8])]) := hF 7 _ h7
 unfold wdB at *
 have i0 : idx 4 0 = some 0 := by decide
 have i1 : idx 4 1 = some 1 := by decide
 have i2 : idx 4 2 = some 2 := by decide
 have i3 : idx 4 3 = some 3 := by decide
 refine evMut (nn := [24, 136]) (l := []) (nv := nv0) (fz := fz0) (dr := dr25) (dd := dd25) (lam := []) (ms := ⟨[(74, F), (22, H)], lnL [(65, [1000001]), (68, [1000001]), (86, [1000001]), (88, [1000001])], []⟩) trivial hJ trivial ⟨⟨sF, sH, trivial⟩, trivial⟩ Tryz.func25 rfl rfl (Nat.le_of_ble_eq_true rfl) (Nat.le_of_ble_eq_true rfl) drOk25 rfl ?_
 dsimp only [Tryz.f25, dr25, dd25, Option.getD_some]
 refine ev_start ?_
 simp (disch := omega) only [hD.mv, hD.bk, bin_eql_str, eq_self, q0, q1, q2, q3, q4, e1, e2, e3, e4, i0, i1, i2, i3, go_sem, evP_D, evD_guard, evD_cons, evD_zero, evD_nil]
theorem look_balance {D : V} (hD : opq D) (ws : List ByteArray) (hl : ws.length ≤ 100000) (c : ByteArray) (n : Int) (h1 : ws[1]? = some c) (h2 : ws[2]? = some (itoaB n)) (hn : numOk n) :
  MutAt Tryz.prog DkJ 93 [.box D, wdB ws 1] [.ptr 1000000 0, .str ⟨#[98, 97, 108, 97, 110, 99, 101]⟩, .ptr 1000001 0] (.fn 143 [.ptr 1000002 0, .ptr 1000003 0, .ptr 1000004 0]) [.box D, wdB ws 3, .box (.ptr 1000000 0), .box (.str c), .box (.int .i64 n)] := by
 have hJ := stableDk
 obtain ⟨F, hF, sF⟩ := next_ex hJ ws hl
 obtain ⟨G, hG, sG⟩ := num_ex ws hl
 have e1 : F [.box (.agg [.row 1 (ws.map V.str), .int .i64 1])] [.ptr 1000000 0] = some (_, [.box (.agg [.row 1 (ws.map V.str), .int .i64 2])]) := hF 1 _ h1
 have e2 : G [.box (.agg [.row 1 (ws.map V.str), .int .i64 2])] [.ptr 1000000 0] = some (_, [.box (.agg [.row 1 (ws.map V.str), .int .i64 3])]) := hG 2 _ h2 hn
 unfold wdB at *
 refine evMut (nn := [24, 56, 64]) (l := []) (nv := nv0) (fz := fz0) (dr := dr93) (dd := dd93) (lam := []) (ms := ⟨[(74, F), (73, G)], lnL [(17, [1000001]), (19, [1000001])], []⟩) trivial hJ trivial ⟨⟨sF, sG, trivial⟩, trivial⟩ Tryz.func93 rfl rfl (Nat.le_of_ble_eq_true rfl) (Nat.le_of_ble_eq_true rfl) drOk93 rfl ?_
 dsimp only [Tryz.f93, dr93, dd93, Option.getD_some]
 refine ev_start ?_
 simp (disch := omega) only [hD.mv, hD.bk, bin_eql_str, eq_self, e1, e2, go_sem, evP_D, evD_guard, evD_cons, evD_zero, evD_nil]
theorem look_profit {D : V} (hD : opq D) (ws : List ByteArray) (hl : ws.length ≤ 100000) (m n : Int) (h1 : ws[1]? = some (itoaB m)) (hm : numOk m) (h2 : ws[2]? = some (itoaB n)) (hn : numOk n) :
  MutAt Tryz.prog DkJ 93 [.box D, wdB ws 1] [.ptr 1000000 0, .str ⟨#[112, 114, 111, 102, 105, 116]⟩, .ptr 1000001 0] (.fn 144 [.ptr 1000002 0, .ptr 1000003 0, .ptr 1000004 0]) [.box D, wdB ws 3, .box (.ptr 1000000 0), .box (.int .i64 m), .box (.int .i64 n)] := by
 have hJ := stableDk
 have q0 : decide ((⟨#[112, 114, 111, 102, 105, 116]⟩ : ByteArray) = ⟨#[98, 97, 108, 97, 110, 99, 101]⟩) = false := by decide
 obtain ⟨G, hG, sG⟩ := num_ex ws hl
 have e1 : G [.box (.agg [.row 1 (ws.map V.str), .int .i64 1])] [.ptr 1000000 0] = some (_, [.box (.agg [.row 1 (ws.map V.str), .int .i64 2])]) := hG 1 _ h1 hm
 have e2 : G [.box (.agg [.row 1 (ws.map V.str), .int .i64 2])] [.ptr 1000000 0] = some (_, [.box (.agg [.row 1 (ws.map V.str), .int .i64 3])]) := hG 2 _ h2 hn
 unfold wdB at *
 refine evMut (nn := [24, 72, 80]) (l := []) (nv := nv0) (fz := fz0) (dr := dr93) (dd := dd93) (lam := []) (ms := ⟨[(73, G)], lnL [(24, [1000001]), (26, [1000001])], []⟩) trivial hJ trivial ⟨⟨sG, trivial⟩, trivial⟩ Tryz.func93 rfl rfl (Nat.le_of_ble_eq_true rfl) (Nat.le_of_ble_eq_true rfl) drOk93 rfl ?_
 dsimp only [Tryz.f93, dr93, dd93, Option.getD_some]
 refine ev_start ?_
 simp (disch := omega) only [hD.mv, hD.bk, bin_eql_str, eq_self, q0, e1, e2, go_sem, evP_D, evD_guard, evD_cons, evD_zero, evD_nil]
theorem look_trial {D : V} (hD : opq D) (ws : List ByteArray) (hl : ws.length ≤ 100000) (n : Int) (h1 : ws[1]? = some (itoaB n)) (hn : numOk n) :
  MutAt Tryz.prog DkJ 93 [.box D, wdB ws 1] [.ptr 1000000 0, .str ⟨#[116, 114, 105, 97, 108]⟩, .ptr 1000001 0] (.fn 146 [.ptr 1000002 0, .ptr 1000003 0]) [.box D, wdB ws 2, .box (.ptr 1000000 0), .box (.int .i64 n)] := by
 have hJ := stableDk
 have q0 : decide ((⟨#[116, 114, 105, 97, 108]⟩ : ByteArray) = ⟨#[98, 97, 108, 97, 110, 99, 101]⟩) = false := by decide
 have q1 : decide ((⟨#[116, 114, 105, 97, 108]⟩ : ByteArray) = ⟨#[112, 114, 111, 102, 105, 116]⟩) = false := by decide
 obtain ⟨G, hG, sG⟩ := num_ex ws hl
 have e1 : G [.box (.agg [.row 1 (ws.map V.str), .int .i64 1])] [.ptr 1000000 0] = some (_, [.box (.agg [.row 1 (ws.map V.str), .int .i64 2])]) := hG 1 _ h1 hn
 unfold wdB at *
 refine evMut (nn := [24, 88]) (l := []) (nv := nv0) (fz := fz0) (dr := dr93) (dd := dd93) (lam := []) (ms := ⟨[(73, G)], lnL [(31, [1000001])], []⟩) trivial hJ trivial ⟨⟨sG, trivial⟩, trivial⟩ Tryz.func93 rfl rfl (Nat.le_of_ble_eq_true rfl) (Nat.le_of_ble_eq_true rfl) drOk93 rfl ?_
 dsimp only [Tryz.f93, dr93, dd93, Option.getD_some]
 refine ev_start ?_
 simp (disch := omega) only [hD.mv, hD.bk, bin_eql_str, eq_self, q0, q1, e1, go_sem, evP_D, evD_guard, evD_cons, evD_zero, evD_nil]
theorem read_balance {D : V} (hD : opq D) (ws : List ByteArray) (hl : ws.length ≤ 100000) (c : ByteArray) (n : Int) (h1 : ws[1]? = some c) (h2 : ws[2]? = some (itoaB n)) (hn : numOk n) :
  MutAt Tryz.prog DkJ 25 [.box D, wdB ws 1] [.ptr 1000000 0, .str ⟨#[98, 97, 108, 97, 110, 99, 101]⟩, .ptr 1000001 0] (.fn 143 [.ptr 1000002 0, .ptr 1000003 0, .ptr 1000004 0]) [.box D, wdB ws 3, .box (.ptr 1000000 0), .box (.str c), .box (.int .i64 n)] := by
 have hJ := stableDk
 have q0 : decide ((⟨#[98, 97, 108, 97, 110, 99, 101]⟩ : ByteArray) = ⟨#[97, 99, 99, 116]⟩) = false := by decide
 have q1 : decide ((⟨#[98, 97, 108, 97, 110, 99, 101]⟩ : ByteArray) = ⟨#[112, 111, 115, 116]⟩) = false := by decide
 have q2 : decide ((⟨#[98, 97, 108, 97, 110, 99, 101]⟩ : ByteArray) = ⟨#[115, 104, 117, 116]⟩) = false := by decide
 have q3 : decide ((⟨#[98, 97, 108, 97, 110, 99, 101]⟩ : ByteArray) = ⟨#[99, 108, 111, 115, 101]⟩) = false := by decide
 have q4 : decide ((⟨#[98, 97, 108, 97, 110, 99, 101]⟩ : ByteArray) = ⟨#[117, 110, 100, 111]⟩) = false := by decide
 have q5 : decide ((⟨#[98, 97, 108, 97, 110, 99, 101]⟩ : ByteArray) = ⟨#[112, 108, 97, 110]⟩) = false := by decide
 have q6 : decide ((⟨#[98, 97, 108, 97, 110, 99, 101]⟩ : ByteArray) = ⟨#[114, 117, 110]⟩) = false := by decide
 obtain ⟨F, e1', sF⟩ := one_mu (look_balance hD ws hl c n h1 h2 hn)
 have e1 : F [.box D, .box (.agg [.row 1 (ws.map V.str), .int .i64 1])] [.ptr 1000000 0, _, .ptr 1000001 0] = some (_, [.box D, .box (.agg [.row 1 (ws.map V.str), .int .i64 3]), .box (.ptr 1000000 0), .box (.str c), .box (.int .i64 n)]) := e1'
 unfold wdB at *
 refine evMut (nn := [800, 801, 802]) (l := []) (nv := nv0) (fz := fz0) (dr := dr25) (dd := dd25) (lam := []) (ms := ⟨[(93, F)], lnL [(100, [1000000, 1000001])], []⟩) trivial hJ trivial ⟨⟨sF, trivial⟩, trivial⟩ Tryz.func25 rfl rfl (Nat.le_of_ble_eq_true rfl) (Nat.le_of_ble_eq_true rfl) drOk25 rfl ?_
 dsimp only [Tryz.f25, dr25, dd25, Option.getD_some]
 refine ev_start ?_
 simp (disch := omega) only [hD.mv, hD.bk, bin_eql_str, eq_self, q0, q1, q2, q3, q4, q5, q6, e1, go_sem, evP_D, evD_guard, evD_cons, evD_zero, evD_nil]
theorem read_profit {D : V} (hD : opq D) (ws : List ByteArray) (hl : ws.length ≤ 100000) (m n : Int) (h1 : ws[1]? = some (itoaB m)) (hm : numOk m) (h2 : ws[2]? = some (itoaB n)) (hn : numOk n) :
  MutAt Tryz.prog DkJ 25 [.box D, wdB ws 1] [.ptr 1000000 0, .str ⟨#[112, 114, 111, 102, 105, 116]⟩, .ptr 1000001 0] (.fn 144 [.ptr 1000002 0, .ptr 1000003 0, .ptr 1000004 0]) [.box D, wdB ws 3, .box (.ptr 1000000 0), .box (.int .i64 m), .box (.int .i64 n)] := by
 have hJ := stableDk
 have q0 : decide ((⟨#[112, 114, 111, 102, 105, 116]⟩ : ByteArray) = ⟨#[97, 99, 99, 116]⟩) = false := by decide
 have q1 : decide ((⟨#[112, 114, 111, 102, 105, 116]⟩ : ByteArray) = ⟨#[112, 111, 115, 116]⟩) = false := by decide
 have q2 : decide ((⟨#[112, 114, 111, 102, 105, 116]⟩ : ByteArray) = ⟨#[115, 104, 117, 116]⟩) = false := by decide
 have q3 : decide ((⟨#[112, 114, 111, 102, 105, 116]⟩ : ByteArray) = ⟨#[99, 108, 111, 115, 101]⟩) = false := by decide
 have q4 : decide ((⟨#[112, 114, 111, 102, 105, 116]⟩ : ByteArray) = ⟨#[117, 110, 100, 111]⟩) = false := by decide
 have q5 : decide ((⟨#[112, 114, 111, 102, 105, 116]⟩ : ByteArray) = ⟨#[112, 108, 97, 110]⟩) = false := by decide
 have q6 : decide ((⟨#[112, 114, 111, 102, 105, 116]⟩ : ByteArray) = ⟨#[114, 117, 110]⟩) = false := by decide
 obtain ⟨F, e1', sF⟩ := one_mu (look_profit hD ws hl m n h1 hm h2 hn)
 have e1 : F [.box D, .box (.agg [.row 1 (ws.map V.str), .int .i64 1])] [.ptr 1000000 0, _, .ptr 1000001 0] = some (_, [.box D, .box (.agg [.row 1 (ws.map V.str), .int .i64 3]), .box (.ptr 1000000 0), .box (.int .i64 m), .box (.int .i64 n)]) := e1'
 unfold wdB at *
 refine evMut (nn := [800, 801, 802]) (l := []) (nv := nv0) (fz := fz0) (dr := dr25) (dd := dd25) (lam := []) (ms := ⟨[(93, F)], lnL [(100, [1000000, 1000001])], []⟩) trivial hJ trivial ⟨⟨sF, trivial⟩, trivial⟩ Tryz.func25 rfl rfl (Nat.le_of_ble_eq_true rfl) (Nat.le_of_ble_eq_true rfl) drOk25 rfl ?_
 dsimp only [Tryz.f25, dr25, dd25, Option.getD_some]
 refine ev_start ?_
 simp (disch := omega) only [hD.mv, hD.bk, bin_eql_str, eq_self, q0, q1, q2, q3, q4, q5, q6, e1, go_sem, evP_D, evD_guard, evD_cons, evD_zero, evD_nil]
theorem read_trial {D : V} (hD : opq D) (ws : List ByteArray) (hl : ws.length ≤ 100000) (n : Int) (h1 : ws[1]? = some (itoaB n)) (hn : numOk n) :
  MutAt Tryz.prog DkJ 25 [.box D, wdB ws 1] [.ptr 1000000 0, .str ⟨#[116, 114, 105, 97, 108]⟩, .ptr 1000001 0] (.fn 146 [.ptr 1000002 0, .ptr 1000003 0]) [.box D, wdB ws 2, .box (.ptr 1000000 0), .box (.int .i64 n)] := by
 have hJ := stableDk
 have q0 : decide ((⟨#[116, 114, 105, 97, 108]⟩ : ByteArray) = ⟨#[97, 99, 99, 116]⟩) = false := by decide
 have q1 : decide ((⟨#[116, 114, 105, 97, 108]⟩ : ByteArray) = ⟨#[112, 111, 115, 116]⟩) = false := by decide
 have q2 : decide ((⟨#[116, 114, 105, 97, 108]⟩ : ByteArray) = ⟨#[115, 104, 117, 116]⟩) = false := by decide
 have q3 : decide ((⟨#[116, 114, 105, 97, 108]⟩ : ByteArray) = ⟨#[99, 108, 111, 115, 101]⟩) = false := by decide
 have q4 : decide ((⟨#[116, 114, 105, 97, 108]⟩ : ByteArray) = ⟨#[117, 110, 100, 111]⟩) = false := by decide
 have q5 : decide ((⟨#[116, 114, 105, 97, 108]⟩ : ByteArray) = ⟨#[112, 108, 97, 110]⟩) = false := by decide
 have q6 : decide ((⟨#[116, 114, 105, 97, 108]⟩ : ByteArray) = ⟨#[114, 117, 110]⟩) = false := by decide
 obtain ⟨F, e1', sF⟩ := one_mu (look_trial hD ws hl n h1 hn)
 have e1 : F [.box D, .box (.agg [.row 1 (ws.map V.str), .int .i64 1])] [.ptr 1000000 0, _, .ptr 1000001 0] = some (_, [.box D, .box (.agg [.row 1 (ws.map V.str), .int .i64 2]), .box (.ptr 1000000 0), .box (.int .i64 n)]) := e1'
 unfold wdB at *
 refine evMut (nn := [800, 801]) (l := []) (nv := nv0) (fz := fz0) (dr := dr25) (dd := dd25) (lam := []) (ms := ⟨[(93, F)], lnL [(100, [1000000, 1000001])], []⟩) trivial hJ trivial ⟨⟨sF, trivial⟩, trivial⟩ Tryz.func25 rfl rfl (Nat.le_of_ble_eq_true rfl) (Nat.le_of_ble_eq_true rfl) drOk25 rfl ?_
 dsimp only [Tryz.f25, dr25, dd25, Option.getD_some]
 refine ev_start ?_
 simp (disch := omega) only [hD.mv, hD.bk, bin_eql_str, eq_self, q0, q1, q2, q3, q4, q5, q6, e1, go_sem, evP_D, evD_guard, evD_cons, evD_zero, evD_nil]
end Go.Proofs.YtcmpjagpggjfiaaGreatDoor
