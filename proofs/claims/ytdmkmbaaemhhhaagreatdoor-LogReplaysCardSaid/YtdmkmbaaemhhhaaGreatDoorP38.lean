/-
  Sorting by a function that is handed in, run by the machine: patterns are broken.
-/
import Derived.Test.YtdmkmbaaemhhhaaGreatDoorP37
import Derived.Test.YtdmkmbaaemhhhaaGreatDoorP11
import Derived.Test.YtdmkmbaaemhhhaaGreatDoorP12
import Derived.Shelf.SlSortFunc.Xorshift
set_option linter.unusedVariables false
set_option linter.unusedSimpArgs false
namespace Go.So
open Go Go.Ev Go.Sort
theorem u64w {x : Int} (h : 0 ≤ x ∧ x ≤ 18446744073709551615) : IntKind.u64.wrap x = x := by rw [IntKind.wrap_u64]; omega
theorem toN64 (x : Nat) (h : x < 18446744073709551616) : (BitVec.ofInt 64 (x : Int)).toNat = x := by
 rw [BitVec.toNat_ofInt]
 omega
theorem shl13 (x : Nat) : binV .shl (.int .u64 (x : Int)) (.int .u64 13) = some (.int .u64 ((x * 8192 % 18446744073709551616 : Nat) : Int)) := by
 have e : binV .shl (.int .u64 (x : Int)) (.int .u64 13) = some (.int .u64 (IntKind.u64.wrap ((x : Int) * 8192))) := rfl
 rw [e, IntKind.wrap_u64]
 congr 2
theorem shl17 (x : Nat) : binV .shl (.int .u64 (x : Int)) (.int .u64 17) = some (.int .u64 ((x * 131072 % 18446744073709551616 : Nat) : Int)) := by
 have e : binV .shl (.int .u64 (x : Int)) (.int .u64 17) = some (.int .u64 (IntKind.u64.wrap ((x : Int) * 131072))) := rfl
 rw [e, IntKind.wrap_u64]
 congr 2
theorem shr7 (x : Nat) : binV .shr (.int .u64 (x : Int)) (.int .u64 7) = some (.int .u64 ((x / 128 : Nat) : Int)) := by
 have e : binV .shr (.int .u64 (x : Int)) (.int .u64 7) = some (.int .u64 ((x : Int).fdiv 128)) := rfl
 rw [e, Int.fdiv_eq_ediv_of_nonneg _ (by omega)]
 rfl
theorem xorU (x y : Nat) (hx : x < 18446744073709551616) (hy : y < 18446744073709551616) : binV .xor (.int .u64 (x : Int)) (.int .u64 (y : Int)) = some (.int .u64 ((x ^^^ y : Nat) : Int)) := by
 have hb : x ^^^ y < 2 ^ 64 := Nat.xor_lt_two_pow hx hy
 rw [bin_xor, BitVec.toNat_xor]
 show some (V.int .u64 (IntKind.u64.wrap (((BitVec.ofInt 64 (x : Int)).toNat ^^^ (BitVec.ofInt 64 (y : Int)).toNat : Nat) : Int))) = _
 rw [toN64 x hx, toN64 y hy, u64w (by omega)]
theorem andU (x y : Nat) (hx : x < 18446744073709551616) (hy : y < 18446744073709551616) : binV .and (.int .u64 (x : Int)) (.int .u64 (y : Int)) = some (.int .u64 ((x &&& y : Nat) : Int)) := by
 have hb : x &&& y ≤ y := Nat.and_le_right
 rw [bin_and, BitVec.toNat_and]
 show some (V.int .u64 (IntKind.u64.wrap (((BitVec.ofInt 64 (x : Int)).toNat &&& (BitVec.ofInt 64 (y : Int)).toNat : Nat) : Int))) = _
 rw [toN64 x hx, toN64 y hy, u64w (by omega)]
end Go.So
namespace Go.Proofs.YtdmkmbaaemhhhaaGreatDoor
open Go Go.Ev Go.RowKit Go.Sort Go.So
set_option maxHeartbeats 4000000
set_option maxHeartbeats 4000000 in
theorem next_mut {J : World → Prop} (hJ : Stable J) (x : Nat) (hx : x < 18446744073709551616) :
  MutAt Tryz.prog J 181 [.box (.int .u64 x)] [.ptr 1000000 0] (.int .u64 (xorNextN x)) [.box (.int .u64 (xorNextN x))] := by
 obtain ⟨x1, hx1⟩ : ∃ x1, x1 = x * 8192 % 18446744073709551616 := ⟨_, rfl⟩
 have p1 := shl13 x
 rw [← hx1] at p1
 have lx1 : x1 < 18446744073709551616 := by omega
 obtain ⟨p, hp⟩ : ∃ p, p = x ^^^ x1 := ⟨_, rfl⟩
 have p2 := xorU x x1 hx lx1
 rw [← hp] at p2
 have hp1 : p < 18446744073709551616 := by rw [hp]; exact Nat.xor_lt_two_pow (n := 64) hx lx1
 obtain ⟨x2, hx2⟩ : ∃ x2, x2 = p / 128 := ⟨_, rfl⟩
 have q1 := shr7 p
 rw [← hx2] at q1
 have lx2 : x2 < 18446744073709551616 := by omega
 obtain ⟨q, hq⟩ : ∃ q, q = p ^^^ x2 := ⟨_, rfl⟩
 have q2 := xorU p x2 hp1 lx2
 rw [← hq] at q2
 have hq1 : q < 18446744073709551616 := by rw [hq]; exact Nat.xor_lt_two_pow (n := 64) hp1 lx2
 obtain ⟨x3, hx3⟩ : ∃ x3, x3 = q * 131072 % 18446744073709551616 := ⟨_, rfl⟩
 have r1 := shl17 q
 rw [← hx3] at r1
 have r2 := xorU q x3 hq1 (by omega)
 have e : xorNextN x = q ^^^ x3 := by
  unfold xorNextN
  rw [hx3, hq, hx2, hp, hx1]
 rw [← e] at r2
 obtain ⟨z, hz⟩ : ∃ z, z = xorNextN x := ⟨_, rfl⟩
 rw [← hz] at r2 ⊢
 clear hz e hx3 hq hx2 hp hx1
 refine evMut (l := []) (nv := nv0) (fz := fz0) (dr := dr181) (dd := dd181) (lam := []) (ms := ms0) trivial hJ trivial ms0_ok Tryz.func181 rfl rfl (Nat.le_of_ble_eq_true rfl) (Nat.le_of_ble_eq_true rfl) drOk181 rfl rfl ?_ ?_
 rotate_left
 dsimp only [Tryz.f181, dr181, dd181, Option.getD_some]
 refine ev_start ?_
 ·simp (disch := omega) only [p1, p2, q1, q2, r1, r2, go_sem, evP_D, evD_guard, evD_cons, evD_zero, evD_nil]
 ·intro k hk
  simp only [List.mem_cons, List.not_mem_nil, or_false] at hk
  subst hk
  rfl
theorem nextx {J : World → Prop} (hJ : Stable J) : ∃ F : List Blk → List V → Option (V × List Blk), (∀ x : Nat, x < 18446744073709551616 → F [.box (.int .u64 x)] [.ptr 1000000 0] = some (.int .u64 (xorNextN x), [.box (.int .u64 (xorNextN x))])) ∧ Mu Tryz.prog J 181 F := by
 obtain ⟨F, h1, h2⟩ := famM (P := Tryz.prog) (J := J) (f := 181) (fun q : { x : Nat // x < 18446744073709551616 } => [Blk.box (.int .u64 q.1)]) (fun _ => [.ptr 1000000 0]) (fun q => (.int .u64 (xorNextN q.1), [.box (.int .u64 (xorNextN q.1))])) (fun i j e _ => by
   simp only [List.cons.injEq, Blk.box.injEq, V.int.injEq, true_and, and_true, Int.natCast_inj] at e
   rw [e]) fun q => next_mut hJ q.1 q.2
 exact ⟨F, fun x hx => h1 ⟨x, hx⟩, h2⟩
section
variable {J : World → Prop} (hJ : Stable J) {α : Type} [Inhabited α] (S : So Tryz.prog J famF α)
def brk (a L m i0 : Nat) (st : UInt64 × Array α) : Nat → UInt64 × Array α
 | 0 => st
 | t + 1 => breakStep a L m (brk a L m i0 st t) (i0 + t)
include hJ in
set_option maxRecDepth 100000 in
set_option maxHeartbeats 8000000 in
theorem break_mut (D : Array α) (a b : Nat) (hab : a + 12 < b) (hb : b ≤ D.size) (hsz : D.size < 1152921504606846976) :
  MutAt Tryz.prog J 134 (S.ks D) [S.dV, .int .i64 a, .int .i64 b] (.tup []) (S.ks (breakPatterns D a b)) := by
 have hend := S.ksLone (breakPatterns D a b)
 obtain ⟨F, hF, sF⟩ := nextx (J := J) hJ
 have n1 := S.farS 181 (by simp [famF])
 have n2 := S.farS 180 (by simp [famF])
 obtain ⟨L, hL⟩ : ∃ L, L = b - a := ⟨_, rfl⟩
 obtain ⟨m, hm⟩ : ∃ m : Nat, m = 1 <<< bitsLen L := ⟨_, rfl⟩
 have hm1 : 1 ≤ m := by rw [hm, Nat.one_shiftLeft]; exact Nat.two_pow_pos _
 have hm2 : m ≤ 2 * L := by rw [hm, Nat.one_shiftLeft]; exact two_pow_bitsLen_le (by omega)
 have hN : SoundAt Tryz.prog J 180 [.int .i64 L] (.int .u64 m) [] := sound_plain (callOk Tryz.func180 rfl rfl) rfl rfl fun w _ => (show Calls Tryz.prog 180 _ w _ from Any.nextPowerOfTwo { Tryz.laysGg6 with } L (by omega) w).mono (by rintro e w' ⟨rfl, rfl⟩; rw [← hm]; exact ⟨rfl, .refl _ _⟩)
 obtain ⟨q, hq⟩ : ∃ q, q = L / 4 := ⟨_, rfl⟩
 have t1 : ((b : Int) - (a : Int)) = (L : Int) := by omega
 have t2 : (L : Int).tdiv 4 = (q : Int) := by rw [Int.tdiv_eq_ediv_of_nonneg (by omega)]; omega
 have t3 : ((m : Int) - 1) = ((m - 1 : Nat) : Int) := by omega
 have g8 : (8 : Int) ≤ (L : Int) := by omega
 obtain ⟨Bk, hB0, hB1⟩ : ∃ Bk : Nat → UInt64 × Array α, Bk 0 = (UInt64.ofNat L, D) ∧ ∀ t, Bk (t + 1) = breakStep a L m (Bk t) (a + q * 2 - 1 + t) := ⟨brk a L m (a + q * 2 - 1) (UInt64.ofNat L, D), rfl, fun t => rfl⟩
 have hBs : ∀ t, (Bk t).2.size = D.size := by
  intro t
  induction t with
  | zero => rw [hB0]
  | succ t ih => rw [hB1, ← ih]; unfold breakStep; exact size_swp _ _ _
 have hB : breakPatterns D a b = (Bk 3).2 := by
  have e3 : Bk 3 = breakStep a L m (Bk 2) (a + q * 2 - 1 + 2) := hB1 2
  have e2 : Bk 2 = breakStep a L m (Bk 1) (a + q * 2 - 1 + 1) := hB1 1
  have e1 : Bk 1 = breakStep a L m (Bk 0) (a + q * 2 - 1 + 0) := hB1 0
  rw [e3, e2, e1, hB0]
  unfold breakPatterns
  simp only [← hL, ← hq, ← hm]
  rw [if_pos (by omega)]
  rfl
 rw [hB] at hend ⊢
 unfold So.dV
 unfold So.ks at hend ⊢
 refine evMut (l := [(180, at1 _ (_, []))]) (nv := nv0) (fz := fz0) (dr := dr134) (dd := dd134) (lam := []) (ms := ⟨[(S.sf, S.SF), (181, F)], lnL [(36, [56]), (53, [1000000, 1000001])], []⟩) ⟨at1_snd hN, trivial⟩ hJ trivial ⟨⟨S.hSF, sF, trivial⟩, trivial⟩ Tryz.func134 rfl rfl (Nat.le_of_ble_eq_true rfl) (Nat.le_of_ble_eq_true rfl) drOk134 rfl rfl ?_ ?_
 rotate_left
 dsimp only [Tryz.f134, dr134, dd134, Option.getD_some]
 refine ev_start ?_
 ·simp (disch := omega) only [t1, t2, g8, u64w, at1_eq, n2, go_sem, evP_D, evD_guard, evD_cons, evD_zero, evD_nil]
  refine evQ_loop [1, 3, 6, 7, 8, 9] [1000000, 1000001, 24, 56] (fun σ => ∃ (t : Nat), t ≤ 3 ∧ σ = ⟨[(1, .int .i64 a), (3, .ptr 24 0), (6, .int .i64 L), (7, .ptr 56 0), (8, .int .u64 m), (9, .int .i64 (((a : Int) + (q : Int) * 2 - 1) + t))], [(1000000, .vec S.T S.sz ((Bk t).2.toList.map S.enc)), (1000001, .box S.bv), (24, .box (.agg [.fn S.lf [.ptr 1000001 0], .fn S.sf [.vec 1000000, .raw S.hd]])), (56, .box (.int .u64 (((Bk t).1.toNat : Nat) : Int)))]⟩)
   (fun σ => ((a : Int) + (q : Int) * 2 + 2 - (match Ev.look 9 σ.env with | some (.int _ n) => n | _ => 0)).toNat) ?_ ?_
  ·simp only [S.br, go_sem, evP_D, evD_guard, evD_cons, evD_zero, evD_nil]
   have eL : (UInt64.ofNat L).toNat = L := by simp; omega
   exact ⟨0, by omega, by rw [hB0]; simp only [eL]; rw [show ((0 : Nat) : Int) = 0 from rfl, Int.add_zero]⟩
  ·rintro σ ⟨t, ht, rfl⟩
   have zt := hBs t
   by_cases ht3 : t < 3
   case neg =>
    have ht' : t = 3 := by omega
    subst ht'
    have hge : ¬ ((a : Int) + (q : Int) * 2 - 1 + 3) ≤ (a : Int) + (q : Int) * 2 + 1 := by omega
    simp (disch := omega) only [t2, hge, S.br, go_sem, evP_D, evD_guard, evD_cons, evD_zero, evD_nil]
   have hge : ((a : Int) + (q : Int) * 2 - 1 + (t : Int)) ≤ (a : Int) + (q : Int) * 2 + 1 := by omega
   have hs1 := hB1 t
   obtain ⟨st, hbt⟩ : ∃ st, st = Bk t := ⟨_, rfl⟩
   rw [← hbt] at zt hs1 ⊢
   obtain ⟨r, E⟩ := st
   simp only at zt
   have hr : r.toNat < 18446744073709551616 := r.toNat_lt
   have f1 := hF r.toNat hr
   have hr2 : xorNextN r.toNat < 18446744073709551616 := xorNextN_lt _ hr
   have f2 := andU (xorNextN r.toNat) (m - 1) hr2 (by omega)
   have hle : xorNextN r.toNat &&& (m - 1) ≤ m - 1 := Nat.and_le_right
   have hst : breakStep a L m (r, E) (a + q * 2 - 1 + t) = (xorNext r, swp E (a + q * 2 - 1 + t) (a + (if (xorNextN r.toNat &&& (m - 1)) ≥ L then (xorNextN r.toNat &&& (m - 1)) - L else (xorNextN r.toNat &&& (m - 1))))) := by
    unfold breakStep
    simp only [xorNext_toNat]
   rw [hst] at hs1
   obtain ⟨o, hoo⟩ : ∃ o, o = xorNextN r.toNat &&& (m - 1) := ⟨_, rfl⟩
   rw [← hoo] at f2 hle hs1
   have cI : ((a + q * 2 - 1 + t : Nat) : Int) = (a : Int) + (q : Int) * 2 - 1 + t := by omega
   have fin : ∀ c : Int, c = (a : Int) + (q : Int) * 2 - 1 + t → ((a : Int) + (q : Int) * 2 + 2 - (c + 1)).toNat < ((a : Int) + (q : Int) * 2 + 2 - c).toNat := fun c hc => by omega
   by_cases ho : o ≥ L
   ·rw [if_pos ho] at hs1
    have ho' : (L : Int) ≤ o := by omega
    have s1 := S.hS E (a + q * 2 - 1 + t) (a + (o - L)) (by omega) (by omega)
    rw [cI, show ((a + (o - L) : Nat) : Int) = (a : Int) + ((o : Int) - L) by omega] at s1
    simp (disch := omega) only [t2, t3, hge, u64w, f1, f2, ho', s1, n1, S.all, S.bmv, S.bbk, S.br, go_sem, evP_D, evD_guard, evD_cons, evD_zero, evD_nil]
    exact ⟨⟨t + 1, by omega, by rw [hs1, xorNext_toNat, show ((t + 1 : Nat) : Int) = (t : Int) + 1 from rfl, Int.add_assoc]⟩, fin _ rfl⟩
   ·rw [if_neg ho] at hs1
    have ho' : ¬ (L : Int) ≤ o := by omega
    have s1 := S.hS E (a + q * 2 - 1 + t) (a + o) (by omega) (by omega)
    rw [cI, show ((a + o : Nat) : Int) = (a : Int) + o by omega] at s1
    simp (disch := omega) only [t2, t3, hge, u64w, f1, f2, ho', s1, n1, S.all, S.bmv, S.bbk, S.br, go_sem, evP_D, evD_guard, evD_cons, evD_zero, evD_nil]
    exact ⟨⟨t + 1, by omega, by rw [hs1, xorNext_toNat, show ((t + 1 : Nat) : Int) = (t : Int) + 1 from rfl, Int.add_assoc]⟩, fin _ rfl⟩
 ·exact hend
end
end Go.Proofs.YtdmkmbaaemhhhaaGreatDoor
