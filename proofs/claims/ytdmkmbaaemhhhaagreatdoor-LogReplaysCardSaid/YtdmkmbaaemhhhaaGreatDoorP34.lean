/-
  Sorting by a function that is handed in, run by the machine: heaps.
-/
import Derived.Test.YtdmkmbaaemhhhaaGreatDoorP33
set_option linter.unusedVariables false
set_option linter.unusedSimpArgs false
namespace Go.So
open Go Go.Ev Go.Sort
section
variable {α : Type} [Inhabited α] (lt : α → α → Bool)
def Chi (hi F r : Nat) (d : Array α) (c : Nat) : Prop := (2 * r + 2 < hi ∧ lt d[F + (2 * r + 1)]! d[F + (2 * r + 1) + 1]! = true ∧ c = 2 * r + 2) ∨ (2 * r + 1 < hi ∧ (¬ 2 * r + 2 < hi ∨ lt d[F + (2 * r + 1)]! d[F + (2 * r + 1) + 1]! = false) ∧ c = 2 * r + 1)
variable {lt}
theorem sift_stop {hi F r : Nat} {d : Array α} (h : hi ≤ 2 * r + 1) : siftDown lt hi F r d = d := by rw [siftDown, dif_pos h]
theorem sift_no {hi F r c : Nat} {d : Array α} (hc : Chi lt hi F r d c) (h : lt d[F + r]! d[F + c]! = false) : siftDown lt hi F r d = d := by
 rw [siftDown]
 rcases hc with ⟨h1, h2, rfl⟩ | ⟨h1, h2, rfl⟩
 ·rw [dif_neg (by omega), if_pos (by simp only [Bool.and_eq_true, decide_eq_true_eq]; exact ⟨h1, h2⟩), h]
  rfl
 ·rw [dif_neg (by omega), if_neg (by
   simp only [Bool.and_eq_true, decide_eq_true_eq, not_and, Bool.not_eq_true]
   intro h0
   rcases h2 with h2 | h2
   ·exact absurd h0 h2
   ·exact h2), h]
  rfl
theorem sift_go {hi F r c : Nat} {d : Array α} (hc : Chi lt hi F r d c) (h : lt d[F + r]! d[F + c]! = true) : siftDown lt hi F r d = siftDown lt hi F c (swp d (F + r) (F + c)) := by
 rw [siftDown]
 rcases hc with ⟨h1, h2, rfl⟩ | ⟨h1, h2, rfl⟩
 ·rw [dif_neg (by omega), if_pos (by simp only [Bool.and_eq_true, decide_eq_true_eq]; exact ⟨h1, h2⟩), h, if_neg (by simp), dif_pos h1]
 ·rw [dif_neg (by omega), if_neg (by
   simp only [Bool.and_eq_true, decide_eq_true_eq, not_and, Bool.not_eq_true]
   intro h0
   rcases h2 with h2 | h2
   ·exact absurd h0 h2
   ·exact h2), h, if_neg (by simp)]
theorem sift_size (hi F : Nat) : ∀ (n r : Nat) (d : Array α), hi - r ≤ n → (siftDown lt hi F r d).size = d.size := by
 intro n
 induction n with
 | zero => intro r d h; rw [sift_stop (by omega)]
 | succ n ih =>
  intro r d h
  by_cases h1 : hi ≤ 2 * r + 1
  ·rw [sift_stop h1]
  ·have : ∃ c, Chi lt hi F r d c := by
    by_cases h2 : 2 * r + 2 < hi
    ·cases h3 : lt d[F + (2 * r + 1)]! d[F + (2 * r + 1) + 1]! with
     | true => exact ⟨_, .inl ⟨h2, h3, rfl⟩⟩
     | false => exact ⟨_, .inr ⟨by omega, .inr h3, rfl⟩⟩
    ·exact ⟨_, .inr ⟨by omega, .inl h2, rfl⟩⟩
   obtain ⟨c, hc⟩ := this
   have hcr : r < c ∧ c < hi := by rcases hc with ⟨a, _, rfl⟩ | ⟨a, _, rfl⟩ <;> omega
   cases h4 : lt d[F + r]! d[F + c]! with
   | true => rw [sift_go hc h4, ih c _ (by omega), size_swp]
   | false => rw [sift_no hc h4]
end
end Go.So
namespace Go.Proofs.YtdmkmbaaemhhhaaGreatDoor
open Go Go.Ev Go.RowKit Go.Sort Go.So
set_option maxHeartbeats 4000000
section
variable {J : World → Prop} (hJ : Stable J) {α : Type} [Inhabited α] (S : So Tryz.prog J famF α)
include hJ in
set_option maxHeartbeats 4000000 in
theorem sift_mut (D : Array α) (lo hi F : Nat) (hlo : lo ≤ 2305843009213693950) (hhi : F + hi ≤ D.size) (hsz : D.size < 2305843009213693950) :
  MutAt Tryz.prog J 179 (S.ks D) [S.dV, .int .i64 lo, .int .i64 hi, .int .i64 F] (.tup []) (S.ks (siftDown S.lt hi F lo D)) := by
 have hend := S.ksLone (siftDown S.lt hi F lo D)
 have nes := S.ne
 unfold So.dV
 unfold So.ks at hend ⊢
 refine evMut (l := []) (nv := nv0) (fz := fz0) (dr := dr179) (dd := dd179) (lam := []) (ms := ⟨[(S.lf, S.LF), (S.sf, S.SF)], lnL [(31, [1000000, 1000001]), (43, [1000000, 1000001]), (53, [1000000, 1000001])], []⟩) trivial hJ trivial ⟨⟨S.hLF, S.hSF, trivial⟩, trivial⟩ Tryz.func179 rfl rfl (Nat.le_of_ble_eq_true rfl) (Nat.le_of_ble_eq_true rfl) drOk179 rfl rfl ?_ ?_
 rotate_left
 dsimp only [Tryz.f179, dr179, dd179, Option.getD_some]
 refine ev_start ?_
 ·simp (disch := omega) only [go_sem, evP_D, evD_guard, evD_cons, evD_zero, evD_nil]
  refine evQ_loop [2, 3, 4, 8] [1000000, 1000001, 32] (fun σ => ∃ (r : Nat) (E : Array α), (r ≤ 2305843009213693950 ∧ E.size = D.size ∧ siftDown S.lt hi F r E = siftDown S.lt hi F lo D) ∧ σ = ⟨[(2, .int .i64 hi), (3, .int .i64 F), (4, .ptr 32 0), (8, .int .i64 r)], [(1000000, .vec S.T S.sz (E.toList.map S.enc)), (1000001, .box S.bv), (32, .box (.agg [.fn S.lf [.ptr 1000001 0], .fn S.sf [.vec 1000000, .raw S.hd]]))]⟩)
   (fun σ => hi - (match Ev.look 8 σ.env with | some (.int _ n) => n.toNat | _ => 0)) ?_ ?_
  ·simp only [S.br, go_sem, evP_D, evD_guard, evD_cons, evD_zero, evD_nil]
   exact ⟨lo, D, ⟨hlo, rfl, rfl⟩, rfl⟩
  ·rintro σ ⟨r, E, ⟨hr, hE, hO⟩, rfl⟩
   by_cases hst : hi ≤ 2 * r + 1
   ·have hst' : (hi : Int) ≤ 2 * (r : Int) + 1 := by omega
    rw [sift_stop hst] at hO
    subst hO
    simp (disch := omega) only [hst', go_sem, evP_D, evD_guard, evD_cons, evD_zero, evD_nil]
   have hst' : ¬ (hi : Int) ≤ 2 * (r : Int) + 1 := by omega
   have q0 : ((F + r : Nat) : Int) = (F : Int) + r := by omega
   have q1 : ((F + (2 * r + 1) : Nat) : Int) = (F : Int) + (2 * (r : Int) + 1) := by omega
   have q2 : ((F + (2 * r + 1) + 1 : Nat) : Int) = (F : Int) + (2 * (r : Int) + 1) + 1 := by omega
   have q3 : ((F + (2 * r + 2) : Nat) : Int) = (F : Int) + (2 * (r : Int) + 1 + 1) := by omega
   have ms : ∀ (c : Nat) (x : Int), x = c → r < c → c < hi → hi - x.toNat < hi - (r : Int).toNat := fun c x e h1 h2 => by
    rw [e, Int.toNat_natCast, Int.toNat_natCast]
    exact Nat.sub_lt_sub_left (Nat.lt_trans h1 h2) h1
   have two : ∀ (c : Nat), Chi S.lt hi F r E c → siftDown S.lt hi F r E = E ∨ siftDown S.lt hi F r E = siftDown S.lt hi F c (swp E (F + r) (F + c)) := fun c hc => by
    cases h : S.lt E[F + r]! E[F + c]! with
    | true => exact .inr (sift_go hc h)
    | false => exact .inl (sift_no hc h)
   by_cases h2 : 2 * r + 2 < hi
   ·have h2' : 2 * (r : Int) + 1 + 1 < hi := by omega
    have l1 := S.hL E (F + (2 * r + 1)) (F + (2 * r + 1) + 1) (by omega) (by omega)
    rw [q1, q2] at l1
    cases hv : S.lt E[F + (2 * r + 1)]! E[F + (2 * r + 1) + 1]! with
    | true =>
     rw [hv] at l1
     have hc : Chi S.lt hi F r E (2 * r + 2) := .inl ⟨h2, hv, rfl⟩
     have l2 := S.hL E (F + r) (F + (2 * r + 2)) (by omega) (by omega)
     have s2 := S.hS E (F + r) (F + (2 * r + 2)) (by omega) (by omega)
     rw [q0, q3] at l2 s2
     cases hw : S.lt E[F + r]! E[F + (2 * r + 2)]! with
     | true =>
      rw [hw] at l2
      simp (disch := omega) only [hst', h2', l1, l2, s2, nes, S.all, S.bmv, S.bbk, S.br, go_sem, evP_D, evD_guard, evD_cons, evD_zero, evD_nil]
      exact ⟨⟨2 * r + 2, swp E (F + r) (F + (2 * r + 2)), ⟨by omega, by rw [size_swp]; exact hE, by rw [← hO, sift_go hc hw]⟩, rfl⟩, ms (2 * r + 2) _ (by omega) (by omega) (by omega)⟩
     | false =>
      rw [hw] at l2
      rw [sift_no hc hw] at hO
      subst hO
      simp (disch := omega) only [hst', h2', l1, l2, nes, S.all, S.bmv, S.bbk, S.br, go_sem, evP_D, evD_guard, evD_cons, evD_zero, evD_nil]
    | false =>
     rw [hv] at l1
     have hc : Chi S.lt hi F r E (2 * r + 1) := .inr ⟨by omega, .inr hv, rfl⟩
     have l2 := S.hL E (F + r) (F + (2 * r + 1)) (by omega) (by omega)
     have s2 := S.hS E (F + r) (F + (2 * r + 1)) (by omega) (by omega)
     rw [q0, q1] at l2 s2
     cases hw : S.lt E[F + r]! E[F + (2 * r + 1)]! with
     | true =>
      rw [hw] at l2
      simp (disch := omega) only [hst', h2', l1, l2, s2, nes, S.all, S.bmv, S.bbk, S.br, go_sem, evP_D, evD_guard, evD_cons, evD_zero, evD_nil]
      exact ⟨⟨2 * r + 1, swp E (F + r) (F + (2 * r + 1)), ⟨by omega, by rw [size_swp]; exact hE, by rw [← hO, sift_go hc hw]⟩, rfl⟩, ms (2 * r + 1) _ (by omega) (by omega) (by omega)⟩
     | false =>
      rw [hw] at l2
      rw [sift_no hc hw] at hO
      subst hO
      simp (disch := omega) only [hst', h2', l1, l2, nes, S.all, S.bmv, S.bbk, S.br, go_sem, evP_D, evD_guard, evD_cons, evD_zero, evD_nil]
   ·have h2' : ¬ 2 * (r : Int) + 1 + 1 < hi := by omega
    have hc : Chi S.lt hi F r E (2 * r + 1) := .inr ⟨by omega, .inl h2, rfl⟩
    have l2 := S.hL E (F + r) (F + (2 * r + 1)) (by omega) (by omega)
    have s2 := S.hS E (F + r) (F + (2 * r + 1)) (by omega) (by omega)
    rw [q0, q1] at l2 s2
    cases hw : S.lt E[F + r]! E[F + (2 * r + 1)]! with
    | true =>
     rw [hw] at l2
     simp (disch := omega) only [hst', h2', l2, s2, nes, S.all, S.bmv, S.bbk, S.br, go_sem, evP_D, evD_guard, evD_cons, evD_zero, evD_nil]
     exact ⟨⟨2 * r + 1, swp E (F + r) (F + (2 * r + 1)), ⟨by omega, by rw [size_swp]; exact hE, by rw [← hO, sift_go hc hw]⟩, rfl⟩, ms (2 * r + 1) _ (by omega) (by omega) (by omega)⟩
    | false =>
     rw [hw] at l2
     rw [sift_no hc hw] at hO
     subst hO
     simp (disch := omega) only [hst', h2', l2, nes, S.all, S.bmv, S.bbk, S.br, go_sem, evP_D, evD_guard, evD_cons, evD_zero, evD_nil]
 ·exact hend
include hJ in
theorem siftx : ∃ G : List Blk → List V → Option (V × List Blk), (∀ (D : Array α) (lo hi F : Nat), lo ≤ 2305843009213693950 → F + hi ≤ D.size → D.size < 2305843009213693950 →
  G [.vec S.T S.sz (D.toList.map S.enc), .box S.bv] [S.dV, .int .i64 lo, .int .i64 hi, .int .i64 F] = some (.tup [], [.vec S.T S.sz ((siftDown S.lt hi F lo D).toList.map S.enc), .box S.bv])) ∧ Mu Tryz.prog J 179 G := by
 obtain ⟨G, h1, h2⟩ := famS (P := Tryz.prog) (J := J) (f := 179) S (fun q : { q : Array α × Nat × Nat × Nat // q.2.1 ≤ 2305843009213693950 ∧ q.2.2.2 + q.2.2.1 ≤ q.1.size ∧ q.1.size < 2305843009213693950 } => (q.1.1, [q.1.2.1, q.1.2.2.1, q.1.2.2.2])) (fun i j e => by
   obtain ⟨⟨D, a, b, c⟩, _⟩ := i
   obtain ⟨⟨D', a', b', c'⟩, _⟩ := j
   simp only [Prod.mk.injEq, List.cons.injEq, and_true] at e
   obtain ⟨rfl, rfl, rfl, rfl⟩ := e
   rfl) (fun q => (.tup [], siftDown S.lt q.1.2.2.1 q.1.2.2.2 q.1.2.1 q.1.1)) fun q => sift_mut hJ S q.1.1 q.1.2.1 q.1.2.2.1 q.1.2.2.2 q.2.1 q.2.2.1 q.2.2.2
 exact ⟨G, fun D lo hi F a b c => h1 ⟨(D, lo, hi, F), a, b, c⟩, h2⟩
include hJ in
set_option maxHeartbeats 4000000 in
theorem heap_mut (D : Array α) (a b : Nat) (hab : a < b) (hb : b ≤ D.size) (hsz : D.size < 2305843009213693950) :
  MutAt Tryz.prog J 133 (S.ks D) [S.dV, .int .i64 a, .int .i64 b] (.tup []) (S.ks (heapSort S.lt D a b)) := by
 have hend := S.ksLone (heapSort S.lt D a b)
 obtain ⟨G, hG, sG⟩ := siftx hJ S
 have n1 := S.farS 179 (by simp [famF])
 unfold So.dV at hG ⊢
 unfold So.ks heapSort at hend ⊢
 have t1 : ((b : Int) - (a : Int) - 1).tdiv 2 = (((b - a - 1) / 2 : Nat) : Int) := by rw [Int.tdiv_eq_ediv_of_nonneg (by omega)]; omega
 have ba : ((b - a : Nat) : Int) = (b : Int) - a := by omega
 refine evMut (l := []) (nv := nv0) (fz := fz0) (dr := dr133) (dd := dd133) (lam := []) (ms := ⟨[(S.sf, S.SF), (179, G)], lnL [(26, [1000000, 1000001]), (39, [1000000, 1000001]), (44, [1000000, 1000001])], []⟩) trivial hJ trivial ⟨⟨S.hSF, sG, trivial⟩, trivial⟩ Tryz.func133 rfl rfl (Nat.le_of_ble_eq_true rfl) (Nat.le_of_ble_eq_true rfl) drOk133 rfl rfl ?_ ?_
 rotate_left
 dsimp only [Tryz.f133, dr133, dd133, Option.getD_some]
 refine ev_start ?_
 ·simp (disch := omega) only [t1, go_sem, evP_D, evD_guard, evD_cons, evD_zero, evD_nil]
  refine evQ_loop [3, 6, 7, 8, 9] [1000000, 1000001, 24] (fun σ => ∃ (k : Nat) (E : Array α), (k ≤ (b - a - 1) / 2 + 1 ∧ E.size = D.size ∧ heapBuild S.lt (b - a) a k E = heapBuild S.lt (b - a) a ((b - a - 1) / 2 + 1) D) ∧ σ = ⟨[(3, .ptr 24 0), (6, .int .i64 a), (7, .int .i64 0), (8, .int .i64 ((b : Int) - a)), (9, .int .i64 ((k : Int) - 1))], [(1000000, .vec S.T S.sz (E.toList.map S.enc)), (1000001, .box S.bv), (24, .box (.agg [.fn S.lf [.ptr 1000001 0], .fn S.sf [.vec 1000000, .raw S.hd]]))]⟩)
   (fun σ => (match Ev.look 9 σ.env with | some (.int _ n) => (n + 1).toNat | _ => 0)) ?_ ?_
  ·simp only [S.br, go_sem, evP_D, evD_guard, evD_cons, evD_zero, evD_nil]
   exact ⟨(b - a - 1) / 2 + 1, D, ⟨Nat.le_refl _, rfl, rfl⟩, by rw [show (((b - a - 1) / 2 + 1 : Nat) : Int) - 1 = (((b - a - 1) / 2 : Nat) : Int) by omega]⟩
  ·rintro σ ⟨k, E, ⟨hk, hE, hO⟩, rfl⟩
   by_cases h0 : k = 0
   case neg =>
    obtain ⟨k, rfl⟩ : ∃ m, k = m + 1 := ⟨k - 1, by omega⟩
    have ck : (((k + 1 : Nat) : Int) - 1) = (k : Int) := by omega
    have hge : (0 : Int) ≤ (k : Int) := by omega
    have g1 := hG E k (b - a) a (by omega) (by omega) (by omega)
    rw [ba] at g1
    rw [ck]
    simp (disch := omega) only [hge, g1, n1, S.all, S.bmv, S.bbk, S.br, go_sem, evP_D, evD_guard, evD_cons, evD_zero, evD_nil]
    exact ⟨⟨k, siftDown S.lt (b - a) a k E, ⟨by omega, by rw [sift_size (b - a) a _ k E (Nat.le_refl _)]; exact hE, hO⟩, rfl⟩, by omega⟩
   subst h0
   rw [show ((0 : Nat) : Int) - 1 = -1 from rfl]
   have hB : E = heapBuild S.lt (b - a) a ((b - a - 1) / 2 + 1) D := hO
   simp (disch := omega) only [S.br, go_sem, evP_D, evD_guard, evD_cons, evD_zero, evD_nil]
   refine evQ_loop [3, 6, 7, 10] [1000000, 1000001, 24] (fun σ => ∃ (k : Nat) (E2 : Array α), (k ≤ b - a ∧ E2.size = D.size ∧ heapPop S.lt a k E2 = heapPop S.lt a (b - a) E) ∧ σ = ⟨[(3, .ptr 24 0), (6, .int .i64 a), (7, .int .i64 0), (10, .int .i64 ((k : Int) - 1))], [(1000000, .vec S.T S.sz (E2.toList.map S.enc)), (1000001, .box S.bv), (24, .box (.agg [.fn S.lf [.ptr 1000001 0], .fn S.sf [.vec 1000000, .raw S.hd]]))]⟩)
    (fun σ => (match Ev.look 10 σ.env with | some (.int _ n) => (n + 1).toNat | _ => 0)) ?_ ?_
   ·simp only [S.br, go_sem, evP_D, evD_guard, evD_cons, evD_zero, evD_nil]
    exact ⟨b - a, E, ⟨Nat.le_refl _, hE, rfl⟩, by rw [ba]⟩
   ·rintro σ ⟨k, E2, ⟨hk2, hE2, hP⟩, rfl⟩
    by_cases h0 : k = 0
    case neg =>
     obtain ⟨k, rfl⟩ : ∃ m, k = m + 1 := ⟨k - 1, by omega⟩
     have ck : (((k + 1 : Nat) : Int) - 1) = (k : Int) := by omega
     have hge : (0 : Int) ≤ (k : Int) := by omega
     have s1 := S.hS E2 a (a + k) (by omega) (by omega)
     have g1 := hG (swp E2 a (a + k)) 0 k a (by omega) (by rw [size_swp]; omega) (by rw [size_swp]; omega)
     rw [show ((a + k : Nat) : Int) = (a : Int) + k by omega] at s1
     rw [show ((0 : Nat) : Int) = 0 from rfl] at g1
     rw [ck]
     simp (disch := omega) only [hge, s1, g1, n1, S.all, S.bmv, S.bbk, S.br, go_sem, evP_D, evD_guard, evD_cons, evD_zero, evD_nil]
     exact ⟨⟨k, siftDown S.lt k a 0 (swp E2 a (a + k)), ⟨by omega, by rw [sift_size k a _ 0 _ (Nat.le_refl _), size_swp]; exact hE2, hP⟩, rfl⟩, by omega⟩
    subst h0
    rw [show ((0 : Nat) : Int) - 1 = -1 from rfl]
    have hR : E2 = heapPop S.lt a (b - a) (heapBuild S.lt (b - a) a ((b - a - 1) / 2 + 1) D) := by rw [← hB]; exact hP
    rw [← hR]
    simp (disch := omega) only [S.br, go_sem, evP_D, evD_guard, evD_cons, evD_zero, evD_nil]
 ·exact hend
end
end Go.Proofs.YtdmkmbaaemhhhaaGreatDoor
