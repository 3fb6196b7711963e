/-
  Sorting by a function that is handed in, run by the machine: what a round of the whole is (written by gen_soh.py).
-/
import Derived.Test.YtdmkmbaaemhhhaaGreatDoorP38
import Derived.Sort.Walk13a
namespace Go.Ev
open Go
def lp : Code → Option Code
 | .seq x y => match lp x with
  | some c => some c
  | none => lp y
 | .block _ x => lp x
 | .loop x => some x
 | _ => none
end Go.Ev
namespace Go.Proofs.YtdmkmbaaemhhhaaGreatDoor
open Go Go.Ev Go.RowKit Go.Sort Go.So
section
variable {J : World → Prop} (hJ : Stable J) {α : Type} [Inhabited α] (S : So Tryz.prog J famF α)
theorem fam2 {f : FuncId} (p : Array α → Nat → Nat → Prop) (r : Array α → Nat → Nat → V × Array α) (h : ∀ D a b, p D a b → MutAt Tryz.prog J f (S.ks D) [S.dV, .int .i64 a, .int .i64 b] (r D a b).1 (S.ks (r D a b).2)) :
  ∃ G : List Blk → List V → Option (V × List Blk), (∀ (D : Array α) (a b : Nat), p D a b → G (S.ks D) [S.dV, .int .i64 a, .int .i64 b] = some ((r D a b).1, S.ks (r D a b).2)) ∧ Mu Tryz.prog J f G := by
 obtain ⟨G, h1, h2⟩ := famS (P := Tryz.prog) (J := J) (f := f) S (fun q : { q : Array α × Nat × Nat // p q.1 q.2.1 q.2.2 } => (q.1.1, [q.1.2.1, q.1.2.2])) (fun i j e => by
   obtain ⟨⟨D, a, b⟩, _⟩ := i
   obtain ⟨⟨D', a', b'⟩, _⟩ := j
   simp only [Prod.mk.injEq, List.cons.injEq, and_true] at e
   obtain ⟨rfl, rfl, rfl⟩ := e
   rfl) (fun q => r q.1.1 q.1.2.1 q.1.2.2) fun q => h q.1.1 q.1.2.1 q.1.2.2 q.2
 exact ⟨G, fun D a b x => h1 ⟨(D, a, b), x⟩, h2⟩
theorem fam3 {f : FuncId} (p : Array α → Nat → Nat → Nat → Prop) (r : Array α → Nat → Nat → Nat → V × Array α) (h : ∀ D a b c, p D a b c → MutAt Tryz.prog J f (S.ks D) [S.dV, .int .i64 a, .int .i64 b, .int .i64 c] (r D a b c).1 (S.ks (r D a b c).2)) :
  ∃ G : List Blk → List V → Option (V × List Blk), (∀ (D : Array α) (a b c : Nat), p D a b c → G (S.ks D) [S.dV, .int .i64 a, .int .i64 b, .int .i64 c] = some ((r D a b c).1, S.ks (r D a b c).2)) ∧ Mu Tryz.prog J f G := by
 obtain ⟨G, h1, h2⟩ := famS (P := Tryz.prog) (J := J) (f := f) S (fun q : { q : Array α × Nat × Nat × Nat // p q.1 q.2.1 q.2.2.1 q.2.2.2 } => (q.1.1, [q.1.2.1, q.1.2.2.1, q.1.2.2.2])) (fun i j e => by
   obtain ⟨⟨D, a, b, c⟩, _⟩ := i
   obtain ⟨⟨D', a', b', c'⟩, _⟩ := j
   simp only [Prod.mk.injEq, List.cons.injEq, and_true] at e
   obtain ⟨rfl, rfl, rfl, rfl⟩ := e
   rfl) (fun q => r q.1.1 q.1.2.1 q.1.2.2.1 q.1.2.2.2) fun q => h q.1.1 q.1.2.1 q.1.2.2.1 q.1.2.2.2 q.2
 exact ⟨G, fun D a b c x => h1 ⟨(D, a, b, c), x⟩, h2⟩
theorem eighthI {x y p q : Nat} (h1 : q ≤ p) (h2 : y ≤ x) : decide ((((x : Int) - y).tdiv 8) ≤ ((p : Int) - q)) = decide (p - q ≥ (x - y) / 8) := by
 rw [Int.tdiv_eq_ediv_of_nonneg (by omega)]
 exact decide_eq_decide.2 (by omega)
theorem eighthW {x y p q : Nat} (h1 : q ≤ p) (h2 : y ≤ x) (h3 : x < 1152921504606846976) : decide (IntKind.i64.wrap (((x : Int) - y).tdiv 8) ≤ ((p : Int) - q)) = decide (p - q ≥ (x - y) / 8) := by
 rw [wrap_of (by rw [Int.tdiv_eq_ediv_of_nonneg (by omega)]; omega)]
 exact eighthI h1 h2
structure Pq (S : So Tryz.prog J famF α) (N : Nat) where
 I1 : List Blk → List V → Option (V × List Blk)
 H1 : List Blk → List V → Option (V × List Blk)
 B1 : List Blk → List V → Option (V × List Blk)
 C1 : List Blk → List V → Option (V × List Blk)
 R1 : List Blk → List V → Option (V × List Blk)
 P1 : List Blk → List V → Option (V × List Blk)
 E1 : List Blk → List V → Option (V × List Blk)
 T1 : List Blk → List V → Option (V × List Blk)
 Q1 : List Blk → List V → Option (V × List Blk)
 hI : ∀ (D : Array α) (a b : Nat), (a ≤ b ∧ b ≤ D.size ∧ D.size < 4611686018427387904) → I1 [.vec S.T S.sz (D.toList.map S.enc), .box S.bv] [(.agg [.fn S.lf [.ptr 1000001 0], .fn S.sf [.vec 1000000, .raw S.hd]]), .int .i64 a, .int .i64 b] = some (.tup [], [.vec S.T S.sz ((insertionSort S.lt D a b).toList.map S.enc), .box S.bv])
 hH : ∀ (D : Array α) (a b : Nat), (a < b ∧ b ≤ D.size ∧ D.size < 2305843009213693950) → H1 [.vec S.T S.sz (D.toList.map S.enc), .box S.bv] [(.agg [.fn S.lf [.ptr 1000001 0], .fn S.sf [.vec 1000000, .raw S.hd]]), .int .i64 a, .int .i64 b] = some (.tup [], [.vec S.T S.sz ((heapSort S.lt D a b).toList.map S.enc), .box S.bv])
 hB : ∀ (D : Array α) (a b : Nat), (a + 12 < b ∧ b ≤ D.size ∧ D.size < 1152921504606846976) → B1 [.vec S.T S.sz (D.toList.map S.enc), .box S.bv] [(.agg [.fn S.lf [.ptr 1000001 0], .fn S.sf [.vec 1000000, .raw S.hd]]), .int .i64 a, .int .i64 b] = some (.tup [], [.vec S.T S.sz ((breakPatterns D a b).toList.map S.enc), .box S.bv])
 hC : ∀ (D : Array α) (a b : Nat), (a + 12 < b ∧ b ≤ D.size ∧ D.size < 1152921504606846976) → C1 [.vec S.T S.sz (D.toList.map S.enc), .box S.bv] [(.agg [.fn S.lf [.ptr 1000001 0], .fn S.sf [.vec 1000000, .raw S.hd]]), .int .i64 a, .int .i64 b] = some (.tup [.int .i64 (choosePivot S.lt D a b).1, .int .i64 (hintI (choosePivot S.lt D a b).2)], [.vec S.T S.sz ((D).toList.map S.enc), .box S.bv])
 hR : ∀ (D : Array α) (a b : Nat), (a ≤ b ∧ 0 < b ∧ b ≤ D.size ∧ D.size < 4611686018427387904) → R1 [.vec S.T S.sz (D.toList.map S.enc), .box S.bv] [(.agg [.fn S.lf [.ptr 1000001 0], .fn S.sf [.vec 1000000, .raw S.hd]]), .int .i64 a, .int .i64 b] = some (.tup [], [.vec S.T S.sz ((reverseRange D a b).toList.map S.enc), .box S.bv])
 hP : ∀ (D : Array α) (a b : Nat), (a < b ∧ b ≤ D.size ∧ D.size < 2305843009213693950) → P1 [.vec S.T S.sz (D.toList.map S.enc), .box S.bv] [(.agg [.fn S.lf [.ptr 1000001 0], .fn S.sf [.vec 1000000, .raw S.hd]]), .int .i64 a, .int .i64 b] = some (.bool (partialInsertionSort S.lt D a b).2, [.vec S.T S.sz (((partialInsertionSort S.lt D a b).1).toList.map S.enc), .box S.bv])
 hE : ∀ (D : Array α) (a b c : Nat), (a + 1 < b ∧ b ≤ D.size ∧ c < b ∧ D.size < 2305843009213693950) → E1 [.vec S.T S.sz (D.toList.map S.enc), .box S.bv] [(.agg [.fn S.lf [.ptr 1000001 0], .fn S.sf [.vec 1000000, .raw S.hd]]), .int .i64 a, .int .i64 b, .int .i64 c] = some (.int .i64 (partitionEqual S.lt D a b c).1, [.vec S.T S.sz (((partitionEqual S.lt D a b c).2).toList.map S.enc), .box S.bv])
 hT : ∀ (D : Array α) (a b c : Nat), (a + 1 < b ∧ b ≤ D.size ∧ c < b ∧ D.size < 2305843009213693950) → T1 [.vec S.T S.sz (D.toList.map S.enc), .box S.bv] [(.agg [.fn S.lf [.ptr 1000001 0], .fn S.sf [.vec 1000000, .raw S.hd]]), .int .i64 a, .int .i64 b, .int .i64 c] = some (.tup [.int .i64 (partition S.lt D a b c).1, .bool (partition S.lt D a b c).2.1], [.vec S.T S.sz (((partition S.lt D a b c).2.2).toList.map S.enc), .box S.bv])
 hQ : ∀ (D : Array α) (a b c : Nat), (b - a < N ∧ a ≤ b ∧ b ≤ D.size ∧ D.size < 1152921504606846976 ∧ c < 1000 ∧ Sort.Below S.lt a b D) → Q1 [.vec S.T S.sz (D.toList.map S.enc), .box S.bv] [(.agg [.fn S.lf [.ptr 1000001 0], .fn S.sf [.vec 1000000, .raw S.hd]]), .int .i64 a, .int .i64 b, .int .i64 c] = some (.tup [], [.vec S.T S.sz ((pdq S.lt D a b c true true).toList.map S.enc), .box S.bv])
def pdqR {N : Nat} (K : Pq S N) (σ : St) (Q : Ex → St → Prop) : Prop :=
 ev (mkX (phi []) nv0 fz0 dr92 dd92 [] ⟨[(S.lf, S.LF), (132, K.I1), (133, K.H1), (134, K.B1), (135, K.C1), (136, K.R1), (137, K.P1), (138, K.E1), (139, K.T1), (92, K.Q1)], fun _ => [1000000, 1000001], []⟩) Tryz.f92.ntmps ((lp (Tryz.f92.body.getD .skip)).getD .skip) σ Q
end
end Go.Proofs.YtdmkmbaaemhhhaaGreatDoor
