/-
  The reference's Trial: a loop over a map, in whatever order.
-/
import Derived.Test.YtdjdipehfnnhpaaDoorTsG
import Derived.Laws.IdiomRangeMap
import Derived.LoopTactic
import Derived.WalkKit
import Derived.Handy
namespace Go.Ev
open Go
/-- no stores of cells, no calls of the system -/
def dry {α : Type} : Sem α → Prop
  | .pure _ => True
  | .load _ _ k => ∀ v, dry (k v)
  | .store _ _ _ _ => False
  | .new _ k => ∀ n, dry (k n)
  | .shape _ k => ∀ s, dry (k s)
  | .freeze _ _ k => dry k
  | .frozen _ k => ∀ b, dry (k b)
  | .getObj _ k => ∀ o, dry (k o)
  | .setObj _ _ k => dry k
  | .choose _ k => ∀ n, dry (k n)
  | .sys _ _ => False
  | .program k => ∀ p, dry (k p)
  | .mark _ k => dry k
  | .halt _ => True
theorem dry_tape {α : Type} (p : Program) : ∀ (m : Sem α), dry m → ∀ (w : World) (v : α) (w' : World), m.run p w = .ok v w' → w'.tape = w.tape := by
  intro m
  induction m with
  | pure a => intro _ w v w' h; simp only [Sem.run, Result.ok.injEq] at h; rw [← h.2]
  | load m a k ih =>
    intro hd w v w' h
    unfold Sem.run at h
    split at h
    · exact ih _ (hd _) _ _ _ h
    · split at h
      · exact ih _ (hd _) _ _ _ h
      · cases h
  | store m a x k ih => intro hd; exact hd.elim
  | new o k ih => intro hd w v w' h; unfold Sem.run at h; exact (ih _ (hd _) _ _ _ h).trans rfl
  | shape r k ih => intro hd w v w' h; unfold Sem.run at h; exact ih _ (hd _) _ _ _ h
  | freeze a n k ih => intro hd w v w' h; unfold Sem.run at h; refine (ih hd _ _ _ h).trans ?_; unfold World.freeze; split <;> rfl
  | frozen a k ih => intro hd w v w' h; unfold Sem.run at h; exact ih _ (hd _) _ _ _ h
  | getObj r k ih =>
    intro hd w v w' h
    unfold Sem.run at h
    split at h
    · cases h
    · exact ih _ (hd _) _ _ _ h
    · cases h
  | setObj r o k ih =>
    intro hd w v w' h
    unfold Sem.run at h
    split at h
    · cases h
    · exact (ih hd _ _ _ h).trans rfl
    · cases h
  | choose q k ih =>
    intro hd w v w' h
    unfold Sem.run at h
    split at h
    · exact ih _ (hd _) _ _ _ h
    · exact (ih _ (hd _) _ _ _ h).trans rfl
  | sys c k ih => intro hd; exact hd.elim
  | program k ih => intro hd w v w' h; unfold Sem.run at h; exact ih _ (hd _) _ _ _ h
  | mark m k ih => intro hd w v w' h; unfold Sem.run at h; exact ih hd _ _ _ h
  | halt hh => intro _ w v w' h; unfold Sem.run at h; cases h
theorem next_dry (it : Value) (b : Bool) (t : TypeId) : dry (Instr.next it b t) := by
  unfold Instr.next
  split
  · intro o
    simp only [Sem.bind, getObj]
    split
    · split
      · exact trivial
      · exact trivial
    · exact trivial
    · intro o
      simp only [Sem.bind]
      split
      · split
        · exact trivial
        · intro n
          simp only [Sem.bind]
          split
          · exact trivial
          · exact trivial
          · exact trivial
      · exact trivial
    · exact trivial
  · exact trivial
end Go.Ev
namespace Go.Proofs.YtdjdipehfnnhpaaDoor
open Go Go.Ev Go.RowKit Go.Acc
set_option linter.unusedVariables false
theorem pos_ge (n : Int) : 0 ≤ pos n := by unfold pos; split <;> omega
theorem neg_ge (n : Int) : 0 ≤ neg n := by unfold neg; split <;> omega
theorem pos_max (n : Int) : max n 0 = pos n ∧ n ≤ pos n := by unfold pos; split <;> omega
theorem neg_max (n : Int) : max (-n) 0 = neg n ∧ -n ≤ neg n := by unfold neg; split <;> omega
theorem bk_slices {w : World} {ok : Nat → Prop} {x y : V} {v : Value} {n : Int} {szx szy : Nat} {ex ey : List V} (hx : x = .row szx ex) (hy : y = .row szy ey) (h : RelD w ok (.agg [x, y, .int .i64 n]) v) :
    ∃ a1 n1 c1 a2 n2 c2, v = .agg #[.slice a1 n1 c1, .slice a2 n2 c2, .int .i64 n] := by
  cases h with
  | agg cs vs hl h1 hh =>
    match vs, hl with
    | [u1, u2, u3], _ =>
      have g1 := hh 0 x u1 rfl rfl
      have g2 := hh 1 y u2 rfl rfl
      have g3 := hh 2 (.int .i64 n) u3 rfl rfl
      subst hx
      subst hy
      cases g3
      cases g1 with
      | nil _ a =>
        cases g2 with
        | nil _ a' => exact ⟨_, _, _, _, _, _, rfl⟩
        | row => exact ⟨_, _, _, _, _, _, rfl⟩
      | row =>
        cases g2 with
        | nil _ a' => exact ⟨_, _, _, _, _, _, rfl⟩
        | row => exact ⟨_, _, _, _, _, _, rfl⟩
set_option maxRecDepth 1000000 in
set_option maxHeartbeats 4000000 in
theorem rtrial_walk (a1 : Option Addr) (n1 c1 : Nat) (a2 : Option Addr) (n2 c2 : Nat) (s day P Q : Int) (w : World)
    (hS : ∀ W : World, Below w.heap.size w W → Calls Tryd.prog 41 #[.agg #[.slice a1 n1 c1, .slice a2 n2 c2, .int .i64 s], .int .i64 0, .int .i64 day] W fun e w' => ∃ (bm : Nat) (es : Array MapEntry) (clock : Nat), e = .returned (.map (some bm)) ∧ Below W.heap.size W w' ∧
      w'.heap[bm]? = some (.map es clock) ∧ (∀ e ∈ es.toList, e.born < clock) ∧ (es.toList.map (·.born)).Nodup ∧ (∀ e ∈ es.toList, ∃ n, e.val = .int .i64 n) ∧ (es.toList.map fun e => pos (valOf e.val)).sum = P ∧ (es.toList.map fun e => neg (valOf e.val)).sum = Q)
    (hP : P ≤ 17280000000000000) (hQ : Q ≤ 17280000000000000) :
    Calls Tryd.prog 37 #[.agg #[.slice a1 n1 c1, .slice a2 n2 c2, .int .i64 s], .int .i64 day] w fun e w' => e = .returned (.tuple #[.int .i64 P, .int .i64 Q]) ∧ Below w.heap.size w w' := by
  have HS := Lib.hid hS
  clear hS
  go_enter Tryd.func37, Tryd.ntmps37
  go_wp2_with fail
  refine (HS.out _ (by (repeat' (first | (with_reducible exact Below.refl _ _) | (with_reducible assumption) | (with_reducible refine Below.alloc ?_ ?_ _) | (with_reducible refine Below.drew ?_) | (with_reducible refine below_drewN ?_ _) | (with_reducible refine Below.setCell ?_ ?_ _) | go_size)))).mono ?_
  rintro e w1 ⟨bm, es, clock, rfl, hb1, hbm, hst, hnd, hvals, hsP, hsQ⟩
  have hrg := run_range_map (P := Tryd.prog) w1 71 9 3 bm es clock Tryd.underlying71 hbm
  go_wp2
  go_loopw [6, 7] (fun s t w' => ∃ (w2 : World) (seen : Array Nat), (w2.Alike w1 ∧ w2.tape = w1.tape) ∧ w' = w2.alloc (.mapIter (some bm) clock seen clock) ∧ s = .int .i64 (seenG pos es.toList seen) ∧ t = .int .i64 (seenG neg es.toList seen)) (fun _ _ w' => (leftOf es (w'.iterSeen w1.heap.size)).size)
  case atStart => exact ⟨w1, #[], ⟨⟨rfl, rfl, rfl⟩, rfl⟩, rfl, by rw [seenG_none], by rw [seenG_none]⟩
  case round =>
    obtain ⟨w2, seen, ⟨hal, htp⟩, rfl, rfl, rfl⟩ := hrel
    have hsz : w2.heap.size = w1.heap.size := by rw [hal.1]
    have hb2 : w2.heap[bm]? = some (.map es clock) := by rw [hal.1]; exact hbm
    have law := run_next_map (P := Tryd.prog) w2 0 bm clock clock seen es clock hb2 hst (Nat.le_refl _)
    rw [hsz] at law
    rcases law with ⟨h0, hrun⟩ | ⟨e, he, w3, hal2, hrun⟩
    · have hnx : ∀ ty, (Instr.next (.pointer (some ⟨w1.heap.size, 0, none⟩)) false ty).run Tryd.prog (w2.alloc (.mapIter (some bm) clock seen clock)) = _ := fun _ => hrun
      have e1 := (seenG_all pos es seen h0).trans hsP
      have e2 := (seenG_all neg es seen h0).trans hsQ
      go_wp2
      refine bodyPost_ret (v := .tuple #[.int .i64 P, .int .i64 Q]) (by rw [e1, e2]; simp [results, Tryd.results37, go_sem]) rfl ⟨rfl, ?_⟩
      have hB : Below w.heap.size w w1 := below_via (by (repeat' (first | (with_reducible exact Below.refl _ _) | (with_reducible assumption) | (with_reducible refine Below.alloc ?_ ?_ _) | (with_reducible refine Below.drew ?_) | (with_reducible refine below_drewN ?_ _) | (with_reducible refine Below.setCell ?_ ?_ _) | go_size))) (by go_size) hb1
      have hB2 : Below w.heap.size w w2 := hB.trans ⟨hal.2.1, htp, hal.2.2, by rw [hal.1]; exact Nat.le_refl _, fun k _ => by rw [hal.1]⟩
      exact hB2.alloc (by have := hB.size; omega) _
    · obtain ⟨v, hval⟩ := hvals e (mem_left he).1
      rw [hval] at hrun
      have hnx : ∀ ty, (Instr.next (.pointer (some ⟨w1.heap.size, 0, none⟩)) false ty).run Tryd.prog (w2.alloc (.mapIter (some bm) clock seen clock)) = _ := fun _ => hrun
      have hsz3 : w3.heap.size = w1.heap.size := by rw [hal2.1, hal.1]
      have hb3 : w3.heap[bm]? = some (.map es clock) := by rw [hal2.1]; exact hb2
      have hen := run_entry_map (P := Tryd.prog) w3 bm clock seen es clock e hb3 (mem_left he).1 hnd
      rw [hsz3, hval] at hen
      have g1 := seenG_push pos seen e (mem_left he).2 es.toList hnd (mem_left he).1
      have g2 := seenG_push neg seen e (mem_left he).2 es.toList hnd (mem_left he).1
      have p0 := seenG_le pos pos_ge (seen.push e.born) es.toList
      have p1 := seenG_le neg neg_ge (seen.push e.born) es.toList
      have p2 := seenG_le pos pos_ge seen es.toList
      have p3 := seenG_le neg neg_ge seen es.toList
      have p4 := pos_ge v
      have p5 := neg_ge v
      rw [hval] at g1 g2
      simp only [valOf] at g1 g2
      rw [hsP] at p0 p2
      rw [hsQ] at p1 p3
      go_wp2
      go_roundw
      case rel =>
        have htp3 := dry_tape _ _ (next_dry _ _ _) _ _ _ hrun
        simp only [World.tape_alloc] at htp3
        refine ⟨w3, seen.push e.born, ⟨⟨hal2.1.trans hal.1, hal2.2.1.trans hal.2.1, hal2.2.2.trans hal.2.2⟩, htp3.trans htp⟩, rfl, ?_, ?_⟩
        · rw [g1]
          refine congrArg (Value.int IntKind.i64) ?_
          have hw : wrap64 (seenG pos es.toList seen + pos v) = seenG pos es.toList seen + pos v := by simp only [wrap64]; omega
          rw [(pos_max v).1, hw]
        · rw [g2]
          refine congrArg (Value.int IntKind.i64) ?_
          have hv1 := (pos_max v).2
          have hv2 := (neg_max v).2
          have hw1 : wrap64 (-v) = -v := by simp only [wrap64]; omega
          have hw : wrap64 (seenG neg es.toList seen + neg v) = seenG neg es.toList seen + neg v := by simp only [wrap64]; omega
          rw [hw1, (neg_max v).1, hw]
      case measure =>
        rw [← hsz3, World.iterSeen_alloc, hsz3, ← hsz, World.iterSeen_alloc]
        exact left_shrinks es seen e he
theorem rtrial_sound {J : World → Prop} (hJ : Stable J) (A : List (ByteArray × Int)) (E : List En) (s day : Int) (hc : bkChk A E s = 0) :
    SoundAt Tryd.prog J 37 [bkV A E s, .int .i64 day] (.tup [.int .i64 (trD E day A), .int .i64 (trC E day A)]) [] := by
  obtain ⟨h1, _, h3, h4⟩ := bkChk_ok hc
  have hEn : ∀ x ∈ E, enX x = 0 := fun x hx => (h4 x hx).1
  have hA24 := (acChk_codes h1).1
  have bD := trD_bd hEn h3 day hA24 A.length
  have bC := trC_bd hEn h3 day hA24 A.length
  rw [List.take_length] at bD bC
  have hS := sums_sound hJ A E s 0 day hEn h3
  refine ⟨callOk Tryd.func37 rfl rfl, fun w ok vals hJw hok hlen hrel => ?_⟩
  match vals, hlen with
  | [u0, u1], _ =>
    have g0 := hrel 0 _ u0 rfl rfl
    have g1 := hrel 1 _ u1 rfl rfl
    cases g1
    have g00 := g0
    unfold bkV at g0
    obtain ⟨a1, n1, c1, a2, n2, c2, rfl⟩ := bk_slices rfl rfl g0
    refine (rtrial_walk a1 n1 c1 a2 n2 c2 s day (trD E day A) (trC E day A) w (fun W hW => ?_) bD.2 bC.2).mono ?_
    · have hcall := hS.2 W ok [.agg #[.slice a1 n1 c1, .slice a2 n2 c2, .int .i64 s], .int .i64 0, .int .i64 day] (hJ w W hJw hW) (fun g hg => by have := hok g hg; have := hW.size; omega) rfl (fun j c u hcc hu => by
        match j with
        | 0 => simp at hcc hu; subst hcc; subst hu; exact g00.mono fun g hg => ⟨hg, hW.block g (hok g hg)⟩
        | 1 => simp at hcc hu; subst hcc; subst hu; exact .int _ _
        | 2 => simp at hcc hu; subst hcc; subst hu; exact .int _ _
        | j + 3 => simp at hcc)
      refine hcall.mono ?_
      rintro e w' ⟨val, ρr, rfl, hb, hi, hr⟩
      obtain ⟨sv, hsv, hmo⟩ := hi.blk 0 _ rfl
      obtain ⟨g, es, clock, rfl, hge, hg, hkv, hborn, hnd⟩ := hmo
      have hv := hr.vec_inv
      rw [hsv] at hv
      cases hv
      have hkv' : es.toList.map (fun e => (some e.key, some e.val)) = (sumsM 0 day E).map (fun p => (some (Value.string p.1), some (Value.int .i64 p.2))) := by
        rw [hkv]
        unfold mV
        rw [List.map_map]
        rfl
      have v1 := entries_vals pos _ _ hkv'
      have v2 := entries_vals neg _ _ hkv'
      exact ⟨g, es, clock, rfl, hb, hg, hborn, hnd, v1.2, v1.1.trans (trD_map hc day), v2.1.trans (trC_map hc day)⟩
    · rintro e w' ⟨rfl, hb⟩
      exact ⟨_, fun _ => none, rfl, hb, ⟨hb.size, fun b k hk => (by simp at hk), fun b sv hr => (by cases hr), fun b b' sv sv' g h1 => (by cases h1)⟩, .ro (toV_rel rfl).1⟩
end Go.Proofs.YtdjdipehfnnhpaaDoor
