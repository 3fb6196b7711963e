/-
  A line that fails, answered: the deferred function takes the fault, and says so.
-/
import Derived.Test.YtcmpjagpggjfiaaGreatDoorT40
import Derived.Test.YtcmpjagpggjfiaaGreatDoorT30
set_option linter.unusedVariables false
set_option linter.unusedSimpArgs false
namespace Go.Proofs.YtcmpjagpggjfiaaGreatDoor
open Go Go.Ev Go.RowKit Go.Acc Go.Dk Go.Lg
set_option maxHeartbeats 4000000
set_option maxRecDepth 100000 in
theorem store_out {ok : Nat → Prop} {w0 w : World} {F : Fr} {n : Nat} {σ : St} {a : Act} {ρ : Nat → Option Value} (hs : Sim DkJ ok w0 F n σ a w ρ) {g : Nat} {s0 out : ByteArray} {bo : Nat} (h4 : σ.e 4 = .ptr bo 0) (hp : a.tmps.getD 4 Go.undef = .pointer (some ⟨g, 0, none⟩)) (h32 : σ.h bo = some (.box (.str s0)))
  (hcell : w.cell? ⟨g, 0, none⟩ = some (.string s0)) (hz : w.frozen? ⟨g, 0, none⟩ = false) : ∃ ρ', Sim DkJ ok w0 F n ⟨σ.env, setH bo (.box (.str out)) σ.hp⟩ a (w.setCell ⟨g, 0, none⟩ (.string out)) ρ' := by
 obtain ⟨X, hX⟩ : ∃ X, X = mkX (phi []) nv0 fz0 [] [] [] ⟨[], lnL [], []⟩ := ⟨_, rfl⟩
 have hm : MtsOk Tryz.prog DkJ ⟨[], lnL [], []⟩ := ⟨trivial, trivial⟩
 have hT : TOkX Tryz.prog X := by rw [hX]; exact tyOk _ _ _ _ _ _ _
 have hΛ : LamAll Tryz.prog DkJ X := by rw [hX]; exact lamAll_of (lam := []) trivial hm rfl rfl rfl
 have hΦ : ∀ g args r bs, X.Φ g args = some (r, bs) → SoundAt Tryz.prog DkJ g args r bs := by rw [hX]; exact phi_sound (P := Tryz.prog) (J := DkJ) (l := []) trivial
 have hop := op_sound (o := ⟨none, .store 9 (.tmp 4) (.const (.string out)), 0, "", #[], none⟩) (d := 0) (v := .undef) (eff := .write bo (.box (.str out))) hT hΛ hΦ (fun w' hb => hs.j w' (hs.below.trans hb)) hs.inv hs.opd (by
  rw [hX]
  simp only [h4, h32, go_sem, evP_D, evD_guard, evD_cons, evD_zero, evD_nil])
 have := hop (fun a' w' => ∃ ρ', Sim DkJ ok w0 F n ⟨σ.env, setH bo (.box (.str out)) σ.hp⟩ a' w' ρ') (fun _ _ _ => False) fun w' ρ' val hst hr => ⟨ρ', hs.step (dst := none) (v := .undef) (eff := .write bo (.box (.str out))) trivial (fun _ _ => rfl) hst hr⟩
 have he : a.tmps[4]?.getD Go.undef = .pointer (some ⟨g, 0, none⟩) := by rw [← Array.getD_eq_getD_getElem?]; exact hp
 simp [Oper.wp, execOp, go_sem, he, hcell, hz, Act.put] at this
 exact this
@[local go_sem] theorem dk_as (v : Value) (xT : TypeId) (w : World) : (Instr.typeAssert (.iface 61 v) xT 61 true).run Tryz.prog w = .ok (.tuple #[v, .bool true]) w := by
 simp [Instr.typeAssert, run_underlying Tryz.underlying61, go_sem, Result.andThen]
set_option maxHeartbeats 1000000 in
set_option maxRecDepth 100000 in
theorem catch_fault {ok : Nat → Prop} {w0 w : World} {F : Fr} {n : Nat} {σ : St} {a : Act} {ρ : Nat → Option Value} (hs : Sim DkJ ok w0 F n σ a w ρ) (p : Addr) (s0 : ByteArray) {bo : Nat} (h4 : σ.e 4 = .ptr bo 0) (hp : a.tmps.getD 4 Go.undef = .pointer (some p)) (h32 : σ.h bo = some (.box (.str s0))) (e : Int) (h0 : 0 ≤ e ∧ e ≤ 100) :
  CallsD Tryz.prog 19 #[.pointer (some p)] (.panicking (faultE e)) w fun en u' w' => en = .returned (.tuple #[]) ∧ (∃ x, u' = .panicking [x] ∧ x.recovered = true) ∧
   ∃ ρ', Sim DkJ ok w0 F n ⟨σ.env, setH bo (.box (.str (⟨#[101, 114, 114, 111, 114, 32]⟩ ++ itoaB e))) σ.hp⟩ a w' ρ' := by
 obtain ⟨g, hrg, hpg⟩ := ((show Rel w (okAt ok F.B ρ w) ρ (.ptr bo 0) (a.tmps.getD 4 Go.undef) by rw [← h4]; exact hs.rel 4)).ptr_inv
 rw [hp] at hpg
 have hpe : p = ⟨g, 0, none⟩ := by simpa using hpg
 obtain ⟨sv, hr, hblk⟩ := hs.inv.blk bo _ h32
 have hsv : sv = .pointer (some ⟨g, 0, none⟩) := Option.some.inj (hr.symm.trans hrg)
 subst hsv
 obtain ⟨g', val0, hg', hBg, hgs, hcl, hfz, _, hv0⟩ := hblk
 obtain rfl : g = g' := by simpa using hg'
 have hv0 := hv0.str_inv
 subst hv0
 have hcell : w.cell? ⟨g, 0, none⟩ = some (.string s0) := hcl 0 _ rfl
 have hz : w.frozen? ⟨g, 0, none⟩ = false := (hfz 0 (show 0 < 1 by omega)).2
 clear hcl hfz hr hg'
 refine callsD_of_wpS Tryz.func19 rfl fun c₀ cs hu => ?_
 apply wpS_seq
 apply wpS_region
 simp [wpOpsS, go_sem, recoverD, hu, faultE, Tryz.ntmps19, Exit.thenS]
 apply wpS_seq
 apply wpS_region
 simp [wpOpsS, go_sem, Exit.thenS]
 refine wpS_cond (t := true) (by simp [Act.eval, Array.replicate]) ?_
 simp only [if_true]
 refine wpS_of_wp ?_
 generalize hi : Value.iface 61 (Value.agg #[Value.int IntKind.i64 e]) = fv
 change Code.wp _ _ _ ⟨#[.pointer (some p), fv, Go.undef, Go.undef, fv, fv, .bool true, Go.undef, Go.undef, Go.undef, Go.undef, Go.undef, Go.undef, Go.undef, Go.undef, Go.undef, Go.undef, Go.undef, Go.undef], []⟩ w
 subst hi
 have hb1 : Below w.heap.size w (w.alloc (.cells #[.int .i64 e] 61)) := (Below.refl _ _).alloc (Nat.le_refl _) _
 have hI := it_snd _ _ _ (itF_eq (n := e) (by omega) (by omega))
 have hc := hI.2 (w.alloc (.cells #[.int .i64 e] 61)) (fun _ => False) [.int .i64 e] (hs.j _ (hs.below.trans (hb1.mono hs.inv.size))) (fun _ h => h.elim) rfl (fun j c u hc hu => by
  match j, hc, hu with
  | 0, hc, hu => cases hc; cases hu; exact .int _ _)
 have hc' : Calls Tryz.prog 20 #[.int .i64 e] (w.alloc (.cells #[.int .i64 e] 61)) fun en w2 => en = .returned (.string (itoaB e)) ∧ Below w.heap.size w w2 := by
  refine hc.mono ?_
  rintro en w2 ⟨val, ρr, rfl, hb2, _, hv⟩
  rw [hv.str_inv]
  exact ⟨rfl, hb1.trans (hb2.mono (by simp))⟩
 clear hc hI hb1
 have hsz : ¬ 9223372036854775807 < 6 + (itoaB e).size := by
  have := itoaB_size (n := e) (k := 2) (by omega)
  omega
 go_wp2_with (go_at_call 20; refine hc'.mono ?_)
 rintro en w2 rfl hb3
 have c2 : w2.cell? ⟨g, 0, none⟩ = some (.string s0) := by rw [← hcell]; exact hb3.cell (by exact hgs)
 have z2 : w2.frozen? ⟨g, 0, none⟩ = false := by rw [← hz]; exact hb3.frozen (by exact hgs)
 go_wp2
 have hs3 := store_out (out := ⟨#[101, 114, 114, 111, 114, 32]⟩ ++ itoaB e) (hs.keepW (step_grow hs.inv hb3).1) h4 hp h32 c2 z2
 exact ⟨rfl, _, rfl, _, by simp [results, Tryz.results19], rfl, ⟨_, rfl, rfl⟩, hs3⟩
end Go.Proofs.YtcmpjagpggjfiaaGreatDoor
