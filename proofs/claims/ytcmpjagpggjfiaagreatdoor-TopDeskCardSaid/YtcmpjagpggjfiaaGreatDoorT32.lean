/-
  desk.Run's frame: the machine's states beside a strings.Builder that it does not own.
-/
import Derived.Test.YtcmpjagpggjfiaaGreatDoorT31
import Derived.Test.YtcmpjagpggjfiaaGreatDoorT04
set_option linter.unusedVariables false
set_option linter.unusedSimpArgs false
namespace Go.Ev
open Go Go.RowKit
section
variable {J : World → Prop} {ok : Nat → Prop} {w0 w w' : World} {F : Fr} {n : Nat} {σ : St} {a : Act} {ρ : Nat → Option Value}
theorem Sim.rebase (hs : Sim J ok w0 F n σ a w ρ) : Sim J ok w ⟨w, ρ, F.B, F.ds⟩ n σ a w ρ :=
 ⟨fun w' hb => hs.j w' (hs.below.trans hb), .refl _ _, hs.inv, hs.rel, hs.size, hs.defers, ⟨fun _ _ _ => rfl, fun b sv g h1 h2 => .inr ⟨b, sv, h1, h2⟩, fun b _ sv h => h, Nat.le_refl _⟩, hs.small⟩
def okO (ok : Nat → Prop) (w w' : World) (g : Nat) : Prop := (g < w.heap.size ∧ ok g) ∨ w'.heap.size ≤ g
theorem Sim.other (hs : Sim J ok w0 F n σ a w ρ) (hbel : Below F.B w w') (hgr : w.heap.size ≤ w'.heap.size) (hk : ∀ g, g < w.heap.size → (ok g ∨ ∃ b sv, ρ b = some sv ∧ own sv = some g) → w'.heap[g]? = w.heap[g]?) :
  Sim J (okO ok w w') w' ⟨w', ρ, F.B, F.ds⟩ n σ a w' ρ := by
 have hokk : ∀ g, okAt ok F.B ρ w g → okAt (okO ok w w') F.B ρ w' g ∧ w'.heap[g]? = w.heap[g]? := fun g hg => ⟨⟨.inl ⟨hg.2.1, hg.1⟩, by have := hg.2.1; omega, hg.2.2⟩, hk g hg.2.1 (.inl hg.1)⟩
 refine ⟨fun w1 hb => hs.j w1 ((hs.below.trans hbel).trans hb), .refl _ _, ⟨Nat.le_trans hs.inv.size hgr, fun b k hb => ?_, hs.inv.dom, hs.inv.inj, fun g hg => .inr hg, fun b sv g h1 h2 => ?_⟩, fun t => (hs.rel t).mono hokk fun _ _ h => h, hs.size, hs.defers, ⟨fun _ _ _ => rfl, fun b sv g h1 h2 => .inr ⟨b, sv, h1, h2⟩, fun b _ sv h => h, Nat.le_refl _⟩, hs.small⟩
 ·obtain ⟨sv, hr, hblk⟩ := hs.inv.blk b k hb
  exact ⟨sv, hr, hblk.mono' hokk hgr (fun g ho => hk g (hs.inv.own_ge hr ho).2 (.inr ⟨b, sv, hr, ho⟩)) fun _ _ h => h⟩
 ·rcases hs.inv.fr b sv g h1 h2 with h | h
  ·exact .inl h
  ·exact .inr (.inl ⟨(hs.inv.own_ge h1 h2).2, h⟩)
theorem Sim.weak (hs : Sim J ok w0 F n σ a w ρ) {b : Nat} {v v' : V} (hb : look b σ.hp = some (.box v)) (hv : ∀ val, Rel w (okAt ok F.B ρ w) ρ v val → Rel w (okAt ok F.B ρ w) ρ v' val) : Sim J ok w0 F n ⟨σ.env, setH b (.box v') σ.hp⟩ a w ρ := by
 refine ⟨hs.j, hs.below, ⟨hs.inv.size, fun c k hk => ?_, fun c sv hr => ?_, hs.inv.inj, hs.inv.new, hs.inv.fr⟩, hs.rel, hs.size, hs.defers, hs.fr, hs.small⟩
 ·have hk' : look c (setH b (.box v') σ.hp) = some k := hk
  rw [look_setH] at hk'
  by_cases hc : c = b
  ·subst hc
   rw [if_pos rfl] at hk'
   cases hk'
   obtain ⟨sv, hr, g, val, h1, h2, h3, h4, h5, h6, h7⟩ := hs.inv.blk c _ hb
   exact ⟨sv, hr, g, val, h1, h2, h3, h4, h5, h6, hv val h7⟩
  ·rw [if_neg hc] at hk'
   exact hs.inv.blk c k hk'
 ·obtain ⟨k, hk⟩ := hs.inv.dom c sv hr
  by_cases hc : c = b
  ·exact ⟨.box v', by show look c (setH b (.box v') σ.hp) = _; rw [look_setH, if_pos hc]⟩
  ·exact ⟨k, by show look c (setH b (.box v') σ.hp) = _; rw [look_setH, if_neg hc]; exact hk⟩
theorem Rel.raw_inv {ok : Nat → Prop} {v u : Value} (h : Rel w ok ρ (.raw v) u) : u = v := by
 cases h with
 | ro h => cases h; rfl
theorem str_start (hJJ : Stable J) (hJ : J w) (s : ByteArray) (hn : 1 ≤ n ∧ n ≤ 100000) :
  Sim J (fun g => w.heap.size ≤ g) w ⟨w, fun _ => none, w.heap.size, []⟩ n ⟨[(0, .str s)], []⟩ { tmps := #[.string s] ++ Array.replicate (n - 1) Go.undef, defers := [] } w (fun _ => none) := by
 refine ⟨fun w' hb => hJJ w w' hJ hb, .refl _ _, ⟨Nat.le_refl _, fun b k hk => (by simp [St.h, look] at hk), fun b sv hr => (by cases hr), fun b b' sv sv' g h1 => (by cases h1), fun g hg => hg, fun b sv g h1 => by cases h1⟩, fun t => ?_, by simp; omega, rfl, ⟨fun _ _ _ => rfl, (fun b sv g h1 => by cases h1), (fun b hb sv h1 => by cases h1), Nat.le_refl _⟩, hn.2⟩
 by_cases h0 : t = 0
 ·subst h0
  have e : (#[Value.string s] ++ Array.replicate (n - 1) Go.undef).getD 0 Go.undef = .string s := by
   rw [Array.getD_eq_getD_getElem?, Array.getElem?_append_left (by simp)]
   rfl
  show Rel _ _ _ (.str s) ((#[Value.string s] ++ Array.replicate (n - 1) Go.undef).getD 0 Go.undef)
  rw [e]
  exact .ro (.str s)
 ·have : (⟨[(0, .str s)], []⟩ : St).e t = .undef := by
   simp only [St.e, look]
   rw [if_neg h0]
   rfl
  rw [this]
  exact .ro (.undef _)
end
end Go.Ev
namespace Go.Proofs.YtcmpjagpggjfiaaGreatDoor
open Go Go.Ev Go.RowKit Go.Shelf
def RunI (J : World → Prop) (w0 : World) (n gB : Nat) (bs : List Value) (σ : St) (a : Act) (w : World) : Prop :=
 ∃ ok ρ v, Sim J ok w ⟨w, ρ, w0.heap.size, []⟩ n σ a w ρ ∧ Bld w0.heap.size gB v bs w ∧ (∀ g, (g = gB ∨ v.ownBlock = some g) → ¬ ok g ∧ ∀ b sv, ρ b = some sv → own sv ≠ some g) ∧ Below w0.heap.size w0 w
section
variable {X : Ctx} {J : World → Prop} {ok : Nat → Prop} {w0 w w' wx : World} {n gB : Nat} {bs : List Value} {v : Value} {σ σ' : St} {a a' : Act} {ρ : Nat → Option Value} {Q : Exit → Act → World → Prop} {K : St → Prop}
theorem RunI.of (hb : Bld w0.heap.size gB v bs w) (hno : ∀ g, (g = gB ∨ v.ownBlock = some g) → ¬ ok g ∧ ∀ b sv, ρ b = some sv → own sv ≠ some g) (hw : Below w0.heap.size w0 w) (hs : Sims J ok wx ⟨w, ρ, w0.heap.size, []⟩ n σ' a' w') : RunI J w0 n gB bs σ' a' w' := by
 obtain ⟨ρ', hs⟩ := hs
 refine ⟨ok, ρ', v, hs.rebase, hb.kept fun x hx hh => hs.fr.keep x hx (hno x hh).2, fun g hg => ⟨(hno g hg).1, fun b sv h1 h2 => ?_⟩, hw.trans hs.below⟩
 rcases hs.fr.fresh b sv g h1 h2 with h | ⟨b0, sv0, h3, h4⟩
 ·have h5 : g < w.heap.size := by
   rcases hg with rfl | hg
   ·exact hb.lt
   ·exact (hb.ownlt hg).2
  have h6 : w.heap.size ≤ g := h
  omega
 ·exact (hno g hg).2 b0 sv0 h3 h4
theorem RunI.code (hT : TOkX Tryz.prog X) (hΛ : LamAll Tryz.prog J X) (hΦ : ∀ g args r bs, X.Φ g args = some (r, bs) → SoundAt Tryz.prog J g args r bs) (hJJ : Stable J) {c : Code} {QE : Ex → St → Prop} (hr : RunI J w0 n gB bs σ a w) (hdr : drAll X.dr c = true) (h : ev X n c σ QE)
  (hQ : ∀ e σ' a' w', QE e σ' → RunI J w0 n gB bs σ' a' w' → Q e.to a' w') : c.wp Tryz.prog Q a w := by
 obtain ⟨ok, ρ, v, hs, hb, hno, hw⟩ := hr
 exact ev_sound (w0 := w) mixOk hT hΛ hΦ hJJ c QE σ a w Q hdr h ⟨ρ, hs⟩ fun e σ' a' w' hq hs' => hQ e σ' a' w' hq (.of hb hno hw hs')
theorem RunI.upto (hT : TOkX Tryz.prog X) (hΛ : LamAll Tryz.prog J X) (hΦ : ∀ g args r bs, X.Φ g args = some (r, bs) → SoundAt Tryz.prog J g args r bs) (hJJ : Stable J) {id m : Nat} {ops : Array Oper} (hr : RunI J w0 n gB bs σ a w) (hm : m ≤ ops.size) (h : evOps X n ops.toList (ops.toList.take m) σ K)
  (hK : ∀ σ' a' w', K σ' → RunI J w0 n gB bs σ' a' w' → wpOps Tryz.prog ops Q (List.range' m (ops.size - m)) a' w') : (Code.region id ops false).wp Tryz.prog Q a w := by
 obtain ⟨ok, ρ, v, hs, hb, hno, hw⟩ := hr
 exact reg_upto (w0 := w) hT hΛ hΦ hJJ hm h ⟨ρ, hs⟩ fun σ' a' w' hk hs' => hK σ' a' w' hk (.of hb hno hw hs')
theorem RunI.keep (hr : RunI J w0 n gB bs σ a w) {ts bs' : List Nat} (hc : (σ.keep ts bs').closed bs' = true) : RunI J w0 n gB bs (σ.keep ts bs') a w := by
 obtain ⟨ok, ρ, v, hs, hb, hno, hw⟩ := hr
 exact .of hb hno hw ⟨_, hs.keep hc⟩
theorem RunI.chain (hT : TOkX Tryz.prog X) (hΛ : LamAll Tryz.prog J X) (hΦ : ∀ g args r bs, X.Φ g args = some (r, bs) → SoundAt Tryz.prog J g args r bs) (hJJ : Stable J) {cs : List Code} {T : Code} (hr : RunI J w0 n gB bs σ a w) (hdr : cs.all (drAll X.dr) = true) (h : ev X n (cs.foldr Code.seq .skip) σ (postN K))
  (hK : ∀ σ' a' w', K σ' → RunI J w0 n gB bs σ' a' w' → T.wp Tryz.prog Q a' w') : (cs.foldr Code.seq T).wp Tryz.prog Q a w := by
 obtain ⟨ok, ρ, v, hs, hb, hno, hw⟩ := hr
 exact chain_wp (w0 := w) mixOk hT hΛ hΦ hJJ (fun σ' a' w' hk hs' => hK σ' a' w' hk (.of hb hno hw hs')) cs σ a w hdr h ⟨ρ, hs⟩
theorem RunI.alloc {F : Fr} {o : Oper} (hs : Sims J ok wx F n σ a w) (hB : F.B = w0.heap.size) (hds : F.ds = []) (hw : Below w0.heap.size w0 w) (ho : o.op = .alloc 41) (hd : dstOk n o.dst)
  {KW : Act → World → Prop} (hK : ∀ a' w', RunI J w0 n w.heap.size [] (σ.app .none o.dst (.raw (.pointer (some ⟨w.heap.size, 0, none⟩)))) a' w' → KW a' w') : o.wp Tryz.prog a w KW Q := by
 obtain ⟨ρ, hs⟩ := hs
 obtain ⟨i0, hi, hz⟩ : ∃ i, Tryz.prog.info? 41 = some i ∧ i.zero = some (.agg #[.pointer none, .slice none 0 0]) := by
  have h : (Tryz.prog.info? 41).map (fun i => i.zero) = some (some (.agg #[.pointer none, .slice none 0 0])) := by kernel_rfl
  cases hi : Tryz.prog.info? 41 with
  | none => rw [hi] at h; cases h
  | some i => rw [hi] at h; exact ⟨i, rfl, Option.some.inj h⟩
 have hc : (Value.agg #[.pointer none, .slice none 0 0]).cells = #[.pointer none, .slice none 0 0] := rfl
 have run : (execOp a.eval o).run Tryz.prog w = .ok (.value (.pointer (some ⟨w.heap.size, 0, none⟩))) (w.alloc (.cells #[.pointer none, .slice none 0 0] 41)) := by
  simp [execOp, ho, Instr.alloc, zeroValue, typeInfo, hi, hz, newVar, newRow, hc]
 unfold Oper.wp
 rw [run]
 have hbel : Below w.heap.size w (w.alloc (.cells #[.pointer none, .slice none 0 0] 41)) := below_alloc w _
 have hsz : (w.alloc (.cells #[.pointer none, .slice none 0 0] 41)).heap.size = w.heap.size + 1 := World.size_alloc _ _
 have h1 := hs.other (hbel.mono hs.inv.size) (by omega) fun g hg _ => hbel.block g hg
 rw [hB, hds] at h1
 have hB' : w0.heap.size ≤ w.heap.size := by rw [← hB]; exact hs.inv.size
 have hbn := bld_new w
 refine hK _ _ ⟨_, ρ, .slice none 0 0, h1.step (eff := .none) hd (fun _ _ => rfl) (Step.refl h1.inv) (.ro (.raw _)), ⟨hB', hbn.heap, World.ownsRow_nil _ _ _ _, hbn.ne⟩, fun g hg => ?_, hw.trans (hbel.mono hB')⟩
 have hg' : g = w.heap.size := by
  rcases hg with h | h
  ·exact h
  ·simp [Value.ownBlock] at h
 subst hg'
 refine ⟨?_, fun b sv h7 h8 => ?_⟩
 ·rintro (h | h)
  ·omega
  ·omega
 ·have := (hs.inv.own_ge h7 h8).2
  omega
theorem RunI.write {o : Oper} {x y : Operand} {tys : Array TypeId} {s : ByteArray} (hr : RunI J w0 n gB bs σ a w) (ho : o.op = .call ⟨.value (.func 9), #[x, y], tys⟩) (hd : dstOk n o.dst) (hx : opd σ.e x = .raw (.pointer (some ⟨gB, 0, none⟩))) (hy : opd σ.e y = .str s) (hl : bs.length + s.size ≤ 140737488355328)
  {KW : Act → World → Prop} (hK : ∀ a' w', RunI J w0 n gB (bs ++ Lib.strCells s) (σ.app .none o.dst .undef) a' w' → KW a' w') : o.wp Tryz.prog a w KW Q := by
 obtain ⟨ok, ρ, v, hs, hb, hno, hw⟩ := hr
 have e1 : a.eval x = .pointer (some ⟨gB, 0, none⟩) := by
  have := hs.opd x
  rw [hx] at this
  exact this.raw_inv
 have e2 : a.eval y = .string s := by
  have := hs.opd y
  rw [hy] at this
  exact this.str_inv
 have run : (execOp a.eval o).run Tryz.prog w = .ok (.enter 9 #[.pointer (some ⟨gB, 0, none⟩), .string s]) w := by
  obtain ⟨fn, h1, h2, h3⟩ := callOk Tryz.func9 rfl rfl
  have e0 : a.eval (.func 9) = .func (.func 9) #[] #[] := rfl
  have h2' := h2
  simp only [beq_eq_false_iff_ne, ne_eq] at h2'
  have h3' : fn.body ≠ none := by intro e; simp [e] at h3
  simp [execOp, ho, resolve, e0, e1, e2, Deferred.ofValue, invoke, callFunc, h1, h2', h3']
 unfold Oper.wp
 rw [run]
 refine (bwrite2 s hb hl).mono ?_
 rintro e w' ⟨rfl, v', hb', hlv⟩
 have h1 := hs.other hlv.1 hlv.2.1 fun g hg hh => hlv.2.2.1 g hg (fun e => by
   rcases hh with h | ⟨b, sv, h2, h3⟩
   ·exact (hno g (.inl e)).1 h
   ·exact (hno g (.inl e)).2 b sv h2 h3) fun e => by
   rcases hh with h | ⟨b, sv, h2, h3⟩
   ·exact (hno g (.inr e)).1 h
   ·exact (hno g (.inr e)).2 b sv h2 h3
 refine hK _ _ ⟨okO ok w w', ρ, v', h1.step (eff := .none) hd (fun _ _ => rfl) (Step.refl h1.inv) (.ro (.undef _)), hb', fun g hg => ?_, hw.trans hlv.1⟩
 have h5 : (g = gB ∨ v.ownBlock = some g) ∨ (w.heap.size ≤ g ∧ g < w'.heap.size) := by
  rcases hg with rfl | hg
  ·exact .inl (.inl rfl)
  ·rcases hlv.2.2.2 g hg with h | h
   ·exact .inl (.inr h)
   ·exact .inr ⟨h, (hb'.ownlt hg).2⟩
 rcases h5 with h5 | ⟨h5, h6⟩
 ·have h6 : g < w.heap.size := by
   rcases h5 with rfl | h5
   ·exact hb.lt
   ·exact (hb.ownlt h5).2
  refine ⟨?_, (hno g h5).2⟩
  rintro (h | h)
  ·exact (hno g h5).1 h.2
  ·have := hlv.2.1; omega
 ·refine ⟨?_, fun b sv h7 h8 => ?_⟩
  ·rintro (h | h)
   ·omega
   ·omega
  ·have := (hs.inv.own_ge h7 h8).2
   omega
theorem RunI.byte {o : Oper} {x : Operand} {tys : Array TypeId} (hr : RunI J w0 n gB bs σ a w) (ho : o.op = .call ⟨.value (.func 11), #[x, .const (.int .u8 10)], tys⟩) (hd : dstOk n o.dst) (hx : opd σ.e x = .raw (.pointer (some ⟨gB, 0, none⟩))) (hl : bs.length + 1 ≤ 140737488355328)
  {KW : Act → World → Prop} (hK : ∀ a' w', RunI J w0 n gB (bs ++ [.int .u8 10]) (σ.app .none o.dst .undef) a' w' → KW a' w') : o.wp Tryz.prog a w KW Q := by
 obtain ⟨ok, ρ, v, hs, hb, hno, hw⟩ := hr
 have e1 : a.eval x = .pointer (some ⟨gB, 0, none⟩) := by
  have := hs.opd x
  rw [hx] at this
  exact this.raw_inv
 have run : (execOp a.eval o).run Tryz.prog w = .ok (.enter 11 #[.pointer (some ⟨gB, 0, none⟩), .int .u8 10]) w := by
  obtain ⟨fn, h1, h2, h3⟩ := callOk Tryz.func11 rfl rfl
  have e0 : a.eval (.func 11) = .func (.func 11) #[] #[] := rfl
  have e3 : a.eval (.const (.int .u8 10)) = .int .u8 10 := rfl
  have h2' := h2
  simp only [beq_eq_false_iff_ne, ne_eq] at h2'
  have h3' : fn.body ≠ none := by intro e; simp [e] at h3
  simp [execOp, ho, resolve, e0, e1, e3, Deferred.ofValue, invoke, callFunc, h1, h2', h3']
 unfold Oper.wp
 rw [run]
 refine (bbyte2 hb hl).mono ?_
 rintro e w' ⟨rfl, v', hb', hlv⟩
 have h1 := hs.other hlv.1 hlv.2.1 fun g hg hh => hlv.2.2.1 g hg (fun e => by
   rcases hh with h | ⟨b, sv, h2, h3⟩
   ·exact (hno g (.inl e)).1 h
   ·exact (hno g (.inl e)).2 b sv h2 h3) fun e => by
   rcases hh with h | ⟨b, sv, h2, h3⟩
   ·exact (hno g (.inr e)).1 h
   ·exact (hno g (.inr e)).2 b sv h2 h3
 refine hK _ _ ⟨okO ok w w', ρ, v', h1.step (eff := .none) hd (fun _ _ => rfl) (Step.refl h1.inv) (.ro (.undef _)), hb', fun g hg => ?_, hw.trans hlv.1⟩
 have h5 : (g = gB ∨ v.ownBlock = some g) ∨ (w.heap.size ≤ g ∧ g < w'.heap.size) := by
  rcases hg with rfl | hg
  ·exact .inl (.inl rfl)
  ·rcases hlv.2.2.2 g hg with h | h
   ·exact .inl (.inr h)
   ·exact .inr ⟨h, (hb'.ownlt hg).2⟩
 rcases h5 with h5 | ⟨h5, h6⟩
 ·have h6 : g < w.heap.size := by
   rcases h5 with rfl | h5
   ·exact hb.lt
   ·exact (hb.ownlt h5).2
  refine ⟨?_, (hno g h5).2⟩
  rintro (h | h)
  ·exact (hno g h5).1 h.2
  ·have := hlv.2.1; omega
 ·refine ⟨?_, fun b sv h7 h8 => ?_⟩
  ·rintro (h | h)
   ·omega
   ·omega
  ·have := (hs.inv.own_ge h7 h8).2
   omega
end
end Go.Proofs.YtcmpjagpggjfiaaGreatDoor
