/-
  The register machine (Ev), its middle: calls, code, orders that are drawn.
-/
import Derived.Test.YtcmpjagpggjfiaaGreatDoorT05
set_option linter.unusedVariables false
namespace Go.Ev
open Go Go.RowKit
/-! ### Calls -/
def Callable (P : Program) (f : FuncId) : Prop := ∃ fn, P.funcs[f]? = some fn ∧ (fn.name == "runtime.NumGoroutine") = false ∧ fn.body.isNone = false
def SoundAt (P : Program) (J : World → Prop) (f : FuncId) (args : List V) (r : V) (bs : List Blk) : Prop :=
 Callable P f ∧ ∀ (w : World) (ok : Nat → Prop) (vals : List Value), J w → (∀ g, ok g → g < w.heap.size) → args.length = vals.length →
  (∀ (j : Nat) c u, args[j]? = some c → vals[j]? = some u → RelD w ok c u) →
  Calls P f vals.toArray w fun e w' => ∃ val ρr, e = .returned val ∧ Below w.heap.size w w' ∧ Inv (upto w ok) w.heap.size w' ρr (fun j => bs[j]?) ∧ Rel w' (okAt (upto w ok) w.heap.size ρr w') ρr r val
def LendAt (P : Program) (J : World → Prop) (f : FuncId) (T : TypeId) (sz : Nat) (es as es' : List V) : Prop :=
 Callable P f ∧ ∀ (w : World) (B : Nat) (ok : Nat → Prop) (sv : Value) (vals : List Value), (∀ w', Below B w w' → J w') → B ≤ w.heap.size → (∀ g, ok g → g < w.heap.size ∧ own sv ≠ some g) → sv.oneCell' = true → 0 < sz → OwnV w ok B T sz sv es →
  as.length = vals.length → (∀ (j : Nat) c u, as[j]? = some c → vals[j]? = some u → RelD w ok c u) →
  Calls P f (sv :: vals).toArray w fun e w' => e = .returned (.tuple #[]) ∧ Below B w w' ∧ (∀ g, g < w.heap.size → own sv ≠ some g → w'.heap[g]? = w.heap[g]?) ∧ w.heap.size ≤ w'.heap.size ∧ OwnV w' (fun _ => False) B T sz sv es'
def Rel2 (w : World) (ok ok2 : Nat → Prop) (c : V) (u : Value) : Prop :=
 match c with
 | .row sz es => (∃ ad cap, u = .slice ad 0 cap ∧ es = []) ∨ ∃ (g o cap : Nat) (vs : List Value), u = .slice (some ⟨g, o, none⟩) es.length cap ∧ ok g ∧ vs.length = es.length ∧ (∀ v ∈ vs, v.cells.size = sz) ∧ (∀ v ∈ vs, ∀ u ∈ v.cells.toList, u.oneCell' = true) ∧
   (∀ (i : Nat) e v, es[i]? = some e → vs[i]? = some v → RelD w ok2 e v) ∧ ∀ (j : Nat) u, (vs.flatMap (·.cells.toList))[j]? = some u → w.cell? ⟨g, o + j, none⟩ = some u
 | c => RelD w ok2 c u
def TakeAt (P : Program) (J : World → Prop) (f : FuncId) (T : TypeId) (sz : Nat) (es as es' : List V) : Prop :=
 Callable P f ∧ ∀ (w : World) (B : Nat) (ok ok2 : Nat → Prop) (sv : Value) (vals : List Value), (∀ w', Below B w w' → J w') → B ≤ w.heap.size → (∀ g, ok g → g < w.heap.size ∧ own sv ≠ some g) → (∀ g, ok2 g → ok g) → sv.oneCell' = true → 0 < sz → OwnV w ok2 B T sz sv es →
 as.length = vals.length → (∀ (j : Nat) c u, as[j]? = some c → vals[j]? = some u → Rel2 w ok ok2 c u) →
 Calls P f (sv :: vals).toArray w fun e w' => ∃ sv', e = .returned sv' ∧ Below B w w' ∧ (∀ g, g < w.heap.size → own sv ≠ some g → w'.heap[g]? = w.heap[g]?) ∧ w.heap.size ≤ w'.heap.size ∧ (∀ k, own sv' = some k → w.heap.size ≤ k ∨ own sv = some k) ∧ sv'.oneCell' = true ∧ OwnV w' ok2 B T sz sv' es'
def LentAt (P : Program) (J : World → Prop) : Bool → FuncId → TypeId → Nat → List V → List V → List V → Prop
 | true => TakeAt P J
 | false => LendAt P J
def shift {α : Type} (n : Nat) (f : Nat → Option α) : Nat → Option α := fun b => if n ≤ b then f (b - n) else none
def Kp (ρ : Nat → Option Value) (w w' : World) : Prop := (∀ g, g < w.heap.size → (∀ b sv, ρ b = some sv → own sv ≠ some g) → w'.heap[g]? = w.heap[g]?) ∧ w.heap.size ≤ w'.heap.size
def CallsX (P : Program) (f : FuncId) (vals : Array Value) (w : World) (Q : Ending → World → Prop) : Prop := (Callable P f ∧ Calls P f vals w Q) ∨ ∃ val w', (callFunc f vals).run P w = .ok (.value val) w' ∧ Q (.returned val) w'
def MutAt (P : Program) (J : World → Prop) (f : FuncId) (ks : List Blk) (as : List V) (r : V) (ks' : List Blk) : Prop :=
 ∀ (ok : Nat → Prop) (w : World) (B : Nat) (ρ : Nat → Option Value) (vals : List Value), (∀ w', Below B w w' → J w') → (∀ g, ok g → g < w.heap.size) → Inv (upto w ok) B w (shift 1000000 ρ) (shift 1000000 fun j => ks[j]?) →
 as.length = vals.length → (∀ (j : Nat) c u, as[j]? = some c → vals[j]? = some u → Rel w (okAt (upto w ok) B (shift 1000000 ρ) w) (shift 1000000 ρ) c u) →
 CallsX P f vals.toArray w fun e w' => ∃ val ρ', e = .returned val ∧ Below B w w' ∧ Kp (shift 1000000 ρ) w w' ∧ (∀ j, j < ks.length → ρ' j = ρ j) ∧ (∀ j sv g, ks.length ≤ j → ρ' j = some sv → own sv = some g → w.heap.size ≤ g) ∧
  Inv (upto w ok) B w' (shift 1000000 ρ') (shift 1000000 fun j => ks'[j]?) ∧ Rel w' (okAt (upto w ok) B (shift 1000000 ρ') w') (shift 1000000 ρ') r val
def SrtAt (P : Program) (J : World → Prop) (f : FuncId) (t : TypeId) (lf : FuncId) (k : Nat) (T : TypeId) (sz : Nat) (es es' : List V) : Prop :=
 Callable P f ∧ ∀ (w : World) (B : Nat) (ok : Nat → Prop) (sv : Value) (o : Nat) (cs : List Value), (∀ w', Below B w w' → J w') → B ≤ w.heap.size → (∀ g, ok g → g < w.heap.size ∧ own sv ≠ some g ∧ g ≠ o) → sv.oneCell' = true → 0 < sz → OwnV w ok B T sz sv es →
 B ≤ o → o < w.heap.size → own sv ≠ some o → w.rangeAt o 0 cs → w.there o 0 cs.length → (∀ u ∈ cs, u.oneCell' = true) → cs[k]? = some sv →
 Calls P f #[.iface t sv, .func (.func lf) #[] #[.pointer (some ⟨o, 0, none⟩)]] w fun e w' => e = .returned (.tuple #[]) ∧ Below B w w' ∧ (∀ g, g < w.heap.size → own sv ≠ some g → g ≠ o → w'.heap[g]? = w.heap[g]?) ∧ w'.rangeAt o 0 cs ∧ w'.there o 0 cs.length ∧ w.heap.size ≤ w'.heap.size ∧ OwnV w' ok B T sz sv es'
structure LamAll (P : Program) (J : World → Prop) (X : Ctx) : Prop where
 lent : ∀ g L T sz es as es', X.Λ g = some L → L.2 T sz es as = some es' → LentAt P J L.1 g T sz es as es'
 chg : ∀ g M ks as r ks', X.M g = some M → M ks as = some (r, ks') → MutAt P J g ks as r ks'
 srt : ∀ g S t lf k T sz es es', X.S g = some S → S t lf k T sz es = some es' → SrtAt P J g t lf k T sz es es'
section
variable {P : Program} {X : Ctx} {J : World → Prop} {ok : Nat → Prop} {B : Nat} {w w' : World} {ρ : Nat → Option Value} {hp : Hp} {env : Env} {a : Act} {o : Oper} {v : V} {eff : Eff} {d : Nat}
theorem mapM_get {α β : Type} {f : α → Option β} : ∀ {l : List α} {r : List β}, l.mapM f = some r → r.length = l.length ∧ ∀ (j : Nat) y, r[j]? = some y → ∃ x, l[j]? = some x ∧ f x = some y
 | [], r, h => by simp at h; subst h; simp
 | x :: l, r, h => by
  rw [List.mapM_cons] at h
  cases hx : f x with
  | none => simp [hx] at h
  | some y =>
   cases hl : l.mapM f with
   | none => simp [hx, hl] at h
   | some r' =>
    simp [hx, hl] at h
    subst h
    obtain ⟨h1, h2⟩ := mapM_get hl
    refine ⟨by simp [h1], fun j z hz => ?_⟩
    cases j with
    | zero => simp at hz; subst hz; exact ⟨x, rfl, hx⟩
    | succ j => simpa using h2 j z (by simpa using hz)
theorem okAt_lt (_h : B ≤ w.heap.size) {g : Nat} (hg : okAt ok B ρ w g) : g < w.heap.size := by
 exact hg.2.1
structure RoQ (Q okk : Nat → Prop) (ρ : Nat → Option Value) (hp hp' : Hp) : Prop where
 ok : ∀ g, okk g → Q g
 sub : ∀ b k, hp' b = some k → hp b = some k
 own : ∀ b k sv g, hp' b = some k → ρ b = some sv → own sv = some g → Q g
theorem RoQ.all (hI : Inv ok B w ρ hp) : RoQ (fun g => g < w.heap.size) (okAt ok B ρ w) ρ hp hp :=
 ⟨fun g hg => okAt_lt hI.size hg, fun _ _ h => h, fun _ _ _ _ _ hr ho => (hI.own_ge hr ho).2⟩
theorem roC_rel (hI : Inv ok B w ρ hp) {Q : Nat → Prop} {hp' : Hp} (hq : RoQ Q (okAt ok B ρ w) ρ hp hp') {v v' : V} {val : Value} (hx : Rel w (okAt ok B ρ w) ρ v val) (h : roC hp' v = some v') : RelD w Q v' val := by
 have hk : ∀ g, okAt ok B ρ w g → Q g ∧ w.heap[g]? = w.heap[g]? := fun g hg => ⟨hq.ok g hg, rfl⟩
 unfold roC at h
 split at h
 ·rename_i b
  split at h
  ·rename_i T sz es hb
   simp at h
   subst h
   have hr := hx.vec_inv
   obtain ⟨sv, hsv, hpos, hown⟩ := hI.blk b _ (hq.sub b _ hb)
   rw [hr] at hsv
   simp at hsv
   subst hsv
   rcases hown.form with ⟨ad, he, rfl⟩ | ⟨g, cap, vs, he, hc, hle, hl, hsz, h1, hrr, how⟩
   ·rw [he]; exact .nil _ _
   ·rw [he] at how ⊢
    have hmx : cap ≤ maxLen := by
     rcases how.2 with ⟨hn, _⟩ | ⟨g', cap', cur, heq, _, _, _, hmx, _⟩
     ·cases hn
     ·simp at heq; omega
    refine .row sz es g 0 cap vs ?_ hle hmx hl hsz h1 (fun i v hv => ?_) fun i e v hee hv => (hrr i e v hee hv).mono hk
    ·have ho : own (.slice (some ⟨g, 0, none⟩) es.length cap) = some g := by simp [own, hc]
     exact hq.own b _ _ g hb hr (by rw [he]; exact ho)
    ·intro k u hu
     have hk' : k < sz := by have := (List.getElem?_eq_some_iff.1 hu).1; have := hsz v (List.mem_of_getElem? hv); simp at *; omega
     have := how.cells (g := g) rfl (i * sz + k) u (by rw [flat_get hsz hv hk']; exact hu)
     rwa [Addr.add_mid, ← Nat.add_assoc, Nat.zero_add, ← Nat.zero_add (i * sz)] at this
  ·cases h
 ·rename_i b sz0 lo k
  unfold partR at h
  simp only [Option.map_eq_some_iff] at h
  obtain ⟨⟨T, es0⟩, hs, rfl⟩ := h
  have hs' : subE hp b sz0 (lo + k) = some (T, es0) := by
   unfold subE at hs ⊢
   cases hb : hp' b with
   | none => simp [hb] at hs
   | some kb => rw [hb] at hs; rw [hq.sub b kb hb]; exact hs
  obtain ⟨hb, hpos, g, cap, c, ad, vs, hg, hc0, rfl, hle, hkc, hcm, ha, hl, hsz, h1, hrr, how⟩ := sub_form hI hx hs'
  rcases ha with hc | had
  ·have hk0 : k = 0 := by omega
   subst hk0; subst hc
   simp only [List.take_zero]
   exact .nil _ _
  ·subst had
   have hlen : ((es0.drop lo).take k).length = k := by rw [List.length_take, List.length_drop]; omega
   have hbk : ∃ kb, hp' b = some kb := by
    unfold subE at hs
    cases hb' : hp' b with
    | none => simp [hb'] at hs
    | some kb => exact ⟨kb, rfl⟩
   obtain ⟨kb, hbk⟩ := hbk
   have hQg : Q g := hq.own b kb _ g hbk hg (by simp [own, hc0])
   have := RelD.row (w := w) (ok := Q) sz0 ((es0.drop lo).take k) g (lo * sz0) c ((vs.drop lo).take k) hQg (by omega) hcm.1 (by rw [List.length_take, List.length_drop, hlen]; omega) (fun v hv => hsz v (List.mem_of_mem_drop (List.mem_of_mem_take hv))) (fun v hv => h1 v (List.mem_of_mem_drop (List.mem_of_mem_take hv))) (fun i v hv => ?_) fun i e v hee hv => (hrr (lo + i) e v (part_get hee).2 (part_get hv).2).mono hk
   ·rw [hlen] at this; exact this
   ·intro m u hu
    have hv2 := (part_get hv).2
    have hm : m < sz0 := by have := (List.getElem?_eq_some_iff.1 hu).1; have := hsz v (List.mem_of_getElem? hv2); simp at *; omega
    have := how.cells (g := g) rfl ((lo + i) * sz0 + m) u (by rw [flat_get hsz hv2 hm]; exact hu)
    rwa [Addr.add_mid, Nat.zero_add, Nat.add_mul] at this
 ·split at h
  ·rename_i hd
   simp at h
   subst h
   exact (hx.toD hd).mono hk
  ·cases h
theorem ro0_rel (hI : Inv ok B w ρ hp) {Q : Nat → Prop} {hp' : Hp} (hq : RoQ Q (okAt ok B ρ w) ρ hp hp') {v v' : V} {val : Value} (hx : Rel w (okAt ok B ρ w) ρ v val) (h : ro0 hp' v = some v') : RelD w Q v' val := by
 unfold ro0 at h
 split at h
 ·rename_i cs
  cases hm : cs.mapM (roC hp') with
  | none => simp [hm] at h
  | some cs' =>
   simp [hm] at h
   subst h
   obtain ⟨hl, hg⟩ := mapM_get hm
   obtain ⟨vs, rfl, hlv, h1, hr⟩ := hx.agg_inv
   refine .agg cs' vs (by omega) h1 fun j c u hc hu => ?_
   obtain ⟨c0, hc0, hc1⟩ := hg j c hc
   exact roC_rel hI hq (hr j c0 u hc0 hu) hc1
 ·exact roC_rel hI hq hx h
theorem ro1_rel (hI : Inv ok B w ρ hp) {Q : Nat → Prop} {hp' : Hp} (hq : RoQ Q (okAt ok B ρ w) ρ hp hp') {v v' : V} {val : Value} (hx : Rel w (okAt ok B ρ w) ρ v val) (h : ro1 hp' v = some v') : RelD w Q v' val := by
 have hk : ∀ g, okAt ok B ρ w g → Q g ∧ w.heap[g]? = w.heap[g]? := fun g hg => ⟨hq.ok g hg, rfl⟩
 unfold ro1 at h
 split at h
 ·rename_i b off
  split at h
  ·rename_i v0 hb
   split at h
   ·rename_i hst
    cases h0 : ro0 hp' v0 with
    | none => simp [h0] at h
    | some v1 =>
     simp [h0] at h
     subst h
     obtain ⟨g, hg, rfl⟩ := hx.ptr_inv
     obtain ⟨sv, hsv, g', val0, rfl, _, hlt, hra, _, h1, hrel⟩ := hI.blk b _ (hq.sub b _ hb)
     rw [hg] at hsv
     simp at hsv
     subst hsv
     have := RelD.rd (off := off) v1 val0 g 0 (ok := Q) (hq.own b _ _ g hb hg (by simp [own])) h1 hra (ro0_rel hI hq hrel h0)
     rwa [Nat.zero_add] at this
   ·cases h
  ·cases h
 ·exact ro0_rel hI hq hx h
theorem ro_rel (hI : Inv ok B w ρ hp) {Q : Nat → Prop} {hp' : Hp} (hq : RoQ Q (okAt ok B ρ w) ρ hp hp') {v v' : V} {val : Value} (hx : Rel w (okAt ok B ρ w) ρ v val) (h : ro hp' v = some v') : RelD w Q v' val := by
 unfold ro at h
 split at h
 ·rename_i f cs
  cases hm : cs.mapM (ro1 hp') with
  | none => simp [hm] at h
  | some cs' =>
   simp [hm] at h
   subst h
   obtain ⟨hl, hg⟩ := mapM_get hm
   obtain ⟨vs, rfl, hlv, hr⟩ := hx.fn_inv
   refine .fn f cs' vs (by omega) fun j c u hc hu => ?_
   obtain ⟨c0, hc0, hc1⟩ := hg j c hc
   exact ro1_rel hI hq (hr j c0 u hc0 hu) hc1
 ·exact ro1_rel hI hq hx h
theorem RelD.ren {w : World} {ok : Nat → Prop} {v : V} {val : Value} (n : Nat) (h : RelD w ok v val) : RelD w ok (V.ren n v) val := by
 have get : ∀ {cs : List V} {j : Nat} {c : V}, (V.renL n cs)[j]? = some c → ∃ c', cs[j]? = some c' ∧ c = V.ren n c' := by
  intro cs
  induction cs with
  | nil => intro j c h; simp [V.renL] at h
  | cons x cs ih =>
   intro j c h
   cases j with
   | zero => simp [V.renL] at h; exact ⟨x, rfl, h.symm⟩
   | succ j => simp [V.renL] at h; simpa using ih h
 have len : ∀ cs : List V, (V.renL n cs).length = cs.length := by
  intro cs
  induction cs with
  | nil => rfl
  | cons x cs ih => simp [V.renL, ih]
 induction h with
 | int => simp only [V.ren]; exact .int _ _
 | bool => simp only [V.ren]; exact .bool _
 | str => simp only [V.ren]; exact .str _
 | agg cs vs hl h1 _ ih =>
  simp only [V.ren]
  refine .agg _ vs (by rw [len, hl]) h1 fun j c v hc hv => ?_
  obtain ⟨c', hc', rfl⟩ := get hc
  exact ih j c' v hc' hv
 | tup cs vs hl _ ih =>
  simp only [V.ren]
  refine .tup _ vs (by rw [len, hl]) fun j c v hc hv => ?_
  obtain ⟨c', hc', rfl⟩ := get hc
  exact ih j c' v hc' hv
 | nil => simp only [V.ren]; exact .nil _ _
 | row sz es g o cap vs hok hcap hmax hl hsz h1 hc h _ => simp only [V.ren]; exact .row sz es g o cap vs hok hcap hmax hl hsz h1 hc h
 | zero => simp only [V.ren]; exact .zero
 | rd v off val g o hok h1 hc h _ => simp only [V.ren]; exact .rd v off val g o hok h1 hc h
 | fn f cs vs hl _ ih =>
  simp only [V.ren]
  refine .fn f _ vs (by rw [len, hl]) fun j c v hc hv => ?_
  obtain ⟨c', hc', rfl⟩ := get hc
  exact ih j c' v hc' hv
 | undef => simp only [V.ren]; exact .undef _
 | raw => simp only [V.ren]; exact .raw _
 | ifc t v val _ ih => simp only [V.ren]; exact .ifc t _ val ih
theorem Rel.ren {w : World} {ok : Nat → Prop} {ρ : Nat → Option Value} {v : V} {val : Value} (n : Nat) (h : Rel w ok ρ v val) : Rel w ok (shift n ρ) (V.ren n v) val := by
 have get : ∀ {cs : List V} {j : Nat} {c : V}, (V.renL n cs)[j]? = some c → ∃ c', cs[j]? = some c' ∧ c = V.ren n c' := by
  intro cs
  induction cs with
  | nil => intro j c h; simp [V.renL] at h
  | cons x cs ih =>
   intro j c h
   cases j with
   | zero => simp [V.renL] at h; exact ⟨x, rfl, h.symm⟩
   | succ j => simp [V.renL] at h; simpa using ih h
 have len : ∀ cs : List V, (V.renL n cs).length = cs.length := by
  intro cs
  induction cs with
  | nil => rfl
  | cons x cs ih => simp [V.renL, ih]
 induction h with
 | ro h => exact .ro (h.ren n)
 | ptr => simp only [V.ren]; exact .ro (.undef _)
 | eptr => simp only [V.ren]; exact .ro (.undef _)
 | sub => simp only [V.ren]; exact .ro (.undef _)
 | vec b sv h h1 => simp only [V.ren]; exact .vec _ _ (by simp [shift, h]) h1
 | agg cs vs hl h1 _ ih =>
  simp only [V.ren]
  refine .agg _ vs (by rw [len, hl]) h1 fun j c v hc hv => ?_
  obtain ⟨c', hc', rfl⟩ := get hc
  exact ih j c' v hc' hv
 | tup cs vs hl _ ih =>
  simp only [V.ren]
  refine .tup _ vs (by rw [len, hl]) fun j c v hc hv => ?_
  obtain ⟨c', hc', rfl⟩ := get hc
  exact ih j c' v hc' hv
 | fn f cs vs hl _ ih =>
  simp only [V.ren]
  refine .fn f _ vs (by rw [len, hl]) fun j c v hc hv => ?_
  obtain ⟨c', hc', rfl⟩ := get hc
  exact ih j c' v hc' hv
 | ifc t v val _ ih => simp only [V.ren]; exact .ifc t _ val ih
theorem Rel.plain {w : World} {ok ok' : Nat → Prop} {ρ : Nat → Option Value} {v : V} {val : Value} (h : Rel w ok ρ v val) (hp : V.plain v = true) : Rel w ok' ρ v val := by
 induction h with
 | ro h => exact .ro (h.plain hp)
 | ptr b off g h => exact .ptr b off g h
 | eptr b sz i off g n cap h => exact .eptr b sz i off g n cap h
 | vec b sv h h1 => exact .vec b sv h h1
 | sub b sz lo k g n cap c ad h hx => exact .sub b sz lo k g n cap c ad h hx
 | agg cs vs hl h1 _ ih => rw [V.plain, plainL_iff] at hp; exact .agg cs vs hl h1 fun j c v hc hv => ih j c v hc hv (hp c (List.mem_of_getElem? hc))
 | tup cs vs hl _ ih => rw [V.plain, plainL_iff] at hp; exact .tup cs vs hl fun j c v hc hv => ih j c v hc hv (hp c (List.mem_of_getElem? hc))
 | fn f cs vs hl _ ih => rw [V.plain, plainL_iff] at hp; exact .fn f cs vs hl fun j c v hc hv => ih j c v hc hv (hp c (List.mem_of_getElem? hc))
 | ifc t v val _ ih => simp [V.plain] at hp
theorem okAt_shift {n : Nat} {g : Nat} : okAt ok B (shift n ρ) w g ↔ okAt ok B ρ w g := by
 unfold okAt
 refine and_congr Iff.rfl (and_congr Iff.rfl ⟨fun h b sv hr => h (n + b) sv (by simp [shift, hr]), fun h b sv hr => ?_⟩)
 unfold shift at hr
 split at hr
 ·exact h _ sv hr
 ·cases hr
theorem Inv.shift {hp : Hp} (n : Nat) (h : Inv ok B w ρ hp) (hb : ∀ b k, hp b = some k → noBox k = true) : Inv ok B w (shift n ρ) (shift n hp) := by
 have e : okAt ok B (Ev.shift n ρ) w = okAt ok B ρ w := by funext g; exact propext okAt_shift
 refine ⟨h.size, ?_, ?_, ?_, h.new, fun b sv g hr ho => ?_⟩
 rotate_right
 ·unfold Ev.shift at hr
  split at hr
  ·exact (h.fr _ sv g hr ho).imp (by omega) id
  ·cases hr
 ·intro b k hk
  unfold Ev.shift at hk
  split at hk
  ·rename_i hle
   obtain ⟨sv, hr, hblk⟩ := h.blk _ k hk
   refine ⟨sv, by simp [Ev.shift, hle, hr], ?_⟩
   have hnb := hb _ k hk
   cases k with
   | box v => simp [noBox] at hnb
   | map kvs => exact hblk
   | vec T sz es => rw [e]; exact hblk
  ·cases hk
 ·intro b sv hr
  unfold Ev.shift at hr ⊢
  split at hr
  ·rename_i hle; rw [if_pos hle]; exact h.dom _ sv hr
  ·cases hr
 ·intro b b' sv sv' g h1 h2 o1 o2
  unfold Ev.shift at h1 h2
  split at h1
  ·split at h2
   ·have := h.inj _ _ sv sv' g h1 h2 o1 o2; omega
   ·cases h2
  ·cases h1
theorem Inv.plain {ok' : Nat → Prop} {hp : Hp} (h : Inv ok B w ρ hp) (hn : ∀ g, B ≤ g → ok' g) (hb : ∀ b k, hp b = some k → Blk.plain k = true) : Inv ok' B w ρ hp := by
 refine ⟨h.size, ?_, h.dom, h.inj, fun g hg => hn g (Nat.le_trans h.size hg), fun b sv g hr ho => .inr (hn g (h.own_ge hr ho).1)⟩
 intro b k hk
 obtain ⟨sv, hr, hblk⟩ := h.blk b k hk
 refine ⟨sv, hr, ?_⟩
 have hp' := hb b k hk
 cases k with
 | box v => simp [Blk.plain] at hp'
 | map kvs => exact hblk
 | vec T sz es =>
  obtain ⟨hpos, vs, hl, hsz, h1, hrr, ho⟩ := hblk
  simp only [Blk.plain, List.all_eq_true, Bool.and_eq_true] at hp'
  exact ⟨hpos, vs, hl, hsz, h1, fun i e v he hv => (hrr i e v he hv).plain (hp' e (List.mem_of_getElem? he)).1, ho⟩
theorem names_lookup (n : Nat) (bs : List Blk) : (fun b => (names n bs).lookup b) = shift n (fun j => bs[j]?) := by
 have key : ∀ (bs : List Blk) (k b : Nat), ((bs.zipIdx k).map fun (x, j) => (n + j, x)).lookup b = if n + k ≤ b then bs[b - (n + k)]? else none := by
  intro bs
  induction bs with
  | nil => intro k b; simp
  | cons x bs ih =>
   intro k b
   rw [List.zipIdx_cons, List.map_cons, List.lookup_cons, ih]
   by_cases hb : b = n + k
   ·subst hb; simp
   ·have hq : (b == n + k) = false := by simpa using hb
    rw [hq]
    by_cases hle : n + k ≤ b
    ·rw [if_pos (by omega), if_pos hle, show b - (n + k) = (b - (n + (k + 1))) + 1 by omega]; simp
    ·rw [if_neg (by omega), if_neg hle]
 funext b
 have := key bs 0 b
 simpa [names, shift] using this
theorem os_callV (hΦ : ∀ g args r bs, X.Φ g args = some (r, bs) → SoundAt P J g args r bs) (hJ : J w) (hI : Inv ok B w ρ hp) {f : Operand} {args : List Operand} {tys : Array TypeId}
  (hE : ∀ x, Rel w (okAt ok B ρ w) ρ (opd env x) (a.eval x)) (ho : o.op = .call ⟨.value f, args.toArray, tys⟩)
  (h : callV X hp d (opd env f) (args.map (opd env)) = some (v, eff)) : OpOk P ok B w ρ hp a o v eff := by
 unfold callV at h
 split at h
 ·rename_i g cs hq
  have hf := hE f
  rw [hq] at hf
  obtain ⟨vs, hfe, hlv, hrv⟩ := hf.fn_inv
  -- the arguments
  have hall : ∀ (j : Nat) c u, (args.map (opd env) ++ cs)[j]? = some c → (args.map a.eval ++ vs)[j]? = some u → Rel w (okAt ok B ρ w) ρ c u := by
   intro j c u hc hu
   by_cases hj : j < args.length
   ·rw [List.getElem?_append_left (by simpa using hj), List.getElem?_map] at hc hu
    rw [List.getElem?_eq_getElem hj] at hc hu
    simp at hc hu
    subst hc; subst hu
    exact hE _
   ·rw [List.getElem?_append_right (by simpa using hj)] at hc hu
    simp at hc hu
    exact hrv _ c u hc hu
  have hlen : (args.map (opd env) ++ cs).length = (args.map a.eval ++ vs).length := by simp [hlv]
  have run : Callable P g → (execOp a.eval o).run P w = .ok (.enter g (args.map a.eval ++ vs).toArray) w := by
   rintro ⟨fn, h1, h2, h3⟩
   simp only [beq_eq_false_iff_ne, ne_eq] at h2
   have h3' : fn.body ≠ none := by intro e; simp [e] at h3
   simp [execOp, ho, resolve, hfe, Deferred.ofValue, invoke, callFunc, h1, h2, h3']
  -- what is taken over
  have take : ∀ (r : V) (bs : List Blk) (w1 : World) (ρr : Nat → Option Value) (val : Value), Below w.heap.size w w1 → fresh hp (names (8 * d) bs) = true → (∀ (b : Nat) k, bs[b]? = some k → noBox k = true) →
    Inv (upto w (okAt ok B ρ w)) w.heap.size w1 ρr (fun j => bs[j]?) → Rel w1 (okAt (upto w (okAt ok B ρ w)) w.heap.size ρr w1) ρr r val →
    Step ok B w ρ w1 (either ρ (shift (8 * d) ρr)) ((Eff.new (names (8 * d) bs)).hp hp) (Eff.new (names (8 * d) bs)).tr (Eff.new (names (8 * d) bs)).tc ∧ Rel w1 (okAt ok B (either ρ (shift (8 * d) ρr)) w1) (either ρ (shift (8 * d) ρr)) (V.ren (8 * d) r) val := by
   intro r bs w1 ρr val hb hfr hnb hi hr
   have hi2 := hi.shift (8 * d) hnb
   rw [← names_lookup] at hi2
   have hap : ∀ b k, (names (8 * d) bs).lookup b = some k → hp b = none := by
    intro b k hk
    unfold fresh at hfr
    rw [List.all_eq_true] at hfr
    have hmem : (b, k) ∈ names (8 * d) bs := by
     have : ∀ l : List (Nat × Blk), l.lookup b = some k → (b, k) ∈ l := by
      intro l
      induction l with
      | nil => intro h; simp at h
      | cons x l ih =>
       intro h
       obtain ⟨x1, x2⟩ := x
       rw [List.lookup_cons] at h
       by_cases hbx : b = x1
       ·subst hbx; simp at h; subst h; simp
       ·have : (b == x1) = false := by simpa using hbx
        rw [this] at h
        exact List.mem_cons_of_mem _ (ih h)
     exact this _ hk
    have := hfr _ hmem
    simp only [Bool.and_eq_true] at this
    simpa using this.1
   have hj := hI.join hb.size (fun g hg => hb.block g hg) hi2 hap
   refine ⟨⟨hb.mono hI.size, hj.1, hj.2.1, fun g hg _ => hb.block g hg, (fun b sv g hs ho => by
    unfold either at hs
    split at hs
    ·rename_i hr1; simp at hs; subst hs; exact .inr ⟨b, _, hr1, ho⟩
    ·exact .inl (hi2.own_ge hs ho).1), (fun b hb' => by
    unfold either
    cases hr1 : ρ b with
    | some s => rfl
    | none =>
     cases hr2 : shift (8 * d) ρr b with
     | none => rfl
     | some s =>
      exfalso
      obtain ⟨k, hk⟩ := hi2.dom b s hr2
      have : (Eff.new (names (8 * d) bs)).tc b = true := by
       simp only [Eff.tc]
       rw [List.any_eq_true]
       have : ∀ l : List (Nat × Blk), l.lookup b = some k → ∃ x ∈ l, (x.1 == b) = true := by
        intro l
        induction l with
        | nil => intro h; simp at h
        | cons x l ih =>
         intro h
         obtain ⟨x1, x2⟩ := x
         rw [List.lookup_cons] at h
         by_cases hbx : b = x1
         ·subst hbx; exact ⟨(b, x2), by simp, by simp⟩
         ·have : (b == x1) = false := by simpa using hbx
          rw [this] at h
          obtain ⟨y, hy, hy2⟩ := ih h
          exact ⟨y, List.mem_cons_of_mem _ hy, hy2⟩
       exact this _ hk
      rw [this] at hb'
      cases hb'), hb.size⟩, hj.2.2 _ _ ?_⟩
   have e : okAt (upto w (okAt ok B ρ w)) w.heap.size (shift (8 * d) ρr) w1 = okAt (upto w (okAt ok B ρ w)) w.heap.size ρr w1 := by funext g; exact propext okAt_shift
   rw [e]
   exact hr.ren (8 * d)
  split at h
  ·rename_i hd
   split at h
   ·rename_i r bs hphi
    split at h
    ·rename_i hc
     obtain ⟨rfl, rfl⟩ := some_pair h
     simp only [Bool.and_eq_true] at hc
     obtain ⟨hcal, hs⟩ := hΦ g _ r bs hphi
     intro K Q hK
     unfold Oper.wp
     rw [run hcal]
     refine (hs w (okAt ok B ρ w) _ hJ (fun g hg => okAt_lt hI.size hg) hlen fun j c u hcj huj => (hall j c u hcj huj).toD (dataL_iff.1 hd c (List.mem_of_getElem? hcj))).mono ?_
     rintro e w1 ⟨val, ρr, rfl, hb, hi, hr⟩
     obtain ⟨hst, hrel⟩ := take r bs w1 ρr val hb hc.1 (fun b k hk => List.all_eq_true.1 hc.2 k (List.mem_of_getElem? hk)) hi hr
     exact hK w1 _ val hst hrel
    ·cases h
   ·cases h
  ·split at h
   ·rename_i as has
    split at h
    ·rename_i r bs hphi
     split at h
     ·rename_i hc
      obtain ⟨rfl, rfl⟩ := some_pair h
      simp only [Bool.and_eq_true] at hc
      obtain ⟨hcal, hs⟩ := hΦ g _ r bs hphi
      obtain ⟨hl2, hg2⟩ := mapM_get has
      intro K Q hK
      unfold Oper.wp
      rw [run hcal]
      refine (hs w (fun g => g < w.heap.size) _ hJ (fun g hg => hg) (by omega) fun j c u hcj huj => ?_).mono ?_
      ·obtain ⟨c0, hc0, hc1⟩ := hg2 j c hcj
       exact ro_rel hI (.all hI) (hall j c0 u hc0 huj) hc1
      ·rintro e w1 ⟨val, ρr, rfl, hb, hi, hr⟩
       have hpl : ∀ (b : Nat) k, bs[b]? = some k → Blk.plain k = true := fun b k hk => List.all_eq_true.1 hc.2 k (List.mem_of_getElem? hk)
       obtain ⟨hst, hrel⟩ := take r bs w1 ρr val hb hc.1.1 (fun b k hk => by have := hpl b k hk; cases k <;> simp_all [Blk.plain, noBox]) (hi.plain (fun g hg hlt => by omega) hpl) (hr.plain hc.1.2)
       exact hK w1 _ val hst hrel
     ·cases h
    ·cases h
   ·cases h
 ·cases h
theorem os_lendV (hΛ : LamAll P J X) (hJ : ∀ w', Below B w w' → J w') (hI : Inv ok B w ρ hp) {f : Operand} {args : List Operand} {tys : Array TypeId}
  (hE : ∀ x, Rel w (okAt ok B ρ w) ρ (opd env x) (a.eval x)) (ho : o.op = .call ⟨.value f, args.toArray, tys⟩) {g : FuncId} {cs : List V} {L : TypeId → Nat → List V → List V → Option (List V)} (hq : opd env f = .fn g cs) (hL : X.Λ g = some (false, L))
  (h : lendV L hp (args.map (opd env)) cs = some (v, eff)) : OpOk P ok B w ρ hp a o v eff := by
 have hf := hE f
 rw [hq] at hf
 obtain ⟨vs, hfe, hlv, hrv⟩ := hf.fn_inv
 have run : Callable P g → (execOp a.eval o).run P w = .ok (.enter g (args.map a.eval ++ vs).toArray) w := by
  rintro ⟨fn, h1, h2, h3⟩
  simp only [beq_eq_false_iff_ne, ne_eq] at h2
  have h3' : fn.body ≠ none := by intro e; simp [e] at h3
  simp [execOp, ho, resolve, hfe, Deferred.ofValue, invoke, callFunc, h1, h2, h3']
 unfold lendV at h
 cases args with
 | nil => simp at h
 | cons x0 rest =>
  rw [List.map_cons] at h
  split at h <;> first | (cases h; done) | skip
  rename_i b rest0 hxb
  simp only [List.cons.injEq] at hxb
  obtain ⟨hxb, rfl⟩ := hxb
  split at h <;> first | (cases h; done) | skip
  rename_i T sz es hb
  split at h <;> first | (cases h; done) | skip
  rename_i as has
  split at h <;> first | (cases h; done) | skip
  rename_i es' hes
  split at h <;> first | (cases h; done) | skip
  rename_i hpl
  obtain ⟨rfl, rfl⟩ := some_pair h
  have h0 := hE x0
  rw [hxb] at h0
  have hrb := h0.vec_inv
  have hone : (a.eval x0).oneCell' = true := by
   cases h0 with
   | ro h => cases h
   | vec _ _ _ h1 => exact h1
  generalize hsv : a.eval x0 = sv at hrb hone
  obtain ⟨sv', hsv', hpos, hown⟩ := hI.blk b _ hb
  rw [hrb] at hsv'
  simp at hsv'
  subst hsv'
  obtain ⟨hcal, hl⟩ : LendAt P J g T sz es as es' := hΛ.lent g (false, L) T sz es as es' hL hes
  have hQ : RoQ (fun g => g < w.heap.size ∧ own sv ≠ some g) (okAt ok B ρ w) ρ hp (fun k => if k = b then none else hp k) := by
   refine ⟨fun g hg => ⟨okAt_lt hI.size hg, fun hown => ?_⟩, fun k bk hk => (by split at hk <;> first | cases hk | exact hk), fun k bk s g hk hr hown => ⟨(hI.own_ge hr hown).2, fun hown' => ?_⟩⟩
   ·exact hg.2.2 b sv hrb hown
   ·have := hI.inj k b s sv g hr hrb hown hown'
    subst this
    simp at hk
  obtain ⟨hl2, hg2⟩ := mapM_get has
  have hall : ∀ (j : Nat) c u, (rest.map (opd env) ++ cs)[j]? = some c → (rest.map a.eval ++ vs)[j]? = some u → Rel w (okAt ok B ρ w) ρ c u := by
   intro j c u hc hu
   by_cases hj : j < rest.length
   ·rw [List.getElem?_append_left (by simpa using hj), List.getElem?_map] at hc hu
    rw [List.getElem?_eq_getElem hj] at hc hu
    simp at hc hu
    subst hc; subst hu
    exact hE _
   ·rw [List.getElem?_append_right (by simpa using hj)] at hc hu
    simp at hc hu
    exact hrv _ c u hc hu
  have hlen : (rest.map (opd env) ++ cs).length = (rest.map a.eval ++ vs).length := by simp [hlv]
  intro K Q hK
  unfold Oper.wp
  rw [run hcal, List.map_cons, hsv, List.cons_append]
  refine (hl w B (fun g => g < w.heap.size ∧ own sv ≠ some g) sv (rest.map a.eval ++ vs) hJ hI.size (fun g hg => hg) hone hpos (hown.mono (fun g hg => ⟨hQ.ok g hg, rfl⟩) fun _ _ => rfl) (by omega) fun j c u hcj huj => ?_).mono ?_
  ·obtain ⟨c0, hc0, hc1⟩ := hg2 j c hcj
   exact ro_rel hI hQ (hall j c0 u hc0 huj) hc1
  ·rintro e w1 ⟨rfl, hbel, hkeep, hsz, hown1⟩
   have hch := hI.change (w' := w1) b (.vec b) (some (sv, .vec T sz es')) hsz (fun g hg hno => hkeep g hg (hno sv hrb)) (fun s k hn => by
    simp at hn
    obtain ⟨rfl, rfl⟩ := hn
    exact ⟨fun g hg => .inr ⟨sv, hrb, hg⟩, hpos, hown1.mono (fun g hg => hg.elim) fun _ _ => rfl⟩) (fun s hs h1 => by
    rw [hrb] at hs
    simp at hs
    subst hs
    exact .vec b sv (by simp [upd]) h1)
   have hupd : upd ρ b (some sv) = ρ := by funext k; unfold upd; split <;> simp_all
   refine hK w1 (upd ρ b (some sv)) (.tuple #[]) ⟨hbel, hch.1, hch.2, fun g hg hno => hkeep g hg (hno b sv hrb), (fun b' s g hs ho => by rw [hupd] at hs; exact .inr ⟨b', s, hs, ho⟩), fun _ _ => by rw [hupd], hsz⟩ ?_
   exact .tup [] [] rfl (by simp)
theorem tk_rel (hI : Inv ok B w ρ hp) {Q : Nat → Prop} {hp' : Hp} (hq : RoQ Q (okAt ok B ρ w) ρ hp hp') {v v' : V} {val : Value} (hx : Rel w (okAt ok B ρ w) ρ v val) (h : tk1 hp' v = some v') : Rel2 w Q (okAt ok B ρ w) v' val := by
 by_cases hv : ∃ b, v = .vec b
 ·obtain ⟨b, rfl⟩ := hv
  unfold tk1 at h
  split at h
  ·rename_i b0 hb0
   cases hb0
   split at h
   ·rename_i T sz es hb
    simp only [Option.some.injEq] at h
    subst h
    have hrb := hx.vec_inv
    have hb1 := hq.sub b _ hb
    have hel : elemsV hp (.vec b) = some (sz, es) := by simp only [elemsV, hb1]
    rcases elems_rel hI hx hel with ⟨ad, cap, hxe, he⟩ | ⟨g, o0, cap, vs, hxe, hl, hsz, h1, hrr, hcell⟩
    ·exact .inl ⟨ad, cap, hxe, he⟩
    ·by_cases hn : es = []
     ·subst hn; exact .inl ⟨_, cap, hxe, rfl⟩
     ·refine .inr ⟨g, o0, cap, vs, hxe, ?_, hl, hsz, h1, hrr, hcell⟩
      obtain ⟨sv, hsv, _, hown⟩ := hI.blk b _ hb1
      rw [hrb] at hsv
      simp at hsv
      subst hsv
      rcases hown.form with ⟨ad, he, hz⟩ | ⟨g0, cap0, vs0, he, hc0, _⟩
      ·exact absurd hz hn
      ·rw [hxe] at he
       simp only [Value.slice.injEq, Option.some.injEq, Addr.mk.injEq] at he
       refine hq.own b _ _ g hb hrb ?_
       rw [hxe]
       simp only [own]
       rw [if_neg (by rw [he.2.2]; exact hc0)]
   ·cases h
  ·rename_i hne
   cases hne
  ·rename_i hne _
   exact absurd rfl (hne b)
 by_cases hv2 : ∃ b sz lo k, v = .sub b sz lo k
 ·obtain ⟨b, sz0, lo, k, rfl⟩ := hv2
  simp only [tk1, partR, Option.map_eq_some_iff] at h
  obtain ⟨⟨T, es0⟩, hs, rfl⟩ := h
  have hs' : subE hp b sz0 (lo + k) = some (T, es0) := by
   unfold subE at hs ⊢
   cases hb : hp' b with
   | none => simp [hb] at hs
   | some kb => rw [hb] at hs; rw [hq.sub b kb hb]; exact hs
  obtain ⟨hb, hpos, g, cap, c, ad, vs, hg, hc0, rfl, hle, hkc, hcm, ha, hl, hsz, h1, hrr, how⟩ := sub_form hI hx hs'
  by_cases hk : k = 0
  ·subst hk; exact .inl ⟨ad, c, rfl, by simp⟩
  ·have had := ha.resolve_left (by omega)
   subst had
   have hlen : ((es0.drop lo).take k).length = k := by rw [List.length_take, List.length_drop]; omega
   obtain ⟨kb, hbk⟩ : ∃ kb, hp' b = some kb := by
    unfold subE at hs
    cases hb' : hp' b with
    | none => simp [hb'] at hs
    | some kb => exact ⟨kb, rfl⟩
   refine .inr ⟨g, lo * sz0, c, (vs.drop lo).take k, by rw [hlen], hq.own b kb _ g hbk hg (by simp [own, hc0]), by rw [List.length_take, List.length_drop, hlen]; omega, fun v hv => hsz v (List.mem_of_mem_drop (List.mem_of_mem_take hv)), fun v hv => h1 v (List.mem_of_mem_drop (List.mem_of_mem_take hv)), fun i e v he hv => hrr (lo + i) e v (part_get he).2 (part_get hv).2, fun j u hu => ?_⟩
   have := how.cells (g := g) rfl (lo * sz0 + j) u (flat_part hsz hu)
   rwa [Addr.add_mid, Nat.zero_add] at this
 ·have hd : V.data v = true ∧ v' = v := by
   unfold tk1 at h
   split at h
   ·exact absurd ⟨_, rfl⟩ hv
   ·exact absurd ⟨_, _, _, _, rfl⟩ hv2
   ·split at h
    ·rename_i hd; simp only [Option.some.injEq] at h; exact ⟨hd, h.symm⟩
    ·cases h
  obtain ⟨hd, rfl⟩ := hd
  have hr := hx.toD hd
  unfold Rel2
  split
  ·rename_i sz0 es0
   cases hr with
   | nil => exact .inl ⟨_, 0, rfl, rfl⟩
   | row _ _ g o cap vs hok hcap hmax hl hsz h1 hc h =>
    have hel : elemsV hp (.row sz0 es0) = some (sz0, es0) := rfl
    rcases elems_rel hI hx hel with ⟨ad, cap, hxe, he⟩ | ⟨g', o0, cap', vs', hxe, hl, hsz, h1, hrr, hcell⟩
    ·exact .inl ⟨ad, cap, hxe, he⟩
    ·simp only [Value.slice.injEq, Option.some.injEq, Addr.mk.injEq] at hxe
     obtain ⟨⟨rfl, rfl, _⟩, _, rfl⟩ := hxe
     exact .inr ⟨_, _, _, vs', rfl, hq.ok _ hok, hl, hsz, h1, hrr, hcell⟩
  ·exact hr
theorem os_takeV (hΛ : LamAll P J X) (hJ : ∀ w', Below B w w' → J w') (hI : Inv ok B w ρ hp) {f : Operand} {args : List Operand} {tys : Array TypeId}
  (hE : ∀ x, Rel w (okAt ok B ρ w) ρ (opd env x) (a.eval x)) (ho : o.op = .call ⟨.value f, args.toArray, tys⟩) {g : FuncId} {cs : List V} {L : TypeId → Nat → List V → List V → Option (List V)} (hq : opd env f = .fn g cs) (hL : X.Λ g = some (true, L))
  (h : takeV L hp (args.map (opd env)) cs = some (v, eff)) : OpOk P ok B w ρ hp a o v eff := by
 have hf := hE f
 rw [hq] at hf
 obtain ⟨vs, hfe, hlv, hrv⟩ := hf.fn_inv
 have run : Callable P g → (execOp a.eval o).run P w = .ok (.enter g (args.map a.eval ++ vs).toArray) w := by
  rintro ⟨fn, h1, h2, h3⟩
  simp only [beq_eq_false_iff_ne, ne_eq] at h2
  have h3' : fn.body ≠ none := by intro e; simp [e] at h3
  simp [execOp, ho, resolve, hfe, Deferred.ofValue, invoke, callFunc, h1, h2, h3']
 unfold takeV at h
 cases args with
 | nil => simp at h
 | cons x0 rest =>
  rw [List.map_cons] at h
  split at h <;> first | (cases h; done) | skip
  rename_i b rest0 hxb
  simp only [List.cons.injEq] at hxb
  obtain ⟨hxb, rfl⟩ := hxb
  split at h <;> first | (cases h; done) | skip
  rename_i T sz es hb
  split at h <;> first | (cases h; done) | skip
  rename_i as has
  split at h <;> first | (cases h; done) | skip
  rename_i es' hes
  split at h <;> first | (cases h; done) | skip
  rename_i hpl
  obtain ⟨rfl, rfl⟩ := some_pair h
  have h0 := hE x0
  rw [hxb] at h0
  have hrb := h0.vec_inv
  have hone : (a.eval x0).oneCell' = true := by
   cases h0 with
   | ro h => cases h
   | vec _ _ _ h1 => exact h1
  generalize hsv : a.eval x0 = sv at hrb hone
  obtain ⟨sv', hsv', hpos, hown⟩ := hI.blk b _ hb
  rw [hrb] at hsv'
  simp at hsv'
  subst hsv'
  obtain ⟨hcal, hl⟩ : TakeAt P J g T sz es as es' := hΛ.lent g (true, L) T sz es as es' hL hes
  have hQ : RoQ (fun g => g < w.heap.size ∧ own sv ≠ some g) (okAt ok B ρ w) ρ hp (fun k => if k = b then none else hp k) := by
   refine ⟨fun g hg => ⟨okAt_lt hI.size hg, fun hown => ?_⟩, fun k bk hk => (by split at hk <;> first | cases hk | exact hk), fun k bk s g hk hr hown => ⟨(hI.own_ge hr hown).2, fun hown' => ?_⟩⟩
   ·exact hg.2.2 b sv hrb hown
   ·have := hI.inj k b s sv g hr hrb hown hown'
    subst this
    simp at hk
  obtain ⟨hl2, hg2⟩ := mapM_get has
  have hall : ∀ (j : Nat) c u, (rest.map (opd env) ++ cs)[j]? = some c → (rest.map a.eval ++ vs)[j]? = some u → Rel w (okAt ok B ρ w) ρ c u := by
   intro j c u hc hu
   by_cases hj : j < rest.length
   ·rw [List.getElem?_append_left (by simpa using hj), List.getElem?_map] at hc hu
    rw [List.getElem?_eq_getElem hj] at hc hu
    simp at hc hu
    subst hc; subst hu
    exact hE _
   ·rw [List.getElem?_append_right (by simpa using hj)] at hc hu
    simp at hc hu
    exact hrv _ c u hc hu
  have hlen : (rest.map (opd env) ++ cs).length = (rest.map a.eval ++ vs).length := by simp [hlv]
  intro K Q hK
  unfold Oper.wp
  rw [run hcal, List.map_cons, hsv, List.cons_append]
  refine (hl w B (fun g => g < w.heap.size ∧ own sv ≠ some g) (okAt ok B ρ w) sv (rest.map a.eval ++ vs) hJ hI.size (fun g hg => hg) hQ.ok hone hpos hown (by omega) fun j c u hcj huj => ?_).mono ?_
  ·obtain ⟨c0, hc0, hc1⟩ := hg2 j c hcj
   exact tk_rel hI hQ (hall j c0 u hc0 huj) hc1
  ·rintro e w1 ⟨v', rfl, hbel, hkeep, hsz, hownn, hone', hown1⟩
   have hkeep' : ∀ k, k < w.heap.size → (∀ s, ρ b = some s → own s ≠ some k) → w1.heap[k]? = w.heap[k]? := fun k hk hne => hkeep k hk (hne _ hrb)
   have hokk : ∀ k, okAt ok B ρ w k → okAt ok B (upd ρ b (some v')) w1 k ∧ w1.heap[k]? = w1.heap[k]? := by
    intro k hk
    refine ⟨?_, rfl⟩
    obtain ⟨hok, hlt, hno⟩ := hk
    refine ⟨hok, by omega, fun b' s hr' ho' => ?_⟩
    unfold upd at hr'
    split at hr'
    ·simp at hr'
     subst hr'
     rcases hownn k ho' with hq | hq
     ·omega
     ·exact hno b _ hrb hq
    ·exact hno b' s hr' ho'
   have hch := hI.change (w' := w1) b .undef (some (v', .vec T sz es')) hsz hkeep' (fun s k hn => by
    simp at hn
    obtain ⟨rfl, rfl⟩ := hn
    exact ⟨fun g hg => (hownn g hg).imp id fun hq => ⟨_, hrb, hq⟩, hpos, hown1.mono hokk fun _ _ => rfl⟩) (fun _ _ _ => .ro (.undef _))
   refine hK w1 (upd ρ b (some v')) v' ⟨hbel, hch.1, hch.2, fun g hg hno => hkeep' g hg fun s hr => hno b s hr, (fun b' s g hs ho => by
    unfold upd at hs
    split at hs
    ·simp at hs
     subst hs
     rcases hownn g ho with hq | hq
     ·exact .inl hq
     ·exact .inr ⟨b, _, hrb, hq⟩
    ·exact .inr ⟨b', s, hs, ho⟩), (fun b' hb' => by
    have hne : ¬ b' = b := by intro e; subst e; simp [Eff.tc] at hb'
    unfold upd; rw [if_neg hne]), hsz⟩ (.vec _ _ (by simp [upd]) hone')
theorem nonE_run (hI : Inv ok B w ρ hp) {v : V} {val : Value} {b : Bool} (h : nonE hp v = some b) (hv : Rel w (okAt ok B ρ w) ρ v val) : b = false ∧ ∃ ad n c, val = .slice (some ad) n c := by
 unfold nonE at h
 split at h
 ·rename_i sz es
  split at h
  ·rename_i hl
   have hd := hv.row_inv
   simp only [Option.some.injEq] at h
   refine ⟨h.symm, ?_⟩
   cases hd with
   | nil => simp at hl
   | row _ _ g o cap vs => exact ⟨_, _, _, rfl⟩
  ·cases h
 ·rename_i b'
  split at h
  ·rename_i T sz es hb
   split at h
   ·rename_i hl
    simp only [Option.some.injEq] at h
    refine ⟨h.symm, ?_⟩
    have hr := hv.vec_inv
    obtain ⟨sv, hsv, _, hown⟩ := hI.blk b' _ hb
    rw [hr] at hsv
    simp at hsv
    subst hsv
    rcases hown.form with ⟨ad, _, he⟩ | ⟨g, cap, vs, he, _⟩
    ·rw [he] at hl; simp at hl
    ·exact ⟨_, _, _, he⟩
   ·cases h
  ·cases h
 ·simp only [Option.some.injEq] at h
  refine ⟨h.symm, ?_⟩
  cases hv with | ro hd => cases hd; exact ⟨_, _, _, rfl⟩
 ·cases h
theorem equalIn_nil1 (n : Nat) {T e : TypeId} (hu : P.underlying T = some (.slice e)) (b : Option Addr) (m c : Nat) : (Op.equalIn (n + 1) T (.slice none 0 0) (.slice b m c)).run P w = .ok b.isNone w := by
 simp [Op.equalIn, run_underlying hu]
theorem equalIn_nil2 (n : Nat) {T e : TypeId} (hu : P.underlying T = some (.slice e)) (b : Addr) (m c : Nat) : (Op.equalIn (n + 1) T (.slice (some b) m c) (.slice none 0 0)).run P w = .ok false w := by
 simp [Op.equalIn, run_underlying hu]
theorem nil_run (hT : TOk P X.T) (hI : Inv ok B w ρ hp) {T : TypeId} {x y : V} {vx vy : Value} {b : Bool} (h : nilEq X hp T x y = some b) (hx : Rel w (okAt ok B ρ w) ρ x vx) (hy : Rel w (okAt ok B ρ w) ρ y vy) :
  ∃ ad n c ad' n' c', vx = .slice ad n c ∧ vy = .slice ad' n' c' ∧ (Op.equalIn 10000 T (.slice ad n c) (.slice ad' n' c')).run P w = .ok b w := by
 unfold nilEq at h
 split at h
 ·rename_i e s1 b1 z1 hTT
  obtain ⟨I, d0, z, hf⟩ := hT _ _ hTT
  have htk := hf.tk
  cases d0 <;> first | (simp [tkOk] at htk; done) | skip
  split at h
  ·obtain ⟨ax, rfl⟩ : ∃ u : Unit, vx = .slice none 0 0 := by
    cases hx with | ro hx => cases hx; exact ⟨(), rfl⟩
   split at h
   ·obtain ⟨ay, rfl⟩ : ∃ u : Unit, vy = .slice none 0 0 := by
     cases hy with | ro hy => cases hy; exact ⟨(), rfl⟩
    simp only [Option.some.injEq] at h
    subst h
    exact ⟨_, _, _, _, _, _, rfl, rfl, equalIn_nil1 9999 hf.under none 0 0⟩
   ·obtain ⟨rfl, ad, n, c, rfl⟩ := nonE_run hI h hy
    exact ⟨_, _, _, _, _, _, rfl, rfl, equalIn_nil1 9999 hf.under (some ad) n c⟩
  ·split at h
   ·obtain ⟨ay, rfl⟩ : ∃ u : Unit, vy = .slice none 0 0 := by
     cases hy with | ro hy => cases hy; exact ⟨(), rfl⟩
    obtain ⟨rfl, ad, n, c, rfl⟩ := nonE_run hI h hx
    exact ⟨_, _, _, _, _, _, rfl, rfl, equalIn_nil2 9999 hf.under ad n c⟩
   ·cases h
 ·cases h
theorem os_makeInterface (hT : TOk P X.T) (hI : Inv ok B w ρ hp) (hE : ∀ x, Rel w (okAt ok B ρ w) ρ (opd env x) (a.eval x)) {T : TypeId} {x : Operand} (ho : o.op = .makeInterface T x) (h : evalOp X env hp d (.makeInterface T x) = some (v, eff)) : OpOk P ok B w ρ hp a o v eff := by
 simp only [evalOp] at h
 have key : ∀ {i : TI}, X.T T = some i → (∃ e, i.k = .slice e) ∨ (∃ fs, i.k = .struct fs) → (execOp a.eval o).run P w = .ok (.value (.iface T (a.eval x))) w := by
  intro i hi hk
  obtain ⟨I, D, z, hf⟩ := hT T _ hi
  have htk := hf.tk
  rcases hk with ⟨e, hk⟩ | ⟨fs, hk⟩
  ·rw [hk] at htk
   unfold tkOk at htk
   cases D <;> simp at htk
   simp [execOp, ho, Instr.makeInterface, run_underlying hf.under, Result.andThen]
  ·rw [hk] at htk
   unfold tkOk at htk
   cases D <;> simp at htk
   simp [execOp, ho, Instr.makeInterface, run_underlying hf.under, Result.andThen]
 split at h
 ·rename_i e s1 b1 z1 hi
  obtain ⟨rfl, rfl⟩ := some_pair h
  exact .value hI _ (key hi (.inl ⟨e, rfl⟩)) (.ifc T _ _ (hE x))
 ·rename_i fs s1 b1 z1 hi
  obtain ⟨rfl, rfl⟩ := some_pair h
  exact .value hI _ (key hi (.inr ⟨fs, rfl⟩)) (.ifc T _ _ (hE x))
 ·cases h
/-! ### Blocks that are lent -/
theorem loneL_iff {cs : List V} : V.loneL cs = true ↔ ∀ c ∈ cs, V.lone c = true := by
 induction cs with
 | nil => simp [V.loneL]
 | cons c cs ih => simp [V.loneL, ih]
theorem RelD.lone {w w' : World} {ok ok' : Nat → Prop} {v : V} {val : Value} (h : RelD w ok v val) (hp : V.lone v = true) : RelD w' ok' v val := by
 induction h with
 | int => exact .int _ _
 | bool => exact .bool _
 | str => exact .str _
 | agg cs vs hl h1 _ ih => rw [V.lone, loneL_iff] at hp; exact .agg cs vs hl h1 fun j c v hc hv => ih j c v hc hv (hp c (List.mem_of_getElem? hc))
 | tup cs vs hl _ ih => rw [V.lone, loneL_iff] at hp; exact .tup cs vs hl fun j c v hc hv => ih j c v hc hv (hp c (List.mem_of_getElem? hc))
 | fn f cs vs hl _ ih => rw [V.lone, loneL_iff] at hp; exact .fn f cs vs hl fun j c v hc hv => ih j c v hc hv (hp c (List.mem_of_getElem? hc))
 | zero => exact .zero
 | undef => exact .undef _
 | raw => exact .raw _
 | ifc t v val _ ih => rw [V.lone] at hp; exact .ifc t v val (ih hp)
 | _ => simp [V.lone] at hp
theorem Rel.lone {w w' : World} {ok ok' : Nat → Prop} {ρ ρ' : Nat → Option Value} {v : V} {val : Value} (h : Rel w ok ρ v val) (hp : V.lone v = true) (hr : ∀ b sv, 1000000 ≤ b → ρ b = some sv → ρ' b = some sv) : Rel w' ok' ρ' v val := by
 induction h with
 | ro h => exact .ro (h.lone hp)
 | ptr b off g h => simp only [V.lone, decide_eq_true_eq] at hp; exact .ptr b off g (hr _ _ hp h)
 | eptr b sz i off g n cap h => simp only [V.lone, decide_eq_true_eq] at hp; exact .eptr b sz i off g n cap (hr _ _ hp h)
 | vec b sv h h1 => simp only [V.lone, decide_eq_true_eq] at hp; exact .vec b sv (hr _ _ hp h) h1
 | sub b sz lo k g n cap c ad h hx => simp only [V.lone, decide_eq_true_eq] at hp; exact .sub b sz lo k g n cap c ad (hr _ _ hp h) hx
 | agg cs vs hl h1 _ ih => rw [V.lone, loneL_iff] at hp; exact .agg cs vs hl h1 fun j c v hc hv => ih j c v hc hv (hp c (List.mem_of_getElem? hc))
 | tup cs vs hl _ ih => rw [V.lone, loneL_iff] at hp; exact .tup cs vs hl fun j c v hc hv => ih j c v hc hv (hp c (List.mem_of_getElem? hc))
 | fn f cs vs hl _ ih => rw [V.lone, loneL_iff] at hp; exact .fn f cs vs hl fun j c v hc hv => ih j c v hc hv (hp c (List.mem_of_getElem? hc))
 | ifc t v val _ ih => rw [V.lone] at hp; exact .ifc t v val (ih hp)
theorem mvL_get {ns : List Nat} : ∀ {cs cs' : List V}, V.mvL ns cs = some cs' → cs'.length = cs.length ∧ ∀ (j : Nat) c', cs'[j]? = some c' → ∃ c, cs[j]? = some c ∧ V.mv ns c = some c'
 | [], cs', h => by simp [V.mvL] at h; subst h; simp
 | c :: cs, cs', h => by
  unfold V.mvL at h
  split at h
  ·rename_i c1 h1
   split at h
   ·rename_i cs1 h2
    simp at h
    subst h
    obtain ⟨l, g⟩ := mvL_get h2
    refine ⟨by simp [l], fun j c' hc => ?_⟩
    cases j with
    | zero => simp at hc; subst hc; exact ⟨c, rfl, h1⟩
    | succ j => exact g j c' (by simpa using hc)
   ·cases h
  ·cases h
theorem bkL_get {ns : List Nat} : ∀ {cs cs' : List V}, V.bkL ns cs = some cs' → cs'.length = cs.length ∧ ∀ (j : Nat) c', cs'[j]? = some c' → ∃ c, cs[j]? = some c ∧ V.bk ns c = some c'
 | [], cs', h => by simp [V.bkL] at h; subst h; simp
 | c :: cs, cs', h => by
  unfold V.bkL at h
  split at h
  ·rename_i c1 h1
   split at h
   ·rename_i cs1 h2
    simp at h
    subst h
    obtain ⟨l, g⟩ := bkL_get h2
    refine ⟨by simp [l], fun j c' hc => ?_⟩
    cases j with
    | zero => simp at hc; subst hc; exact ⟨c, rfl, h1⟩
    | succ j => exact g j c' (by simpa using hc)
   ·cases h
  ·cases h
theorem posN_spec {b : Nat} : ∀ {ns : List Nat} {k m : Nat}, posN b ns k = some m → k ≤ m ∧ ns[m - k]? = some b
 | [], k, m, h => by simp [posN] at h
 | x :: l, k, m, h => by
  unfold posN at h
  split at h
  ·rename_i hx; simp at h; subst h; subst hx; simp
  ·obtain ⟨h1, h2⟩ := posN_spec h
   exact ⟨by omega, by rw [show m - k = (m - (k + 1)) + 1 by omega]; simpa using h2⟩
theorem posN_none {b : Nat} : ∀ {ns : List Nat} {k : Nat}, posN b ns k = none → b ∉ ns
 | [], k, _ => by simp
 | x :: l, k, h => by
  unfold posN at h
  split at h
  ·cases h
  ·rename_i hx
   have := posN_none h
   simp only [List.mem_cons, not_or]
   exact ⟨fun e => hx e.symm, this⟩
theorem noDup_spec : ∀ {ns : List Nat}, noDup ns = true → ns.Nodup
 | [], _ => List.nodup_nil
 | x :: l, h => by
  simp only [noDup, Bool.and_eq_true, Option.isNone_iff_eq_none] at h
  exact List.nodup_cons.2 ⟨posN_none h.1, noDup_spec h.2⟩
def lentρ (ns : List Nat) (ρ : Nat → Option Value) : Nat → Option Value := fun j => (ns[j]?).bind ρ
theorem pos_ρ {ns : List Nat} {ρ : Nat → Option Value} {b m : Nat} {sv : Value} (h : posN b ns 1000000 = some m) (hr : ρ b = some sv) : shift 1000000 (lentρ ns ρ) m = some sv := by
 obtain ⟨h1, h2⟩ := posN_spec h
 simp [shift, h1, lentρ, h2, hr]
theorem back_ρ {ns : List Nat} {ρ : Nat → Option Value} {b m : Nat} {sv : Value} (h : backN ns b = some m) (hr : shift 1000000 (lentρ ns ρ) b = some sv) : ρ m = some sv := by
 unfold backN at h
 unfold shift lentρ at hr
 split at h
 ·rename_i h1
  rw [if_pos h1, h] at hr
  simpa using hr
 ·cases h
theorem nmN_some {x : Option Nat} {f : Nat → V} {v : V} (h : nmN x f = some v) : ∃ b, x = some b ∧ v = f b := by
 unfold nmN at h
 split at h
 ·simp at h; exact ⟨_, rfl, h.symm⟩
 ·cases h
theorem RelD.mv {w w' : World} {ok ok' : Nat → Prop} {ns : List Nat} {v : V} {val : Value} (h : RelD w ok v val) (hk : ∀ g, ok g → ok' g ∧ w'.heap[g]? = w.heap[g]?) : ∀ {v' : V}, V.mv ns v = some v' → RelD w' ok' v' val := by
 induction h with
 | int => intro v' h; simp [V.mv] at h; subst h; exact .int _ _
 | bool => intro v' h; simp [V.mv] at h; subst h; exact .bool _
 | str => intro v' h; simp [V.mv] at h; subst h; exact .str _
 | zero => intro v' h; simp [V.mv] at h; subst h; exact .zero
 | undef => intro v' h; simp [V.mv] at h; subst h; exact .undef _
 | raw => intro v' h; simp [V.mv] at h; subst h; exact .raw _
 | agg cs vs hl h1 _ ih =>
  intro v' h
  unfold V.mv at h
  split at h
  ·rename_i cs' h2
   simp at h
   subst h
   obtain ⟨l, g⟩ := mvL_get h2
   exact .agg cs' vs (by omega) h1 fun j c v hc hv => by obtain ⟨c0, h3, h4⟩ := g j c hc; exact ih j c0 v h3 hv h4
  ·cases h
 | tup cs vs hl _ ih =>
  intro v' h
  unfold V.mv at h
  split at h
  ·rename_i cs' h2
   simp at h
   subst h
   obtain ⟨l, g⟩ := mvL_get h2
   exact .tup cs' vs (by omega) fun j c v hc hv => by obtain ⟨c0, h3, h4⟩ := g j c hc; exact ih j c0 v h3 hv h4
  ·cases h
 | fn f cs vs hl _ ih =>
  intro v' h
  unfold V.mv at h
  split at h
  ·rename_i cs' h2
   simp at h
   subst h
   obtain ⟨l, g⟩ := mvL_get h2
   exact .fn f cs' vs (by omega) fun j c v hc hv => by obtain ⟨c0, h3, h4⟩ := g j c hc; exact ih j c0 v h3 hv h4
  ·cases h
 | ifc t v val _ ih =>
  intro v' h
  unfold V.mv at h
  split at h
  ·rename_i v1 h2
   simp at h
   subst h
   exact .ifc t v1 val (ih h2)
  ·cases h
 | nil => intro v' h; simp [V.mv] at h; subst h; exact .nil _ _
 | row sz es g o cap vs hok hcap hmax hl hsz h1 hc hr _ => intro v' h; simp [V.mv] at h; subst h; exact (RelD.row sz es g o cap vs hok hcap hmax hl hsz h1 hc hr).mono hk
 | rd v off val g o hok h1 hc hr _ => intro v' h; simp [V.mv] at h; subst h; exact (RelD.rd v off val g o hok h1 hc hr).mono hk
theorem Rel.mv {w w' : World} {ok ok' : Nat → Prop} {ρ : Nat → Option Value} {ns : List Nat} {v : V} {val : Value} (h : Rel w ok ρ v val) (hk : ∀ g, ok g → ok' g ∧ w'.heap[g]? = w.heap[g]?) : ∀ {v' : V}, V.mv ns v = some v' → Rel w' ok' (shift 1000000 (lentρ ns ρ)) v' val := by
 induction h with
 | ro h => intro v' h'; exact .ro (h.mv hk h')
 | ptr b off g h => intro v' h'; simp only [V.mv] at h'; obtain ⟨m, h1, rfl⟩ := nmN_some h'; exact .ptr m off g (pos_ρ h1 h)
 | eptr b sz i off g n cap h => intro v' h'; simp only [V.mv] at h'; obtain ⟨m, h1, rfl⟩ := nmN_some h'; exact .eptr m sz i off g n cap (pos_ρ h1 h)
 | vec b sv h h1 => intro v' h'; simp only [V.mv] at h'; obtain ⟨m, h2, rfl⟩ := nmN_some h'; exact .vec m sv (pos_ρ h2 h) h1
 | sub b sz lo k g n cap c ad h hx => intro v' h'; simp only [V.mv] at h'; obtain ⟨m, h1, rfl⟩ := nmN_some h'; exact .sub m sz lo k g n cap c ad (pos_ρ h1 h) hx
 | agg cs vs hl h1 _ ih =>
  intro v' h
  unfold V.mv at h
  split at h
  ·rename_i cs' h2
   simp at h
   subst h
   obtain ⟨l, g⟩ := mvL_get h2
   exact .agg cs' vs (by omega) h1 fun j c v hc hv => by obtain ⟨c0, h3, h4⟩ := g j c hc; exact ih j c0 v h3 hv h4
  ·cases h
 | tup cs vs hl _ ih =>
  intro v' h
  unfold V.mv at h
  split at h
  ·rename_i cs' h2
   simp at h
   subst h
   obtain ⟨l, g⟩ := mvL_get h2
   exact .tup cs' vs (by omega) fun j c v hc hv => by obtain ⟨c0, h3, h4⟩ := g j c hc; exact ih j c0 v h3 hv h4
  ·cases h
 | fn f cs vs hl _ ih =>
  intro v' h
  unfold V.mv at h
  split at h
  ·rename_i cs' h2
   simp at h
   subst h
   obtain ⟨l, g⟩ := mvL_get h2
   exact .fn f cs' vs (by omega) fun j c v hc hv => by obtain ⟨c0, h3, h4⟩ := g j c hc; exact ih j c0 v h3 hv h4
  ·cases h
 | ifc t v val _ ih =>
  intro v' h
  unfold V.mv at h
  split at h
  ·rename_i v1 h2
   simp at h
   subst h
   exact .ifc t v1 val (ih h2)
  ·cases h
theorem RelD.bk {w w' : World} {ok ok' : Nat → Prop} {ns : List Nat} {v : V} {val : Value} (h : RelD w ok v val) (hk : ∀ g, ok g → ok' g ∧ w'.heap[g]? = w.heap[g]?) : ∀ {v' : V}, V.bk ns v = some v' → RelD w' ok' v' val := by
 induction h with
 | int => intro v' h; simp [V.bk] at h; subst h; exact .int _ _
 | bool => intro v' h; simp [V.bk] at h; subst h; exact .bool _
 | str => intro v' h; simp [V.bk] at h; subst h; exact .str _
 | zero => intro v' h; simp [V.bk] at h; subst h; exact .zero
 | undef => intro v' h; simp [V.bk] at h; subst h; exact .undef _
 | raw => intro v' h; simp [V.bk] at h; subst h; exact .raw _
 | agg cs vs hl h1 _ ih =>
  intro v' h
  unfold V.bk at h
  split at h
  ·rename_i cs' h2
   simp at h
   subst h
   obtain ⟨l, g⟩ := bkL_get h2
   exact .agg cs' vs (by omega) h1 fun j c v hc hv => by obtain ⟨c0, h3, h4⟩ := g j c hc; exact ih j c0 v h3 hv h4
  ·cases h
 | tup cs vs hl _ ih =>
  intro v' h
  unfold V.bk at h
  split at h
  ·rename_i cs' h2
   simp at h
   subst h
   obtain ⟨l, g⟩ := bkL_get h2
   exact .tup cs' vs (by omega) fun j c v hc hv => by obtain ⟨c0, h3, h4⟩ := g j c hc; exact ih j c0 v h3 hv h4
  ·cases h
 | fn f cs vs hl _ ih =>
  intro v' h
  unfold V.bk at h
  split at h
  ·rename_i cs' h2
   simp at h
   subst h
   obtain ⟨l, g⟩ := bkL_get h2
   exact .fn f cs' vs (by omega) fun j c v hc hv => by obtain ⟨c0, h3, h4⟩ := g j c hc; exact ih j c0 v h3 hv h4
  ·cases h
 | ifc t v val _ ih =>
  intro v' h
  unfold V.bk at h
  split at h
  ·rename_i v1 h2
   simp at h
   subst h
   exact .ifc t v1 val (ih h2)
  ·cases h
 | nil => intro v' h; simp [V.bk] at h; subst h; exact .nil _ _
 | row sz es g o cap vs hok hcap hmax hl hsz h1 hc hr _ => intro v' h; simp [V.bk] at h; subst h; exact (RelD.row sz es g o cap vs hok hcap hmax hl hsz h1 hc hr).mono hk
 | rd v off val g o hok h1 hc hr _ => intro v' h; simp [V.bk] at h; subst h; exact (RelD.rd v off val g o hok h1 hc hr).mono hk
theorem Rel.bk {w w' : World} {ok ok' : Nat → Prop} {ρ : Nat → Option Value} {ns : List Nat} {v : V} {val : Value} (h : Rel w ok (shift 1000000 (lentρ ns ρ)) v val) (hk : ∀ g, ok g → ok' g ∧ w'.heap[g]? = w.heap[g]?) : ∀ {v' : V}, V.bk ns v = some v' → Rel w' ok' ρ v' val := by
 induction h with
 | ro h => intro v' h'; exact .ro (h.bk hk h')
 | ptr b off g h => intro v' h'; simp only [V.bk] at h'; obtain ⟨m, h1, rfl⟩ := nmN_some h'; exact .ptr m off g (back_ρ h1 h)
 | eptr b sz i off g n cap h => intro v' h'; simp only [V.bk] at h'; obtain ⟨m, h1, rfl⟩ := nmN_some h'; exact .eptr m sz i off g n cap (back_ρ h1 h)
 | vec b sv h h1 => intro v' h'; simp only [V.bk] at h'; obtain ⟨m, h2, rfl⟩ := nmN_some h'; exact .vec m sv (back_ρ h2 h) h1
 | sub b sz lo k g n cap c ad h hx => intro v' h'; simp only [V.bk] at h'; obtain ⟨m, h1, rfl⟩ := nmN_some h'; exact .sub m sz lo k g n cap c ad (back_ρ h1 h) hx
 | agg cs vs hl h1 _ ih =>
  intro v' h
  unfold V.bk at h
  split at h
  ·rename_i cs' h2
   simp at h
   subst h
   obtain ⟨l, g⟩ := bkL_get h2
   exact .agg cs' vs (by omega) h1 fun j c v hc hv => by obtain ⟨c0, h3, h4⟩ := g j c hc; exact ih j c0 v h3 hv h4
  ·cases h
 | tup cs vs hl _ ih =>
  intro v' h
  unfold V.bk at h
  split at h
  ·rename_i cs' h2
   simp at h
   subst h
   obtain ⟨l, g⟩ := bkL_get h2
   exact .tup cs' vs (by omega) fun j c v hc hv => by obtain ⟨c0, h3, h4⟩ := g j c hc; exact ih j c0 v h3 hv h4
  ·cases h
 | fn f cs vs hl _ ih =>
  intro v' h
  unfold V.bk at h
  split at h
  ·rename_i cs' h2
   simp at h
   subst h
   obtain ⟨l, g⟩ := bkL_get h2
   exact .fn f cs' vs (by omega) fun j c v hc hv => by obtain ⟨c0, h3, h4⟩ := g j c hc; exact ih j c0 v h3 hv h4
  ·cases h
 | ifc t v val _ ih =>
  intro v' h
  unfold V.bk at h
  split at h
  ·rename_i v1 h2
   simp at h
   subst h
   exact .ifc t v1 val (ih h2)
  ·cases h
theorem OwnV.lone {w : World} {ok ok' : Nat → Prop} {B : Nat} {T : TypeId} {sz : Nat} {sv : Value} {es : List V} (h : OwnV w ok B T sz sv es) (hp : (es.all fun v => V.lone v && V.data v) = true) : OwnV w ok' B T sz sv es := by
 obtain ⟨vs, hl, hs, h1, hr, ho⟩ := h
 simp only [List.all_eq_true, Bool.and_eq_true] at hp
 exact ⟨vs, hl, hs, h1, fun i e v he hv => (hr i e v he hv).lone (hp e (List.mem_of_getElem? he)).1, ho⟩
theorem BlkOk.mv {w : World} {ok ok' : Nat → Prop} {ρ : Nat → Option Value} {ns : List Nat} {B : Nat} {sv : Value} {k k' : Blk} (h : BlkOk w ok ρ B sv k) (hok : ∀ g, ok g → ok' g) (hk : Blk.mv ns k = some k') : BlkOk w ok' (shift 1000000 (lentρ ns ρ)) B sv k' := by
 unfold Blk.mv at hk
 split at hk
 ·rename_i v
  split at hk
  ·rename_i v' hv
   simp at hk
   subst hk
   obtain ⟨g, val, rfl, h1, h2, h3, h4, h5, h6⟩ := h
   exact ⟨g, val, rfl, h1, h2, h3, h4, h5, h6.mv (fun g hg => ⟨hok g hg, rfl⟩) hv⟩
  ·cases hk
 ·simp at hk
  subst hk
  exact ⟨h.1, h.2.mono (fun g hg => ⟨hok g hg, rfl⟩) fun _ _ => rfl⟩
 ·simp at hk
  subst hk
  exact h
theorem BlkOk.bk {w : World} {ok ok' : Nat → Prop} {ρ : Nat → Option Value} {ns : List Nat} {B : Nat} {sv : Value} {k k' : Blk} (h : BlkOk w ok (shift 1000000 (lentρ ns ρ)) B sv k) (hok : ∀ g, ok g → ok' g) (hk : Blk.bk ns k = some k') : BlkOk w ok' ρ B sv k' := by
 unfold Blk.bk at hk
 split at hk
 ·rename_i v
  split at hk
  ·rename_i v' hv
   simp at hk
   subst hk
   obtain ⟨g, val, rfl, h1, h2, h3, h4, h5, h6⟩ := h
   exact ⟨g, val, rfl, h1, h2, h3, h4, h5, h6.bk (fun g hg => ⟨hok g hg, rfl⟩) hv⟩
  ·cases hk
 ·simp at hk
  subst hk
  exact ⟨h.1, h.2.mono (fun g hg => ⟨hok g hg, rfl⟩) fun _ _ => rfl⟩
 ·simp at hk
  subst hk
  exact h
theorem mvB_get {ns : List Nat} : ∀ {ks ks' : List Blk}, mvB ns ks = some ks' → ks'.length = ks.length ∧ ∀ (j : Nat) k', ks'[j]? = some k' → ∃ k, ks[j]? = some k ∧ Blk.mv ns k = some k'
 | [], ks', h => by simp [mvB] at h; subst h; simp
 | c :: cs, cs', h => by
  unfold mvB at h
  split at h
  ·rename_i c1 h1
   split at h
   ·rename_i cs1 h2
    simp at h
    subst h
    obtain ⟨l, g⟩ := mvB_get h2
    refine ⟨by simp [l], fun j c' hc => ?_⟩
    cases j with
    | zero => simp at hc; subst hc; exact ⟨c, rfl, h1⟩
    | succ j => exact g j c' (by simpa using hc)
   ·cases h
  ·cases h
theorem bkB_get {ns : List Nat} : ∀ {ks ks' : List Blk}, bkB ns ks = some ks' → ks'.length = ks.length ∧ ∀ (j : Nat) k', ks'[j]? = some k' → ∃ k, ks[j]? = some k ∧ Blk.bk ns k = some k'
 | [], ks', h => by simp [bkB] at h; subst h; simp
 | c :: cs, cs', h => by
  unfold bkB at h
  split at h
  ·rename_i c1 h1
   split at h
   ·rename_i cs1 h2
    simp at h
    subst h
    obtain ⟨l, g⟩ := bkB_get h2
    refine ⟨by simp [l], fun j c' hc => ?_⟩
    cases j with
    | zero => simp at hc; subst hc; exact ⟨c, rfl, h1⟩
    | succ j => exact g j c' (by simpa using hc)
   ·cases h
  ·cases h
theorem getB_get {hp : Hp} : ∀ {ns : List Nat} {ks : List Blk}, getB hp ns = some ks → ks.length = ns.length ∧ ∀ (j : Nat) k, ks[j]? = some k → ∃ b, ns[j]? = some b ∧ hp b = some k
 | [], ks, h => by simp [getB] at h; subst h; simp
 | b :: ns, ks, h => by
  unfold getB at h
  split at h
  ·rename_i k h1
   split at h
   ·rename_i ks1 h2
    simp at h
    subst h
    obtain ⟨l, g⟩ := getB_get h2
    refine ⟨by simp [l], fun j c' hc => ?_⟩
    cases j with
    | zero => simp at hc; subst hc; exact ⟨b, rfl, h1⟩
    | succ j => simpa using g j c' (by simpa using hc)
   ·cases h
  ·cases h
theorem shift_some {α : Type} {n b : Nat} {f : Nat → Option α} {x : α} (h : shift n f b = some x) : n ≤ b ∧ f (b - n) = some x := by
 unfold shift at h
 split at h
 ·rename_i hb; exact ⟨hb, h⟩
 ·cases h
theorem zip_lookup {α : Type} {b : Nat} {x : α} : ∀ {ns : List Nat} {ks : List α}, (ns.zip ks).lookup b = some x → ∃ j : Nat, ns[j]? = some b ∧ ks[j]? = some x
 | [], ks, h => by simp at h
 | n :: ns, [], h => by simp at h
 | n :: ns, k :: ks, h => by
  rw [List.zip_cons_cons, List.lookup_cons] at h
  split at h
  ·rename_i he
   simp at he h
   subst he; subst h
   exact ⟨0, rfl, rfl⟩
  ·obtain ⟨j, h1, h2⟩ := zip_lookup h
   exact ⟨j + 1, by simpa using h1, by simpa using h2⟩
theorem zip_none {α : Type} {b : Nat} : ∀ {ns : List Nat} {ks : List α}, ns.length = ks.length → (ns.zip ks).lookup b = none → b ∉ ns
 | [], ks, _, _ => by simp
 | n :: ns, [], hl, h => by simp at hl
 | n :: ns, k :: ks, hl, h => by
  rw [List.zip_cons_cons, List.lookup_cons] at h
  split at h
  ·cases h
  ·rename_i he
   have hne : ¬ b = n := by simpa using he
   have := zip_none (by simpa using hl) h
   simp only [List.mem_cons, not_or]
   exact ⟨hne, this⟩
theorem lent_sub {ns : List Nat} {ρ : Nat → Option Value} {b : Nat} {sv : Value} (h : shift 1000000 (lentρ ns ρ) b = some sv) : ∃ b0, ns[b - 1000000]? = some b0 ∧ ρ b0 = some sv := by
 obtain ⟨_, h⟩ := shift_some h
 unfold lentρ at h
 cases hj : ns[b - 1000000]? with
 | none => rw [hj] at h; cases h
 | some b0 => rw [hj] at h; exact ⟨b0, rfl, by simpa using h⟩
theorem lent_inv {ok' : Nat → Prop} {ns : List Nat} {ks ks' : List Blk} (hI : Inv ok B w ρ hp) (hok : ∀ g, okAt ok B ρ w g → ok' g) (hnew : ∀ g, w.heap.size ≤ g → ok' g) (hn : ns.Nodup) (hg : getB hp ns = some ks) (hm : mvB ns ks = some ks') : Inv ok' B w (shift 1000000 (lentρ ns ρ)) (shift 1000000 fun j => ks'[j]?) := by
 obtain ⟨l1, g1⟩ := getB_get hg
 obtain ⟨l2, g2⟩ := mvB_get hm
 refine ⟨hI.size, ?_, ?_, ?_, hnew, fun b sv g hr _ => .inl (shift_some hr).1⟩
 ·intro b k' hk
  obtain ⟨hb, hk⟩ := shift_some hk
  obtain ⟨k, h1, h2⟩ := g2 _ _ hk
  obtain ⟨b0, h3, h4⟩ := g1 _ _ h1
  obtain ⟨sv, hr, hblk⟩ := hI.blk b0 k h4
  exact ⟨sv, by simp [shift, hb, lentρ, h3, hr], hblk.mv (fun g hg => ⟨hok g hg, hg.2.1, fun b1 s1 h1 => by obtain ⟨b2, _, h2⟩ := lent_sub h1; exact hg.2.2 b2 s1 h2⟩) h2⟩
 ·intro b sv hr
  obtain ⟨b0, hj, hr0⟩ := lent_sub hr
  have hb := (shift_some hr).1
  have hlt := (List.getElem?_eq_some_iff.1 hj).1
  exact ⟨ks'[b - 1000000]'(by omega), by simp [shift, hb, show b - 1000000 < ks'.length by omega]⟩
 ·intro b b' sv sv' g h1 h2 o1 o2
  have hb := (shift_some h1).1
  have hb' := (shift_some h2).1
  obtain ⟨b0, hj, h1⟩ := lent_sub h1
  obtain ⟨b1, hj', h2⟩ := lent_sub h2
  have := hI.inj b0 b1 sv sv' g h1 h2 o1 o2
  subst this
  obtain ⟨p1, e1⟩ := List.getElem?_eq_some_iff.1 hj
  obtain ⟨p2, e2⟩ := List.getElem?_eq_some_iff.1 hj'
  rcases Nat.lt_trichotomy (b - 1000000) (b' - 1000000) with hlt | he | hgt
  ·exact ((List.pairwise_iff_getElem.1 hn) _ _ p1 p2 hlt (e1.trans e2.symm)).elim
  ·omega
  ·exact ((List.pairwise_iff_getElem.1 hn) _ _ p2 p1 hgt (e2.trans e1.symm)).elim
theorem newN1_len : ∀ (n b : Nat), (newN1 b n).length = n
 | 0, _ => rfl
 | n + 1, b => by simp [newN1, newN1_len n]
theorem newN_len (d n : Nat) : (newN d n).length = n := by cases n <;> simp [newN, newN1_len]
theorem freshN_spec {l : List Nat} (h : freshN hp l = true) {b : Nat} (hb : b ∈ l) : hp b = none ∧ b < 1000000 := by
 unfold freshN at h
 have := List.all_eq_true.1 h b hb
 simpa using this
theorem zip_any {α : Type} {b : Nat} : ∀ {ns : List Nat} {ks : List α}, ns.length = ks.length → b ∈ ns → (ns.zip ks).any (fun p => p.1 == b) = true
 | [], _, _, h => by simp at h
 | n :: ns, [], hl, _ => by simp at hl
 | n :: ns, k :: ks, hl, h => by
  rw [List.zip_cons_cons, List.any_cons]
  rcases List.mem_cons.1 h with h | h
  ·simp [h]
  ·rw [zip_any (by simpa using hl) h]; simp
def nwρ (ns : List Nat) (m : Nat) (ρ1 : Nat → Option Value) (b : Nat) : Option Value := (posN b ns 0).bind fun i => ρ1 (m + i)
theorem nwρ_some {ns : List Nat} {m : Nat} {ρ1 : Nat → Option Value} {b : Nat} {sv : Value} (h : nwρ ns m ρ1 b = some sv) : ∃ i : Nat, ns[i]? = some b ∧ ρ1 (m + i) = some sv := by
 unfold nwρ at h
 cases hp : posN b ns 0 with
 | none => rw [hp] at h; cases h
 | some i =>
  rw [hp] at h
  obtain ⟨_, h2⟩ := posN_spec hp
  exact ⟨i, by simpa using h2, by simpa using h⟩
theorem nwρ_at {ns : List Nat} (hn : ns.Nodup) {m : Nat} {ρ1 : Nat → Option Value} {b i : Nat} (h : ns[i]? = some b) : nwρ ns m ρ1 b = ρ1 (m + i) := by
 unfold nwρ
 cases hp : posN b ns 0 with
 | none => exact absurd (List.mem_of_getElem? h) (posN_none hp)
 | some j =>
  obtain ⟨_, h2⟩ := posN_spec hp
  simp only [Nat.sub_zero] at h2
  obtain ⟨p1, e1⟩ := List.getElem?_eq_some_iff.1 h
  obtain ⟨p2, e2⟩ := List.getElem?_eq_some_iff.1 h2
  rcases Nat.lt_trichotomy i j with hlt | he | hgt
  ·exact ((List.pairwise_iff_getElem.1 hn) _ _ p1 p2 hlt (e1.trans e2.symm)).elim
  ·subst he; rfl
  ·exact ((List.pairwise_iff_getElem.1 hn) _ _ p2 p1 hgt (e2.trans e1.symm)).elim
theorem os_mutV (hΛ : LamAll P J X) (hJ : ∀ w', Below B w w' → J w') (hI : Inv ok B w ρ hp) {f : Operand} {args : List Operand} {tys : Array TypeId}
  (hE : ∀ x, Rel w (okAt ok B ρ w) ρ (opd env x) (a.eval x)) (ho : o.op = .call ⟨.value f, args.toArray, tys⟩) {g : FuncId} {cs : List V} {M : List Blk → List V → Option (V × List Blk)} (hq : opd env f = .fn g cs) (hM : X.M g = some M)
  {ns : List Nat} (h : mutV M hp d ns (args.map (opd env) ++ cs) = some (v, eff)) : OpOk P ok B w ρ hp a o v eff := by
 have hf := hE f
 rw [hq] at hf
 obtain ⟨vs, hfe, hlv, hrv⟩ := hf.fn_inv
 have run : Callable P g → (execOp a.eval o).run P w = .ok (.enter g (args.map a.eval ++ vs).toArray) w := by
  rintro ⟨fn, h1, h2, h3⟩
  simp only [beq_eq_false_iff_ne, ne_eq] at h2
  have h3' : fn.body ≠ none := by intro e; simp [e] at h3
  simp [execOp, ho, resolve, hfe, Deferred.ofValue, invoke, callFunc, h1, h2, h3']
 unfold mutV at h
 split at h <;> first | (cases h; done) | skip
 rename_i ks hks
 split at h <;> first | (cases h; done) | skip
 rename_i ks' as' hks' has
 split at h <;> first | (cases h; done) | skip
 rename_i r ks2 hMr
 generalize hms : newN d (ks2.length - ns.length) = nw at h
 split at h <;> first | (cases h; done) | skip
 rename_i r' ks3 hr' hks3
 split at h <;> first | (cases h; done) | skip
 rename_i hnd
 obtain ⟨rfl, rfl⟩ := some_pair h
 obtain ⟨hnd, hlen2, hfr⟩ := hnd
 have hnwl : nw.length = ks2.length - ns.length := by rw [← hms, newN_len]
 have hn2 := noDup_spec hnd
 have hn : ns.Nodup := (List.nodup_append.1 hn2).1
 have hnw : nw.Nodup := (List.nodup_append.1 hn2).2.1
 have hmut := hΛ.chg g M ks' as' r ks2 hM hMr
 have hI0 := lent_inv (ok' := upto w (okAt ok B ρ w)) hI (fun g hg _ => hg) (fun g h1 h2 => by omega) hn hks hks'
 obtain ⟨l0, g0⟩ := mvL_get has
 obtain ⟨l3, g3⟩ := bkB_get hks3
 obtain ⟨lk, gk⟩ := getB_get hks
 obtain ⟨lm, _⟩ := mvB_get hks'
 have hall : ∀ (j : Nat) c u, (args.map (opd env) ++ cs)[j]? = some c → (args.map a.eval ++ vs)[j]? = some u → Rel w (okAt ok B ρ w) ρ c u := by
  intro j c u hc hu
  by_cases hj : j < args.length
  ·rw [List.getElem?_append_left (by simpa using hj), List.getElem?_map] at hc hu
   rw [List.getElem?_eq_getElem hj] at hc hu
   simp at hc hu
   subst hc; subst hu
   exact hE _
  ·rw [List.getElem?_append_right (by simpa using hj)] at hc hu
   simp at hc hu
   exact hrv _ c u hc hu
 have hlen : (args.map (opd env) ++ cs).length = (args.map a.eval ++ vs).length := by simp [hlv]
 intro K Q hK
 have run2 : ∀ val w1, (callFunc g (args.map a.eval ++ vs).toArray).run P w = .ok (.value val) w1 → (execOp a.eval o).run P w = .ok (.value val) w1 := by
  intro val w1 h1
  rw [← h1]
  simp [execOp, ho, resolve, hfe, Deferred.ofValue, invoke]
 have fin : ∀ val ρ1 w1, Below B w w1 ∧ Kp (shift 1000000 (lentρ ns ρ)) w w1 ∧ (∀ j, j < ks'.length → ρ1 j = lentρ ns ρ j) ∧ (∀ j sv g, ks'.length ≤ j → ρ1 j = some sv → own sv = some g → w.heap.size ≤ g) ∧ Inv (upto w (okAt ok B ρ w)) B w1 (shift 1000000 ρ1) (shift 1000000 fun j => ks2[j]?) ∧ Rel w1 (okAt (upto w (okAt ok B ρ w)) B (shift 1000000 ρ1) w1) (shift 1000000 ρ1) r val → K (a.put o.dst val) w1 := by
  rintro val ρ1 w1 ⟨hbel, hkp, hρ1, hρ2, hI1, hrr⟩
  have hns : ks'.length = ns.length := by omega
  have hnone : ∀ b ∈ nw, ρ b = none := fun b hb => by
   cases hr : ρ b with
   | none => rfl
   | some s => obtain ⟨k, hk⟩ := hI.dom b s hr; rw [(freshN_spec hfr hb).1] at hk; cases hk
  generalize hρ' : either ρ (nwρ nw ns.length ρ1) = ρ'
  have hold : ∀ b s, ρ b = some s → ρ' b = some s := fun b s h => by rw [← hρ']; simp [either, h]
  have hspl : ∀ b s, ρ' b = some s → ρ b = some s ∨ ∃ i : Nat, nw[i]? = some b ∧ ρ1 (ns.length + i) = some s := fun b s h => by
   rw [← hρ'] at h
   unfold either at h
   split at h
   ·rename_i x hx; left; rw [hx]; exact h
   ·exact .inr (nwρ_some h)
  have hge : ∀ b s g, ρ' b = some s → own s = some g → (ρ b = some s) ∨ w.heap.size ≤ g := fun b s g h ho => by
   rcases hspl b s h with h | ⟨i, _, h⟩
   ·exact .inl h
   ·exact .inr (hρ2 _ s g (by omega) h ho)
  have hmap : ∀ b s, shift 1000000 ρ1 b = some s → shift 1000000 (lentρ (ns ++ nw) ρ') b = some s := fun b s h => by
   obtain ⟨hb, h⟩ := shift_some h
   obtain ⟨k, hk⟩ := hI1.dom b s (by simp [shift, hb, h])
   obtain ⟨_, hk⟩ := shift_some hk
   have hlt := (List.getElem?_eq_some_iff.1 hk).1
   simp only [shift, hb, if_true, lentρ]
   by_cases hj : b - 1000000 < ns.length
   ·rw [List.getElem?_append_left hj, List.getElem?_eq_getElem hj]
    rw [hρ1 _ (by omega)] at h
    unfold lentρ at h
    rw [List.getElem?_eq_getElem hj] at h
    exact hold _ s h
   ·rw [List.getElem?_append_right (by omega), List.getElem?_eq_getElem (by omega)]
    have hx : nw[b - 1000000 - ns.length]? = some (nw[b - 1000000 - ns.length]'(by omega)) := List.getElem?_eq_getElem (by omega)
    show ρ' _ = some s
    rw [← hρ']
    unfold either
    rw [hnone _ (List.mem_of_getElem? hx)]
    rw [nwρ_at hnw hx, show ns.length + (b - 1000000 - ns.length) = b - 1000000 by omega]
    exact h
  have hown : ∀ g, (∀ b sv, ρ b = some sv → own sv ≠ some g) → ∀ b sv, shift 1000000 (lentρ ns ρ) b = some sv → own sv ≠ some g := fun g hno b sv hb => by
   obtain ⟨b0, _, h⟩ := lent_sub hb
   exact hno b0 sv h
  have hkeep : ∀ g, g < w.heap.size → (∀ b sv, ρ b = some sv → own sv ≠ some g) → w1.heap[g]? = w.heap[g]? := fun g hg hno => hkp.1 g hg (hown g hno)
  have hokk : ∀ g, okAt ok B ρ w g → okAt ok B ρ' w1 g ∧ w1.heap[g]? = w.heap[g]? := fun g hg =>
   ⟨⟨hg.1, by have := hg.2.1; have := hkp.2; omega, fun b s hr ho => (hge b s g hr ho).elim (fun h => hg.2.2 b s h ho) fun h => by have := hg.2.1; omega⟩, hkeep g hg.2.1 hg.2.2⟩
  have hok1 : ∀ g, okAt (upto w (okAt ok B ρ w)) B (shift 1000000 ρ1) w1 g → okAt ok B ρ' w1 g := fun g hg => by
   by_cases hlt : g < w.heap.size
   ·exact (hokk g (hg.1 hlt)).1
   ·refine ⟨hI.new g (by omega), hg.2.1, fun b s hr ho => ?_⟩
    rcases hspl b s hr with h | ⟨i, _, h⟩
    ·have := (hI.own_ge h ho).2; omega
    ·exact hg.2.2 (1000000 + (ns.length + i)) s (by simp [shift, h]) ho
  refine hK w1 ρ' val ⟨hbel, ⟨Nat.le_trans hI.size hkp.2, ?_, ?_, ?_, fun g hg => hI.new g (by have := hkp.2; omega), fun b s g hr ho => ?_⟩, fun v val hv => hv.mono hokk hold, hkeep, fun b sv g h1 h2 => (hge b sv g h1 h2).elim (fun h => .inr ⟨b, sv, h, h2⟩) .inl, fun b hb => ?_, hkp.2⟩ ((hrr.mono (fun g hg => ⟨hok1 g hg, rfl⟩) hmap).bk (fun g hg => ⟨hg, rfl⟩) hr')
  ·intro b k hk
   simp only [Eff.hp, either] at hk
   split at hk
   ·rename_i k1 hk1
    simp at hk
    subst hk
    obtain ⟨j, hj1, hj2⟩ := zip_lookup hk1
    obtain ⟨k2, h1, h2⟩ := g3 j k1 hj2
    obtain ⟨sv, hsv, hblk⟩ := hI1.blk (1000000 + j) k2 (by simp [shift, h1])
    have hm := hmap _ _ hsv
    obtain ⟨b0, hb0, hb1⟩ := lent_sub hm
    rw [Nat.add_sub_cancel_left, hj1] at hb0
    cases hb0
    exact ⟨sv, hb1, (hblk.mono' (w' := w1) (ρ' := shift 1000000 (lentρ (ns ++ nw) ρ')) (fun g hg => ⟨hok1 g hg, rfl⟩) (Nat.le_refl _) (fun _ _ => rfl) hmap).bk (fun g hg => hg) h2⟩
   ·rename_i hnone2
    have hnin := zip_none (by rw [List.length_append]; omega) hnone2
    obtain ⟨sv, hr, hblk⟩ := hI.blk b k hk
    refine ⟨sv, hold b sv hr, hblk.mono' hokk hkp.2 (fun g hg => hkp.1 g (hI.own_ge hr hg).2 fun b1 sv1 hb1 ho1 => ?_) hold⟩
    obtain ⟨b0, hj, h0⟩ := lent_sub hb1
    have := hI.inj b b0 sv sv1 g hr h0 hg ho1
    subst this
    exact hnin (List.mem_append_left _ (List.mem_of_getElem? hj))
  ·intro b sv hr
   simp only [Eff.hp, either]
   split
   ·exact ⟨_, rfl⟩
   ·rename_i hnone2
    rcases hspl b sv hr with h | ⟨i, h, _⟩
    ·exact hI.dom b sv h
    ·exact absurd (List.mem_append_right _ (List.mem_of_getElem? h)) (zip_none (by rw [List.length_append]; omega) hnone2)
  ·intro b b' sv sv' g h1 h2 o1 o2
   rcases hspl b sv h1 with h1 | ⟨i, hi, h1⟩ <;> rcases hspl b' sv' h2 with h2 | ⟨i', hi', h2⟩
   ·exact hI.inj b b' sv sv' g h1 h2 o1 o2
   ·have := (hI.own_ge h1 o1).2; have := hρ2 _ sv' g (by omega) h2 o2; omega
   ·have := (hI.own_ge h2 o2).2; have := hρ2 _ sv g (by omega) h1 o1; omega
   ·have := hI1.inj (1000000 + (ns.length + i)) (1000000 + (ns.length + i')) sv sv' g (by simp [shift, h1]) (by simp [shift, h2]) o1 o2
    have : i = i' := by omega
    subst this
    rw [hi] at hi'
    exact Option.some.inj hi'
  ·rcases hspl b s hr with h | ⟨i, _, h⟩
   ·exact hI.fr b s g h ho
   ·exact .inr (hI.new g (hρ2 _ s g (by omega) h ho))
  ·rw [← hρ']
   unfold either
   cases hr : ρ b with
   | some s => rfl
   | none =>
    cases hx : nwρ nw ns.length ρ1 b with
    | none => rfl
    | some s =>
     obtain ⟨i, hi, _⟩ := nwρ_some hx
     have hm := List.mem_of_getElem? hi
     have : (Eff.writes ((ns ++ nw).zip ks3)).tc b = true := by
      simp only [Eff.tc, Bool.and_eq_true, decide_eq_true_eq]
      exact ⟨zip_any (by rw [List.length_append]; omega) (List.mem_append_right _ hm), (freshN_spec hfr hm).2⟩
     rw [this] at hb
     cases hb
 unfold Oper.wp
 rcases hmut (okAt ok B ρ w) w B (lentρ ns ρ) (args.map a.eval ++ vs) hJ (fun g hg => hg.2.1) hI0 (by omega) (fun j c u hc hu => by
  obtain ⟨c0, h1, h2⟩ := g0 j c hc
  exact (hall j c0 u h1 hu).mv (fun g hg => ⟨⟨fun _ => hg, hg.2.1, fun b sv hb => by obtain ⟨b0, _, h⟩ := lent_sub hb; exact hg.2.2 b0 sv h⟩, rfl⟩) h2) with ⟨hcal, hc⟩ | ⟨val, w1, hrun, val', ρ1, hv, hpost⟩
 ·rw [run hcal]
  refine hc.mono ?_
  rintro e w1 ⟨val, ρ1, rfl, hpost⟩
  exact fin val ρ1 w1 hpost
 ·rw [run2 val w1 hrun]
  simp only [Ending.returned.injEq] at hv
  subst hv
  exact fin val ρ1 w1 hpost
theorem cellOf_spec {b : Nat} : ∀ {l : List V} {k m : Nat}, cellOf b l k = some m → k ≤ m ∧ l[m - k]? = some (.vec b)
 | [], k, m, h => by simp [cellOf] at h
 | x :: l, k, m, h => by
  have step : cellOf b l (k + 1) = some m → k ≤ m ∧ (x :: l)[m - k]? = some (.vec b) := fun h => by
   obtain ⟨h1, h2⟩ := cellOf_spec h
   exact ⟨by omega, by rw [show m - k = (m - (k + 1)) + 1 by omega]; simpa using h2⟩
  cases x <;> simp only [cellOf] at h <;> first | exact step h | skip
  rename_i b'
  split at h
  ·rename_i hb; simp at h; subst h; subst hb; simp
  ·exact step h
theorem os_sortV (hΛ : LamAll P J X) (hJ : ∀ w', Below B w w' → J w') (hI : Inv ok B w ρ hp) {f : Operand} {args : List Operand} {tys : Array TypeId}
  (hE : ∀ x, Rel w (okAt ok B ρ w) ρ (opd env x) (a.eval x)) (ho : o.op = .call ⟨.value f, args.toArray, tys⟩) {g : FuncId} {cs : List V} {S : TypeId → FuncId → Nat → TypeId → Nat → List V → Option (List V)} (hq : opd env f = .fn g cs) (hS : X.S g = some S)
  (h : sortV S hp (args.map (opd env) ++ cs) = some (v, eff)) : OpOk P ok B w ρ hp a o v eff := by
 have hf := hE f
 rw [hq] at hf
 obtain ⟨vs, hfe, hlv, hrv⟩ := hf.fn_inv
 have run : Callable P g → (execOp a.eval o).run P w = .ok (.enter g (args.map a.eval ++ vs).toArray) w := by
  rintro ⟨fn, h1, h2, h3⟩
  simp only [beq_eq_false_iff_ne, ne_eq] at h2
  have h3' : fn.body ≠ none := by intro e; simp [e] at h3
  simp [execOp, ho, resolve, hfe, Deferred.ofValue, invoke, callFunc, h1, h2, h3']
 have hall : ∀ (j : Nat) c u, (args.map (opd env) ++ cs)[j]? = some c → (args.map a.eval ++ vs)[j]? = some u → Rel w (okAt ok B ρ w) ρ c u := by
  intro j c u hc hu
  by_cases hj : j < args.length
  ·rw [List.getElem?_append_left (by simpa using hj), List.getElem?_map] at hc hu
   rw [List.getElem?_eq_getElem hj] at hc hu
   simp at hc hu
   subst hc; subst hu
   exact hE _
  ·rw [List.getElem?_append_right (by simpa using hj)] at hc hu
   simp at hc hu
   exact hrv _ c u hc hu
 have hlen : (args.map (opd env) ++ cs).length = (args.map a.eval ++ vs).length := by simp [hlv]
 generalize (args.map (opd env) ++ cs) = as at h hall hlen
 generalize (args.map a.eval ++ vs) = us at run hall hlen
 unfold sortV at h
 split at h <;> first | (cases h; done) | skip
 rename_i t b lf bo
 split at h <;> first | (cases h; done) | skip
 rename_i T sz es bv hb hbo
 split at h <;> first | (cases h; done) | skip
 rename_i k hk
 split at h <;> first | (cases h; done) | skip
 rename_i es' hes
 obtain ⟨rfl, rfl⟩ := some_pair h
 match us, hlen with
 | [u0, u1], _ =>
  have r0 := hall 0 _ u0 rfl rfl
  have r1 := hall 1 _ u1 rfl rfl
  obtain ⟨sv, rfl, hrb, hone⟩ : ∃ sv, u0 = .iface t sv ∧ ρ b = some sv ∧ sv.oneCell' = true := by
   cases r0 with
   | ro h => cases h with | ifc _ _ val h => cases h
   | ifc _ _ val h =>
    cases h with
    | ro h => cases h
    | vec _ _ h h1 => exact ⟨_, rfl, h, h1⟩
  obtain ⟨ws, rfl, hlw, hrw⟩ := r1.fn_inv
  match ws, hlw with
  | [p0], _ =>
   obtain ⟨og, hro, rfl⟩ := (hrw 0 _ p0 rfl rfl).ptr_inv
   obtain ⟨sv', hsv', hpos, hown⟩ := hI.blk b _ hb
   rw [hrb] at hsv'
   simp at hsv'
   subst hsv'
   obtain ⟨sv2, hsv2, og', val, e2, hBo, hlto, hra, hth, h1c, hrv2⟩ := hI.blk bo _ hbo
   rw [hro] at hsv2
   simp at hsv2
   subst hsv2
   simp at e2
   subst e2
   have hne : own sv ≠ some og := fun hown => by
    have := hI.inj b bo sv _ og hrb hro hown (by simp [own])
    subst this
    rw [hb] at hbo
    cases hbo
   obtain ⟨_, hkc⟩ := cellOf_spec hk
   rw [Nat.sub_zero] at hkc
   have hcell : val.cells.toList[k]? = some sv := by
    by_cases hst : stor bv = true
    ·obtain ⟨hsz, _, hrel⟩ := hrv2.stor_cells hst
     have hlt := (List.getElem?_eq_some_iff.1 hkc).1
     have hlt2 : k < val.cells.toList.length := by rw [Array.length_toList]; omega
     have := hrel k _ _ hkc (List.getElem?_eq_getElem hlt2)
     have := this.vec_inv
     rw [hrb] at this
     rw [List.getElem?_eq_getElem hlt2, Option.some.inj this]
    ·exfalso
     cases bv <;> first | (simp [stor, scalar, isAggV] at hst; done) | skip
     all_goals
      have hlt := (List.getElem?_eq_some_iff.1 hkc)
      obtain ⟨hlt, he⟩ := hlt
      simp [V.cells] at hlt
      subst hlt
      simp [V.cells] at he
   obtain ⟨hcal, hl⟩ := hΛ.srt g S t lf k T sz es es' hS hes
   intro K Q hK
   unfold Oper.wp
   rw [run hcal]
   have hokg : ∀ g, okAt ok B ρ w g → g ≠ og := fun g hg he => by
    subst he
    exact hg.2.2 bo _ hro (by simp [own])
   refine (hl w B (okAt ok B ρ w) sv og val.cells.toList hJ hI.size (fun g hg => ⟨okAt_lt hI.size hg, fun hown => hg.2.2 b sv hrb hown, hokg g hg⟩) hone hpos hown hBo hlto hne hra (by rw [Array.length_toList]; exact hth) h1c hcell).mono ?_
   ·rintro e w1 ⟨rfl, hbel, hkeep, hra1, hth1, hsz, hown1⟩
    rw [Array.length_toList] at hth1
    have hupd : upd ρ b (some sv) = ρ := by funext k; unfold upd; split <;> simp_all
    obtain ⟨w2, hw2s, hw2o, hw2⟩ : ∃ w2 : World, w2.heap.size = w1.heap.size ∧ w2.heap[og]? = w.heap[og]? ∧ ∀ g, g ≠ og → w2.heap[g]? = w1.heap[g]? := by
     refine ⟨{ w1 with heap := w1.heap.setIfInBounds og w.heap[og] }, Array.size_setIfInBounds, ?_, fun g hg => ?_⟩
     ·show (w1.heap.setIfInBounds og w.heap[og])[og]? = _
      rw [Array.getElem?_setIfInBounds, if_pos rfl, if_pos (by omega)]
      exact (Array.getElem?_eq_getElem hlto).symm
     ·show (w1.heap.setIfInBounds og w.heap[og])[g]? = _
      rw [Array.getElem?_setIfInBounds, if_neg (fun e => hg e.symm)]
    have hokk : ∀ g, okAt ok B ρ w g → okAt ok B ρ w2 g := fun g hg => by
     exact ⟨hg.1, by have := hg.2.1; omega, hg.2.2⟩
    have hch := hI.change (w' := w2) b (.vec b) (some (sv, .vec T sz es')) (by omega) (fun g hg hno => by
     by_cases e : g = og
     ·subst e; exact hw2o
     ·rw [hw2 g e]; exact hkeep g hg (hno sv hrb) e) (fun s k hn => by
     simp at hn
     obtain ⟨rfl, rfl⟩ := hn
     exact ⟨fun g hg => .inr ⟨sv, hrb, hg⟩, hpos, hown1.mono (fun g hg => ⟨by rw [hupd]; exact hokk g hg, hw2 g (hokg g hg)⟩) fun g hg => hw2 g (fun e => by subst e; exact hne hg)⟩) (fun s hs h1 => by
     rw [hrb] at hs
     simp at hs
     subst hs
     exact .vec b sv (by simp [upd]) h1)
    simp only [Option.map_some] at hch
    rw [hupd] at hch
    have hbb : bo ≠ b := fun e => by
     subst e
     rw [hb] at hbo
     cases hbo
    have hpb : upd (hpScrub b (.vec b) hp) b (some (Blk.vec T sz es')) bo = some ((Blk.box bv).scrub b (.vec b)) := by
     unfold upd hpScrub
     rw [if_neg hbb, hbo]
     rfl
    have hok2 : ∀ g, okAt ok B ρ w2 g → okAt ok B ρ w1 g ∧ w1.heap[g]? = w2.heap[g]? := fun g hg => by
     have hgo : g ≠ og := fun e => by
      subst e
      exact hg.2.2 bo _ hro (by simp [own])
     refine ⟨?_, (hw2 g hgo).symm⟩
     exact ⟨hg.1, by have := hg.2.1; omega, hg.2.2⟩
    have hwr := hch.1.write (w' := w1) bo _ ((Blk.box bv).scrub b (.vec b)) hro (by omega) (fun g hg hno => (hw2 g (fun e => hno (by subst e; simp [own]))).symm)
     ⟨og, val, rfl, hBo, by omega, hra1, hth1, h1c, (hch.2 _ _ hrv2).mono hok2 fun _ _ h => h⟩
    have hup2 : upd (upd (hpScrub b (.vec b) hp) b (some (Blk.vec T sz es'))) bo (some ((Blk.box bv).scrub b (.vec b))) = upd (hpScrub b (.vec b) hp) b (some (Blk.vec T sz es')) := by
     funext k
     rw [upd]
     split
     ·rename_i e; rw [e, hpb]
     ·rfl
    rw [hup2] at hwr
    refine hK w1 ρ (.tuple #[]) ⟨hbel, hwr.1, fun v val h => hwr.2 _ _ (hch.2 v val h), fun g hg hno => hkeep g hg (hno b sv hrb) (fun e => hno bo _ hro (by subst e; simp [own])), (fun b' s g hs ho => .inr ⟨b', s, hs, ho⟩), fun _ _ => rfl, hsz⟩ ?_
    exact .tup [] [] rfl (by simp)
theorem op_sound (hT : TOkX P X) (hΛ : LamAll P J X) (hΦ : ∀ g args r bs, X.Φ g args = some (r, bs) → SoundAt P J g args r bs) (hJ : ∀ w', Below B w w' → J w') (hI : Inv ok B w ρ hp) (hE : ∀ x, Rel w (okAt ok B ρ w) ρ (opd env x) (a.eval x))
  (h : evalOp X env hp d o.op = some (v, eff)) : OpOk P ok B w ρ hp a o v eff := by
 cases hop : o.op with
 | move x => rw [hop] at h; exact os_move hI hE hop h
 | assign x => rw [hop] at h; exact os_assign hI hE hop h
 | pick c x y => rw [hop] at h; exact os_pick hI hE hop h
 | alloc T => rw [hop] at h; exact os_alloc hT.1 hI hop h
 | box T x => rw [hop] at h; exact os_box hI hE hop h
 | build T ps => rw [hop] at h; exact os_build hT.1 hI hE hop h
 | buildSlice T n ps => rw [hop] at h; exact os_buildSlice hT.1 hI hE hop h
 | load T x => rw [hop] at h; exact os_load hT.1 hI hE hop h
 | store T x y => rw [hop] at h; exact os_store hT.1 hI hE hop h
 | nilCheck x => rw [hop] at h; exact os_nilCheck hI hE hop h
 | binOp op T x y U => rw [hop] at h; exact os_bin hT hI hE (fun b hb => nil_run hT.1 hI hb (hE x) (hE y)) hop h
 | unOp op T x => rw [hop] at h; exact os_un hI hE hop h
 | convert s t x => rw [hop] at h; exact os_convert hT.1 hI hE hop h
 | makeFunc fn first cs => rw [hop] at h; exact os_makeFunc hI hE hop h
 | makeInterface T x => rw [hop] at h; exact os_makeInterface hT.1 hI hE hop h
 | makeSlice T x y => rw [hop] at h; exact os_makeSlice hT.1 hI hE hop h
 | makeMap T r => rw [hop] at h; exact os_makeMap hT.1 hI hE hop h
 | lookup T x i ok => rw [hop] at h; exact os_lookup hT.1 hI hE hop h
 | mapUpdate T m k v => rw [hop] at h; exact os_mapUpdate hT.1 hI hE hop h
 | slice T x lo hi mx => rw [hop] at h; exact os_slice hT.1 hI hE hop h
 | fieldAddr T x f => rw [hop] at h; exact os_fieldAddr hT.1 hI hE hop h
 | indexAddr T x i => rw [hop] at h; exact os_indexAddr hT.1 hI hE hop h
 | index T x i => rw [hop] at h; exact os_index hT.1 hI hE hop h
 | field T x f => rw [hop] at h; exact os_field hT.1 hI hE hop h
 | extract x i => rw [hop] at h; exact os_extract hI hE hop h
 | call c =>
  rw [hop] at h
  cases hc : c.callee with
  | value f =>
   obtain ⟨cal, args, tys⟩ := c
   simp only at hc
   subst hc
   obtain ⟨args⟩ := args
   simp only [evalOp] at h
   unfold callW at h
   split at h
   ·rename_i g cs hq
    split at h
    ·rename_i M hM
     exact os_mutV hΛ hJ hI hE hop hq hM h
    ·split at h
     ·rename_i S hS
      exact os_sortV hΛ hJ hI hE hop hq hS h
     ·split at h
      ·rename_i L hL
       exact os_takeV hΛ hJ hI hE hop hq hL h
      ·rename_i L hL
       exact os_lendV hΛ hJ hI hE hop hq hL h
      ·exact os_callV hΦ (hJ w (.refl _ _)) hI hE hop h
   ·exact os_callV hΦ (hJ w (.refl _ _)) hI hE hop h
  | invoke _ _ => simp [evalOp, hc] at h
  | builtin b =>
   cases b <;> first
    | exact os_len hT.1 hI hE hc hop h
    | exact os_append hT.1 hI hE hc hop h
    | exact os_copy hT.1 hI hE hc hop h
    | exact os_clear hT.1 hI hE hc hop h
    | exact os_max hI hE hc hop h
    | exact os_min hI hE hc hop h
    | (simp [evalOp, hc] at h; done)
 | _ => rw [hop] at h; simp [evalOp] at h
end
/-! ### Code -/
structure St where
 env : List (Nat × V)
 hp : List (Nat × Blk)
def setA {α : Type} (t : Nat) (v : α) : List (Nat × α) → List (Nat × α)
 | [] => [(t, v)]
 | (t', v') :: l => if t = t' then (t, v) :: l else if t < t' then (t, v) :: (t', v') :: l else (t', v') :: setA t v l
def setH {α : Type} (t : Nat) (v : α) : List (Nat × α) → List (Nat × α)
 | [] => [(t, v)]
 | (t', v') :: l => if t = t' then (t, v) :: l else (t', v') :: setH t v l
def look {α : Type} (t : Nat) : List (Nat × α) → Option α
 | [] => none
 | (t', v) :: l => if t = t' then some v else look t l
theorem look_lookup {α : Type} (t : Nat) : ∀ l : List (Nat × α), l.lookup t = look t l
 | [] => rfl
 | (t', v) :: l => by
  rw [List.lookup_cons, look, look_lookup t l]
  by_cases h : t = t'
  ·simp [h]
  ·have : (t == t') = false := by simpa using h
   simp [h, this]
theorem look_setA {α : Type} (t : Nat) (v : α) (x : Nat) : ∀ l : List (Nat × α), look x (setA t v l) = if x = t then some v else look x l
 | [] => by simp [setA, look]
 | (t', v') :: l => by
  unfold setA
  split
  ·rename_i h; subst h; simp only [look]; split <;> simp_all
  ·split
   ·simp only [look]
   ·simp only [look, look_setA t v x l]
    split
    ·rename_i h1 h2 h3; subst h3; rw [if_neg (by omega)]
    ·rfl
theorem look_setH {α : Type} (t : Nat) (v : α) (x : Nat) : ∀ l : List (Nat × α), look x (setH t v l) = if x = t then some v else look x l
 | [] => by simp [setH, look]
 | (t', v') :: l => by
  unfold setH
  split
  ·rename_i h; subst h; simp only [look]; split <;> simp_all
  ·simp only [look, look_setH t v x l]
   split
   ·rename_i h1 h3; subst h3; rw [if_neg (by omega)]
   ·rfl
theorem look_map {α β : Type} (f : α → β) (x : Nat) : ∀ l : List (Nat × α), look x (l.map fun p => (p.1, f p.2)) = (look x l).map f
 | [] => rfl
 | (t', v') :: l => by simp only [List.map_cons, look, look_map f x l]; split <;> simp
theorem look_append {α : Type} (x : Nat) : ∀ l l' : List (Nat × α), look x (l ++ l') = match look x l with | some v => some v | none => look x l'
 | [], l' => rfl
 | (t', v') :: l, l' => by
  simp only [List.cons_append, look, look_append x l l']
  split <;> rfl
def setHL {α : Type} : List (Nat × α) → List (Nat × α) → List (Nat × α)
 | [], h => h
 | (b, k) :: l, h => setH b k (setHL l h)
theorem look_setHL {α : Type} (x : Nat) (h : List (Nat × α)) : ∀ l : List (Nat × α), look x (setHL l h) = match l.lookup x with | some v => some v | none => look x h
 | [] => by simp [setHL]
 | (b, k) :: l => by
  rw [setHL, look_setH, look_setHL x h l, List.lookup_cons]
  by_cases hx : x = b
  ·subst hx; simp
  ·rw [if_neg hx]
   have : (x == b) = false := by simpa using hx
   rw [this]
def mapA {α : Type} (f : α → α) (l : List (Nat × α)) : List (Nat × α) := l.map fun p => (p.1, f p.2)
def St.e (σ : St) : Env := fun t => (look t σ.env).getD .undef
def St.h (σ : St) : Hp := fun b => look b σ.hp
def putE (dst : Option Nat) (v : V) (env : List (Nat × V)) : List (Nat × V) :=
 match dst with
 | some t => setA t v env
 | none => env
def St.app (σ : St) (e : Eff) (dst : Option Nat) (v : V) : St :=
 match e with
 | .none => ⟨putE dst v σ.env, σ.hp⟩
 | .new l => ⟨putE dst v σ.env, σ.hp ++ l⟩
 | .write b k => ⟨putE dst v σ.env, setH b k σ.hp⟩
 | .change b k => ⟨putE dst v (mapA (V.scrub b .undef) σ.env), setH b k (mapA (Blk.scrub b .undef) σ.hp)⟩
 | .lend b k => ⟨putE dst v (mapA (V.scrub b (.vec b)) σ.env), setH b k (mapA (Blk.scrub b (.vec b)) σ.hp)⟩
 | .writes l => ⟨putE dst v σ.env, setHL l σ.hp⟩
def St.freeze (σ : St) (b : Nat) : Option St :=
 if 1000000 ≤ b then none else match look b σ.hp with
 | some (.vec _ sz es) => some ⟨mapA (V.scrub b (.row sz es)) σ.env, (mapA (Blk.scrub b (.row sz es)) σ.hp).filter fun p => p.1 != b⟩
 | none => some σ
 | _ => none
def freezeL : List Nat → St → Option St
 | [], σ => some σ
 | b :: bs, σ => match σ.freeze b with
  | some σ' => freezeL bs σ'
  | none => none
def St.drop (σ : St) (ts : List Nat) : St := ⟨σ.env.filter fun p => !ts.contains p.1, σ.hp⟩
def onSome {α : Type} (x : Option α) (K : α → Prop) : Prop :=
 match x with
 | some a => K a
 | none => False
def onBool (x : V) (K : Bool → Prop) : Prop :=
 match x with
 | .bool b => K b
 | _ => False
def gOf : V → Option (Option Bool)
 | .bool b => some (some b)
 | .raw v => match v with
  | .bool _ => none
  | _ => some none
 | _ => none
def onIf (b : Bool) (x y : Prop) : Prop := if b = true then x else y
def dstOk (n : Nat) : Option Nat → Prop
 | some t => t < n
 | none => True
def guardT (ops : List Oper) (j : Nat) : Option Nat := (ops[j]?).bind (·.dst)
def evOps (X : Ctx) (n : Nat) (ops : List Oper) : List Oper → St → (St → Prop) → Prop
 | [], σ, K => K σ
 | ⟨dst, op, _, _, _, none⟩ :: os, σ, K =>
  onSome (freezeL (X.frz (dst.getD 0)) σ) fun σ => onSome (evalOp X σ.e σ.h (dst.getD 0) op) fun p => dstOk n dst ∧ evOps X n ops os (σ.app p.2 dst p.1) K
 | ⟨dst, op, _, _, _, some (j, want)⟩ :: os, σ, K =>
  onSome (guardT ops j) fun t => onSome (gOf (σ.e t)) fun b =>
   onIf (b == some want) (onSome (evalOp X σ.e σ.h (dst.getD 0) op) fun p => dstOk n dst ∧ evOps X n ops os (σ.app p.2 dst p.1) K) (dstOk n dst ∧ evOps X n ops os (σ.app .none dst (.raw Go.undef)) K)
def Eff.mild : Eff → Bool
 | .none => true
 | .new _ => true
 | _ => false
def evHead (X : Ctx) (n : Nat) (ops : List Oper) : List Oper → St → (St → Prop) → Prop
 | [], σ, K => K σ
 | ⟨dst, op, _, _, _, none⟩ :: os, σ, K =>
  onSome (evalOp X σ.e σ.h (dst.getD 0) op) fun p => (dstOk n dst ∧ p.2.mild = true) ∧ evHead X n ops os (σ.app p.2 dst p.1) K
 | ⟨dst, op, _, _, _, some (j, want)⟩ :: os, σ, K =>
  onSome (guardT ops j) fun t => onSome (gOf (σ.e t)) fun b =>
   onIf (b == some want) (onSome (evalOp X σ.e σ.h (dst.getD 0) op) fun p => (dstOk n dst ∧ p.2.mild = true) ∧ evHead X n ops os (σ.app p.2 dst p.1) K) (dstOk n dst ∧ evHead X n ops os (σ.app .none dst (.raw Go.undef)) K)
def drB (ops : Array Oper) (m : Nat) : Bool :=
 ((List.range ops.size).all fun i => match ops[i]? with
  | some o => o.after.all fun e => !Region.binds .any e || decide (e.on < i)
  | none => true) &&
 ((List.range m).all fun i => (List.range m).all fun j => decide (j ≤ i) || Region.waitsFor .any ops j i || (match ops[i]?, ops[j]? with
  | some x, some y => x.apart ops y
  | _, _ => true)) &&
 (m == ops.size || (decide (m < ops.size) && Region.sinkB .any ops m && Region.chainB .any ops m))
structure Ent where
 us : Option (List V)
 w : Option Nat
mutual
def V.noRef (b : Nat) : V → Bool
 | .agg cs => V.noRefL b cs
 | .tup cs => V.noRefL b cs
 | .fn _ cs => V.noRefL b cs
 | .ptr b' _ => !(b' == b)
 | .eptr b' _ _ _ => !(b' == b)
 | .vec b' => !(b' == b)
 | .sub b' _ _ _ => !(b' == b)
 | .ifc _ v => V.noRef b v
 | _ => true
def V.noRefL (b : Nat) : List V → Bool
 | [] => true
 | v :: vs => V.noRef b v && V.noRefL b vs
end
def touchOf (e : Env) : Op → Option (List V)
 | .move _ => some []
 | .assign _ => some []
 | .pick _ _ _ => some []
 | .alloc _ => some []
 | .box _ _ => some []
 | .build _ _ => some []
 | .nilCheck _ => some []
 | .unOp _ _ _ => some []
 | .convert _ _ _ => some []
 | .fieldAddr _ _ _ => some []
 | .field _ _ _ => some []
 | .index _ _ _ => some []
 | .extract _ _ => some []
 | .load _ a => some [opd e a]
 | .store _ a _ => some [opd e a]
 | .indexAddr _ x _ => some [opd e x]
 | .binOp _ _ x y _ => some [opd e x, opd e y]
 | .call ⟨.builtin .copy, args, _⟩ => some (args.toList.map (opd e))
 | _ => none
def Eff.tame : Eff → Bool
 | .none => true
 | .new _ => true
 | .write _ _ => true
 | _ => false
def Eff.wb : Eff → Option Nat
 | .write b _ => Option.some b
 | _ => Option.none
def offW : Option Nat → Option (List V) → Bool
 | none, _ => true
 | some _, none => false
 | some b, some l => l.all (V.noRef b)
def apartE (x y : Ent) : Bool := offW x.w y.us && offW y.w x.us
def okU : Option Ent → Ent → Bool
 | some x, y => apartE x y
 | none, _ => false
def okW (L : List (Nat × Ent)) (un : List Nat) (us : Option (List V)) (eff : Eff) : Bool :=
 eff.tame && (us.isSome || eff.wb.isNone) && un.all fun i => okU (look i L) ⟨us, eff.wb⟩
def evHeadW (X : Ctx) (n : Nat) (ops : List Oper) : List (Oper × List Nat) → Nat → List (Nat × Ent) → St → (St → Prop) → Prop
 | [], _, _, σ, K => K σ
 | (⟨dst, op, _, _, _, none⟩, un) :: os, k, L, σ, K =>
  onSome (evalOp X σ.e σ.h (dst.getD 0) op) fun p => (dstOk n dst ∧ okW L un (touchOf σ.e op) p.2 = true) ∧ evHeadW X n ops os (k + 1) ((k, ⟨touchOf σ.e op, p.2.wb⟩) :: L) (σ.app p.2 dst p.1) K
 | (⟨dst, op, _, _, _, some (j, want)⟩, un) :: os, k, L, σ, K =>
  onSome (guardT ops j) fun t => onSome (gOf (σ.e t)) fun b =>
   onIf (b == some want) (onSome (evalOp X σ.e σ.h (dst.getD 0) op) fun p => (dstOk n dst ∧ okW L un (touchOf σ.e op) p.2 = true) ∧ evHeadW X n ops os (k + 1) ((k, ⟨touchOf σ.e op, p.2.wb⟩) :: L) (σ.app p.2 dst p.1) K)
    (dstOk n dst ∧ evHeadW X n ops os (k + 1) ((k, ⟨some [], none⟩) :: L) (σ.app .none dst (.raw Go.undef)) K)
def waits2 (ops : Array Oper) (j i : Nat) : Bool := Region.waitsFor .any ops j i || (List.range j).any fun k => Region.waitsFor .any ops j k && Region.waitsFor .any ops k i
def drBW (ops : Array Oper) (un : List (List Nat)) : Bool :=
 drB ops un.length && (List.range un.length).all fun j => (List.range j).all fun i => ((un[j]?).getD []).contains i || waits2 ops j i
def nrEff (N : Nat) : Eff → Bool
 | .none => true
 | .new l => l.all fun p => !(p.1 == N) && (match p.2 with
  | .box v => V.noRef N v
  | _ => true)
 | _ => false
def augH (N : Nat) (k : Blk) (h : Hp) : Hp := fun b => if b = N then some k else h b
def appP (X : Ctx) (dp dq : Nat) (k : Blk) (e : Env) (h : Hp) : Op → Option (V × Eff)
 | .call ⟨.builtin .append, ⟨[.tmp a, .tmp x]⟩, ⟨[t, t2]⟩⟩ => if a = dp ∧ x ≠ dp then appendV X (augH (8 * dq) k h) dq t t2 (.vec (8 * dq)) (e x) else none
 | _ => none
def evHeadP (X : Ctx) (n p q dp dq : Nat) (wq : List Nat) : List Oper → Nat → Option Blk → St → (Option Blk → St → Prop) → Prop
 | [], _, pd, σ, K => K pd σ
 | ⟨dst, op, _, _, _, none⟩ :: os, k, pd, σ, K =>
  if k = p then onSome (evalOp X σ.e σ.h dq op) fun r => match r with
   | (.vec b, .new [(b', kk)]) => (dst = some dp ∧ b = 8 * dq ∧ b' = 8 * dq ∧ dstOk n dst) ∧ evHeadP X n p q dp dq wq os (k + 1) (some kk) (σ.app .none dst .undef) K
   | _ => False
  else if k = q then match pd with
   | some kk => onSome (appP X dp dq kk σ.e σ.h op) fun r => match r with
    | (.vec b, .change b' k2) => (dst = some dq ∧ b = 8 * dq ∧ b' = 8 * dq ∧ dstOk n dst ∧ (σ.h (8 * dq)).isNone = true ∧ σ.e dp = .undef) ∧ evHeadP X n p q dp dq wq os (k + 1) (some kk) (σ.app (.new [(8 * dq, k2)]) dst (.vec (8 * dq))) K
    | _ => False
   | none => False
  else onSome (evalOp X σ.e σ.h (dst.getD 0) op) fun r => (dstOk n dst ∧ r.2.mild = true ∧ (wq.contains k || (V.noRef (8 * dq) r.1 && nrEff (8 * dq) r.2)) = true) ∧ evHeadP X n p q dp dq wq os (k + 1) pd (σ.app r.2 dst r.1) K
 | _ :: _, _, _, _, _ => False
def drBP (ops : Array Oper) (m p q dp dq : Nat) (wq : List Nat) : Bool :=
 drB ops m && decide (p < q) && decide (q < m) && decide (dp ≠ dq) && decide (dq < 100000) && Region.waitsFor .any ops q p && (wq.all fun i => Region.waitsFor .any ops i q) && (List.range m).all fun i => match ops[i]? with
  | some o => (decide (i = q) || !(o.looksAt ops).contains dp) && (decide (i = p) || decide (o.dst ≠ some dp))
  | none => true
def drOk (ops : Array Oper) : Nat × List (List Nat) → Bool
 | (m, []) => drB ops m
 | (_, [] :: un) => drBW ops ([] :: un)
 | (m, [p, q, dp, dq] :: wq :: _) => drBP ops m p q dp dq wq
 | _ => false
def evDr (X : Ctx) (n : Nat) (ops : List Oper) : Nat × List (List Nat) → St → (St → Prop) → Prop
 | (m, []), σ, K => evHead X n ops (ops.take m) σ fun σ1 => evOps X n ops (ops.drop m) σ1 K
 | (_, [] :: un), σ, K => evHeadW X n ops ((ops.take ([] :: un : List (List Nat)).length).zip ([] :: un)) 0 [] σ fun σ1 => evOps X n ops (ops.drop ([] :: un : List (List Nat)).length) σ1 K
 | (m, [p, q, dp, dq] :: wq :: _), σ, K => evHeadP X n p q dp dq wq (ops.take m) 0 none σ fun _ σ1 => evOps X n ops (ops.drop m) σ1 K
 | _, _, _ => False
def drAll (dr : List (Nat × (Nat × List (List Nat)))) : Code → Bool
 | .region id ops true => match look id dr with
  | some m => drOk ops m
  | none => false
 | .region _ _ false => true
 | .seq x y => drAll dr x && drAll dr y
 | .cond _ x y => drAll dr x && drAll dr y
 | .block _ x => drAll dr x
 | .loop x => drAll dr x
 | _ => true
inductive Ex where
 | normal
 | exit (id : Nat)
 | ret
def St.keep (σ : St) (ts : List Nat) (bs : List Nat) : St := ⟨σ.env.filter fun p => ts.contains p.1, σ.hp.filter fun p => bs.contains p.1⟩
mutual
def V.refsIn (bs : List Nat) : V → Bool
 | .agg cs => V.refsInL bs cs
 | .tup cs => V.refsInL bs cs
 | .fn _ cs => V.refsInL bs cs
 | .ptr b _ => bs.contains b
 | .eptr b _ _ _ => bs.contains b
 | .vec b => bs.contains b
 | .sub b _ _ _ => bs.contains b
 | .ifc _ v => V.refsIn bs v
 | _ => true
def V.refsInL (bs : List Nat) : List V → Bool
 | [] => true
 | v :: vs => V.refsIn bs v && V.refsInL bs vs
end
def Blk.refsIn (bs : List Nat) : Blk → Bool
 | .box v => V.refsIn bs v
 | .vec _ _ _ => true
 | .map _ => true
def St.closed (σ : St) (bs : List Nat) : Bool := (σ.env.all fun p => V.refsIn bs p.2) && σ.hp.all fun p => Blk.refsIn bs p.2
def toSub (v : V) (eff : Eff) : V := match v, eff with
 | .vec b, .change b' (.vec _ sz es) => if b = b' ∧ 0 < es.length then .sub b sz 0 es.length else .vec b
 | .vec b, .new [(b', .vec _ sz es)] => if b = b' ∧ 0 < es.length then .sub b sz 0 es.length else .vec b
 | v, _ => v
def onTwo {α : Type} (x : Option α) (K : α → Prop) (y : Prop) : Prop := match x with
 | some a => K a
 | none => y
def evTwo (X : Ctx) (n : Nat) (ops : List Oper) : List Oper → List (List Nat) → St → (St → Prop) → Prop
 | ⟨dst, op, _, _, _, none⟩ :: os, [], σ, K =>
  onSome (freezeL (X.frz (dst.getD 0)) σ) fun σ => onTwo (twoOp X σ.e σ.h (dst.getD 0) op)
   (fun r => dstOk n dst ∧ evOps X n ops os (σ.app r.1.2 dst r.1.1) K ∧ evOps X n ops os (σ.app r.2.2 dst r.2.1) K)
   (onSome (evalOp X σ.e σ.h (dst.getD 0) op) fun p => dstOk n dst ∧ evOps X n ops os (σ.app p.2 dst (toSub p.1 p.2)) K)
 | ⟨dst, op, _, _, _, none⟩ :: os, _ :: l, σ, K =>
  onSome (freezeL (X.frz (dst.getD 0)) σ) fun σ => onSome (evalOp X σ.e σ.h (dst.getD 0) op) fun p => dstOk n dst ∧ evTwo X n ops os l (σ.app p.2 dst p.1) K
 | _, _, _, _ => False
def evReg (X : Ctx) (n : Nat) (x : Option (Nat × List (List Nat))) (ops os : List Oper) (σ : St) (K : St → Prop) : Prop := match x with
 | none => evOps X n ops os σ K
 | some (_, l) => evTwo X n ops os l σ K
def ev (X : Ctx) (n : Nat) : Code → St → (Ex → St → Prop) → Prop
 | .skip, σ, Q => Q .normal σ
 | .region id ops false, σ, Q => evReg X n (look id X.dr) ops.toList ops.toList σ fun σ' => Q .normal (σ'.drop (X.dead id))
 | .region id ops true, σ, Q => onSome (look id X.dr) fun m => evDr X n ops.toList m σ fun σ' => Q .normal (σ'.drop (X.dead id))
 | .seq x y, σ, Q => ev X n x σ fun e σ' => match e with
  | .normal => ev X n y σ' Q
  | e => Q e σ'
 | .cond c x y, σ, Q => onBool (opd σ.e c) fun b => onIf b (ev X n x σ Q) (ev X n y σ Q)
 | .block id x, σ, Q => ev X n x σ fun e σ' => match e with
  | .exit i => if i = id then Q .normal σ' else Q (.exit i) σ'
  | e => Q e σ'
 | .loop x, σ, Q => ∃ (ts bs : List Nat) (I : St → Prop) (μ : St → Nat), ((σ.keep ts bs).closed bs = true ∧ I (σ.keep ts bs)) ∧
   ∀ σ, I σ → ev X n x σ fun e σ' => match e with
    | .normal => (σ'.keep ts bs).closed bs = true ∧ I (σ'.keep ts bs) ∧ μ (σ'.keep ts bs) < μ σ
    | e => Q e σ'
 | .exit id, σ, Q => Q (.exit id) σ
 | .ret, σ, Q => Q .ret σ
 | _, _, _ => False
/-! ### The machine is sound -/
structure Fr where
 w : World
 ρ : Nat → Option Value
 B : Nat
 ds : List Deferred
structure FrOk (F : Fr) (w : World) (ρ : Nat → Option Value) : Prop where
 keep : ∀ g, g < F.w.heap.size → (∀ b sv, F.ρ b = some sv → own sv ≠ some g) → w.heap[g]? = F.w.heap[g]?
 fresh : ∀ b sv g, ρ b = some sv → own sv = some g → F.w.heap.size ≤ g ∨ ∃ b0 sv0, F.ρ b0 = some sv0 ∧ own sv0 = some g
 hdr : ∀ b, 1000000 ≤ b → ∀ sv, ρ b = some sv → F.ρ b = some sv
 grow : F.w.heap.size ≤ w.heap.size
theorem FrOk.step {F : Fr} {ok : Nat → Prop} {B : Nat} {w w' : World} {ρ ρ' : Nat → Option Value} {hp' : Hp} {tr : V → V} {tc : Nat → Bool} (h : FrOk F w ρ) (hs : Step ok B w ρ w' ρ' hp' tr tc) (ht : ∀ b, 1000000 ≤ b → tc b = false) : FrOk F w' ρ' := by
 refine ⟨fun g hg hno => ?_, fun b sv g hb ho => ?_, fun b hb sv hsv => h.hdr b hb sv (by rw [← hs.hdr b (ht b hb)]; exact hsv), Nat.le_trans h.grow hs.grow⟩
 ·rw [hs.keep g (Nat.lt_of_lt_of_le hg h.grow) (fun b sv hb ho => ?_)]
  ·exact h.keep g hg hno
  ·rcases h.fresh b sv g hb ho with hge | ⟨b0, sv0, h0, h1⟩
   ·omega
   ·exact hno b0 sv0 h0 h1
 ·rcases hs.fresh b sv g hb ho with hge | ⟨b0, sv0, h0, h1⟩
  ·exact .inl (Nat.le_trans h.grow hge)
  ·exact h.fresh b0 sv0 g h0 h1
theorem FrOk.sub {F : Fr} {w : World} {ρ ρ' : Nat → Option Value} (h : FrOk F w ρ) (hs : ∀ b sv, ρ' b = some sv → ρ b = some sv) : FrOk F w ρ' :=
 ⟨h.keep, fun b sv g hb ho => h.fresh b sv g (hs b sv hb) ho, fun b hb sv hsv => h.hdr b hb sv (hs b sv hsv), h.grow⟩
structure Sim (J : World → Prop) (ok : Nat → Prop) (w0 : World) (F : Fr) (n : Nat) (σ : St) (a : Act) (w : World) (ρ : Nat → Option Value) : Prop where
 j : ∀ w', Below F.B F.w w' → J w'
 below : Below F.B F.w w
 inv : Inv ok F.B w ρ σ.h
 rel : ∀ t, Rel w (okAt ok F.B ρ w) ρ (σ.e t) (a.tmps.getD t Go.undef)
 size : a.tmps.size = n
 defers : a.defers = F.ds
 fr : FrOk F w ρ
 small : n ≤ 100000
def Stable (J : World → Prop) : Prop := ∀ w w', J w → Below w.heap.size w w' → J w'
section
variable {P : Program} {X : Ctx} {J : World → Prop} {ok : Nat → Prop} {w0 w w' : World} {F : Fr} {n : Nat} {σ : St} {a : Act} {ρ : Nat → Option Value}
theorem Sim.opd (h : Sim J ok w0 F n σ a w ρ) (x : Operand) : Rel w (okAt ok F.B ρ w) ρ (Ev.opd σ.e x) (a.eval x) := by
 cases x with
 | tmp t => exact h.rel t
 | const v => exact .ro (ofC_rel v)
 | global g => exact .ro (.undef _)
 | func f => exact .fn f [] [] rfl (by simp)
theorem e_put (dst : Option Nat) (v : V) (l : List (Nat × V)) (t : Nat) : ((look t (putE dst v l)).getD .undef) = if dst = some t then v else (look t l).getD .undef := by
 cases dst with
 | none => simp [putE]
 | some d =>
  simp only [putE, look_setA]
  by_cases h : t = d
  ·subst h; simp
  ·rw [if_neg h, if_neg (by simp; omega)]
theorem put_getD (a : Act) (dst : Option Nat) (val : Value) (t : Nat) (h : dstOk a.tmps.size dst) : (a.put dst val).tmps.getD t Go.undef = if dst = some t then val else a.tmps.getD t Go.undef := by
 cases dst with
 | none => simp [Act.put]
 | some d =>
  simp only [dstOk] at h
  simp only [Act.put]
  by_cases hd : d = t
  ·subst hd; simp [h]
  ·rw [if_neg (by simpa using hd)]
   simp only [Array.getD_eq_getD_getElem?]
   rw [Array.getElem?_setIfInBounds_ne hd]
theorem put_size (a : Act) (dst : Option Nat) (val : Value) : (a.put dst val).tmps.size = a.tmps.size := by cases dst <;> simp [Act.put]
theorem put_defers (a : Act) (dst : Option Nat) (val : Value) : (a.put dst val).defers = a.defers := by cases dst <;> simp [Act.put]
theorem Sim.step {dst : Option Nat} {v : V} {eff : Eff} {val : Value} {ρ' : Nat → Option Value} (h : Sim J ok w0 F n σ a w ρ) (hd : dstOk n dst) (ht : ∀ b, 1000000 ≤ b → eff.tc b = false) (hs : Step ok F.B w ρ w' ρ' (eff.hp σ.h) eff.tr eff.tc)
  (hv : Rel w' (okAt ok F.B ρ' w') ρ' v val) : Sim J ok w0 F n (σ.app eff dst v) (a.put dst val) w' ρ' := by
 refine ⟨h.j, h.below.trans hs.below, ?_, fun t => ?_, by rw [put_size]; exact h.size, by rw [put_defers]; exact h.defers, h.fr.step hs ht, h.small⟩
 ·have e : (σ.app eff dst v).h = eff.hp σ.h := by
   funext b
   cases eff with
   | none => rfl
   | new l =>
    simp only [St.app, St.h, Eff.hp, either, look_append, look_lookup] <;> (try (cases look b σ.hp <;> rfl))
   | write b' k => simp only [St.app, St.h, Eff.hp, upd, look_setH]
   | change b' k => simp only [St.app, St.h, Eff.hp, upd, look_setH, mapA, look_map, hpScrub]
   | lend b' k => simp only [St.app, St.h, Eff.hp, upd, look_setH, mapA, look_map, hpScrub]
   | writes l => simp only [St.app, St.h, Eff.hp, either, look_setHL] <;> (try (cases l.lookup b <;> rfl))
  rw [e]
  exact hs.inv
 ·rw [put_getD a dst val t (by rw [h.size]; exact hd)]
  have e : (σ.app eff dst v).e t = if dst = some t then v else eff.tr (σ.e t) := by
   cases eff with
   | none => simp only [St.app, St.e, e_put, Eff.tr, id]
   | new l => simp only [St.app, St.e, e_put, Eff.tr, id]
   | write b' k => simp only [St.app, St.e, e_put, Eff.tr, id]
   | change b' k =>
    simp only [St.app, St.e, e_put, Eff.tr, mapA, look_map]
    split
    ·rfl
    ·cases look t σ.env <;> simp [V.scrub]
   | lend b' k =>
    simp only [St.app, St.e, e_put, Eff.tr, mapA, look_map]
    split
    ·rfl
    ·cases look t σ.env <;> simp [V.scrub]
   | writes l => simp only [St.app, St.e, e_put, Eff.tr, id]
  rw [e]
  split
  ·exact hv
  ·exact hs.rel _ _ (h.rel t)
theorem Sim.skip {dst : Option Nat} (h : Sim J ok w0 F n σ a w ρ) (hd : dstOk n dst) : Sim J ok w0 F n (σ.app .none dst (.raw Go.undef)) (a.put dst Go.undef) w ρ :=
 h.step hd (fun _ _ => rfl) (Step.refl h.inv) (.ro (.raw _))
theorem freeze_rel {B : Nat} {b : Nat} {T : TypeId} {sz : Nat} {es : List V} {hp : Hp} {sv : Value} (hI : Inv ok B w ρ hp) (hb : hp b = some (.vec T sz es)) (hr : ρ b = some sv) (hnb : ¬ 1000000 ≤ b) :
  RelD w (okAt ok B (upd ρ b none) w) (.row sz es) sv := by
 obtain ⟨sv', hsv, hpos, hown⟩ := hI.blk b _ hb
 rw [hr] at hsv
 simp at hsv
 subst hsv
 have hk : ∀ g, okAt ok B ρ w g → okAt ok B (upd ρ b none) w g ∧ w.heap[g]? = w.heap[g]? := by
  intro g hg
  refine ⟨?_, rfl⟩
  refine ⟨hg.1, hg.2.1, fun b' s hs => ?_⟩
  unfold upd at hs
  split at hs
  ·cases hs
  ·exact hg.2.2 b' s hs
 rcases hown.form with ⟨ad, he, rfl⟩ | ⟨g, cap, vs, he, hc, hle, hl, hsz, h1, hrr, how⟩
 ·rw [he]; exact .nil _ _
 ·have ho : own sv = some g := by rw [he]; simp [own, hc]
  have hge := hI.own_ge hr ho
  rw [he] at how ⊢
  have hmx : cap ≤ maxLen := by
   rcases how.2 with ⟨hn, _⟩ | ⟨g', cap', cur, heq, _, _, _, hmx, _⟩
   ·cases hn
   ·simp at heq; omega
  refine .row sz es g 0 cap vs ⟨(hI.fr b sv g hr ho).resolve_left hnb, hge.2, fun b' s hs ho' => ?_⟩ hle hmx hl hsz h1 (fun i v hv => ?_) fun i e v hee hv => (hrr i e v hee hv).mono hk
  ·unfold upd at hs
   split at hs
   ·cases hs
   ·rename_i hne; exact hne (hI.inj b' b s sv g hs hr ho' ho)
  ·intro k u hu
   have hk' : k < sz := by have := (List.getElem?_eq_some_iff.1 hu).1; have := hsz v (List.mem_of_getElem? hv); simp at *; omega
   have := how.cells (g := g) rfl (i * sz + k) u (by rw [flat_get hsz hv hk']; exact hu)
   rwa [Addr.add_mid, ← Nat.add_assoc, Nat.zero_add, ← Nat.zero_add (i * sz)] at this
theorem look_filter_ne {α : Type} (b x : Nat) : ∀ l : List (Nat × α), look x (l.filter fun p => p.1 != b) = if x = b then none else look x l
 | [] => by simp [look]
 | (t', v') :: l => by
  rw [List.filter_cons]
  by_cases ht : t' = b
  ·subst ht
   simp only [bne_self_eq_false, Bool.false_eq_true, if_false, look_filter_ne t' x l, look]
   split <;> rfl
  ·have : (t' != b) = true := by simpa using ht
   simp only [this, if_true, look, look_filter_ne b x l]
   split
   ·rename_i h; subst h; rw [if_neg ht]
   ·rfl
theorem Sim.freeze {b : Nat} {σ' : St} (h : Sim J ok w0 F n σ a w ρ) (hf : σ.freeze b = some σ') : ∃ ρ', Sim J ok w0 F n σ' a w ρ' := by
 unfold St.freeze at hf
 split at hf
 ·cases hf
 rename_i hnb
 split at hf
 ·rename_i T sz es hb
  simp at hf
  subst hf
  have hb' : σ.h b = some (.vec T sz es) := hb
  have hch := h.inv.change (w' := w) b (.row sz es) none (Nat.le_refl _) (fun _ _ _ => rfl) (fun sv k hn => by cases hn) (fun sv hsv h1 => .ro (by
   have := freeze_rel h.inv hb' hsv hnb
   simpa using this))
  refine ⟨upd ρ b none, h.j, h.below, ?_, fun t => ?_, h.size, h.defers, h.fr.sub fun b' sv hb' => (by unfold upd at hb'; split at hb' <;> first | cases hb' | exact hb'), h.small⟩
  ·have e : (St.h ⟨mapA (V.scrub b (.row sz es)) σ.env, (mapA (Blk.scrub b (.row sz es)) σ.hp).filter fun p => p.1 != b⟩) = upd (hpScrub b (.row sz es) σ.h) b none := by
    funext x
    simp only [St.h, upd, hpScrub, look_filter_ne, mapA, look_map]
   rw [e]
   exact hch.1
  ·have e : (St.e ⟨mapA (V.scrub b (.row sz es)) σ.env, (mapA (Blk.scrub b (.row sz es)) σ.hp).filter fun p => p.1 != b⟩) t = V.scrub b (.row sz es) (σ.e t) := by
    simp only [St.e, mapA, look_map]
    cases look t σ.env <;> simp [V.scrub]
   rw [e]
   exact hch.2 _ _ (h.rel t)
 ·simp only [Option.some.injEq] at hf
  subst hf
  exact ⟨ρ, h⟩
 ·cases hf
theorem Sim.freezeL : ∀ {bs : List Nat} {σ σ' : St} {ρ : Nat → Option Value}, Sim J ok w0 F n σ a w ρ → Ev.freezeL bs σ = some σ' → ∃ ρ', Sim J ok w0 F n σ' a w ρ'
 | [], σ, σ', ρ, h, hf => by simp [Ev.freezeL] at hf; subst hf; exact ⟨ρ, h⟩
 | b :: bs, σ, σ', ρ, h, hf => by
  unfold Ev.freezeL at hf
  split at hf
  ·rename_i σ1 h1
   obtain ⟨ρ1, hs1⟩ := h.freeze h1
   exact Sim.freezeL hs1 hf
  ·cases hf
theorem look_filter {α : Type} (f : Nat → Bool) (x : Nat) : ∀ l : List (Nat × α), look x (l.filter fun p => f p.1) = if f x = true then look x l else none
 | [] => by simp [look]
 | (t', v') :: l => by
  have ih := look_filter f x l
  rw [List.filter_cons]
  by_cases hx : x = t'
  ·subst hx
   by_cases ht : f x = true
   ·simp only [ht, if_true, look]
   ·have ht' : f x = false := by simpa using ht
    simp only [ht', Bool.false_eq_true, if_false] at ih ⊢
    exact ih
  ·by_cases ht : f t' = true
   ·simp only [ht, if_true, look, if_neg hx]; exact ih
   ·have ht' : f t' = false := by simpa using ht
    simp only [ht', Bool.false_eq_true, if_false, look, if_neg hx]; exact ih
theorem Sim.drop (h : Sim J ok w0 F n σ a w ρ) (ts : List Nat) : Sim J ok w0 F n (σ.drop ts) a w ρ := by
 refine ⟨h.j, h.below, h.inv, fun t => ?_, h.size, h.defers, h.fr, h.small⟩
 have e : (σ.drop ts).e t = if ts.contains t then .undef else σ.e t := by
  simp only [St.e, St.drop]
  rw [look_filter (fun t => !ts.contains t)]
  cases hc : ts.contains t <;> simp
 rw [e]
 split
 ·exact .ro (.undef _)
 ·exact h.rel t
theorem refsInL_iff {bs : List Nat} {cs : List V} : V.refsInL bs cs = true ↔ ∀ c ∈ cs, V.refsIn bs c = true := by
 induction cs with
 | nil => simp [V.refsInL]
 | cons c cs ih => simp [V.refsInL, ih]
def only {α : Type} (bs : List Nat) (f : Nat → Option α) : Nat → Option α := fun b => if bs.contains b = true then f b else none
theorem Rel.only {ok ok' : Nat → Prop} {v : V} {val : Value} {bs : List Nat} (h : Rel w ok ρ v val) (hr : V.refsIn bs v = true) (hk : ∀ g, ok g → ok' g) : Rel w ok' (Ev.only bs ρ) v val := by
 induction h with
 | ro h => exact .ro (h.mono fun g hg => ⟨hk g hg, rfl⟩)
 | ptr b off g h => simp only [V.refsIn] at hr; exact .ptr b off g (by unfold Ev.only; rw [if_pos hr]; exact h)
 | eptr b sz i off g n cap h => simp only [V.refsIn] at hr; exact .eptr b sz i off g n cap (by unfold Ev.only; rw [if_pos hr]; exact h)
 | vec b sv h h1 => simp only [V.refsIn] at hr; exact .vec b sv (by unfold Ev.only; rw [if_pos hr]; exact h) h1
 | sub b sz lo k g n cap c ad h hx => simp only [V.refsIn] at hr; exact .sub b sz lo k g n cap c ad (by unfold Ev.only; rw [if_pos hr]; exact h) hx
 | agg cs vs hl h1 _ ih => rw [V.refsIn, refsInL_iff] at hr; exact .agg cs vs hl h1 fun j c v hc hv => ih j c v hc hv (hr c (List.mem_of_getElem? hc))
 | tup cs vs hl _ ih => rw [V.refsIn, refsInL_iff] at hr; exact .tup cs vs hl fun j c v hc hv => ih j c v hc hv (hr c (List.mem_of_getElem? hc))
 | fn f cs vs hl _ ih => rw [V.refsIn, refsInL_iff] at hr; exact .fn f cs vs hl fun j c v hc hv => ih j c v hc hv (hr c (List.mem_of_getElem? hc))
 | ifc t v val _ ih => rw [V.refsIn] at hr; exact .ifc t v val (ih hr)
theorem okAt_only {B : Nat} {bs : List Nat} {g : Nat} (h : okAt ok B ρ w g) : okAt ok B (Ev.only bs ρ) w g := by
 refine ⟨h.1, h.2.1, fun b sv hr => ?_⟩
 unfold Ev.only at hr
 split at hr
 ·exact h.2.2 b sv hr
 ·cases hr
theorem look_mem {α : Type} {x : Nat} {v : α} : ∀ {l : List (Nat × α)}, look x l = some v → (x, v) ∈ l
 | [], h => by simp [look] at h
 | (t', v') :: l, h => by
  unfold look at h
  split at h
  ·rename_i hx; simp at h; subst h; subst hx; simp
  ·exact List.mem_cons_of_mem _ (look_mem h)
theorem Sim.keep {ts bs : List Nat} (h : Sim J ok w0 F n σ a w ρ) (hc : (σ.keep ts bs).closed bs = true) : Sim J ok w0 F n (σ.keep ts bs) a w (only bs ρ) := by
 unfold St.closed at hc
 simp only [Bool.and_eq_true, List.all_eq_true] at hc
 have he : ∀ t, (σ.keep ts bs).e t = if ts.contains t = true then σ.e t else .undef := by
  intro t
  simp only [St.e, St.keep]
  rw [look_filter (fun t => ts.contains t)]
  split <;> simp
 have hh : ∀ b, (σ.keep ts bs).h b = if bs.contains b = true then σ.h b else none := by
  intro b
  simp only [St.h, St.keep]
  rw [look_filter (fun t => bs.contains t)]
 refine ⟨h.j, h.below, ⟨h.inv.size, ?_, ?_, ?_, h.inv.new, fun b sv g hr ho => h.inv.fr b sv g (by unfold Ev.only at hr; split at hr <;> first | cases hr | exact hr) ho⟩, fun t => ?_, h.size, h.defers, h.fr.sub fun b' sv hb' => (by unfold Ev.only at hb'; split at hb' <;> first | cases hb' | exact hb'), h.small⟩
 ·intro b k hk
  have hkb := hk
  rw [hh] at hk
  split at hk
  ·rename_i hin
   obtain ⟨sv, hr, hb⟩ := h.inv.blk b k hk
   refine ⟨sv, by unfold Ev.only; rw [if_pos hin]; exact hr, ?_⟩
   cases k with
   | box v =>
    obtain ⟨g, val, rfl, h1, h2, h3, h4, h5, h6⟩ := hb
    have hm := hc.2 (b, .box v) (look_mem hkb)
    exact ⟨g, val, rfl, h1, h2, h3, h4, h5, h6.only hm fun g hg => okAt_only hg⟩
   | vec T sz es => exact ⟨hb.1, hb.2.mono (fun g hg => ⟨okAt_only hg, rfl⟩) fun _ _ => rfl⟩
   | map kvs => exact hb
  ·cases hk
 ·intro b sv hr
  unfold Ev.only at hr
  split at hr
  ·rename_i hin
   obtain ⟨k, hk⟩ := h.inv.dom b sv hr
   exact ⟨k, by rw [hh, if_pos hin]; exact hk⟩
  ·cases hr
 ·intro b b' sv sv' g h1 h2
  unfold Ev.only at h1 h2
  split at h1
  ·split at h2
   ·exact h.inv.inj b b' sv sv' g h1 h2
   ·cases h2
  ·cases h1
 ·rw [he]
  split
  ·rename_i hin
   by_cases hu : ∃ v, look t (σ.keep ts bs).env = some v
   ·obtain ⟨v, hv⟩ := hu
    have hm := hc.1 (t, v) (look_mem hv)
    have : σ.e t = v := by have := he t; rw [if_pos hin] at this; rw [← this]; simp [St.e, hv]
    rw [this]
    have hr := h.rel t
    rw [this] at hr
    exact hr.only hm fun g hg => okAt_only hg
   ·have hn : look t (σ.keep ts bs).env = none := by
     cases hl : look t (σ.keep ts bs).env with
     | none => rfl
     | some v => exact (hu ⟨v, hl⟩).elim
    have : σ.e t = .undef := by have := he t; rw [if_pos hin] at this; rw [← this]; simp [St.e, hn]
    rw [this]
    exact .ro (.undef _)
  ·exact .ro (.undef _)
end
/-! ### Regions that draw their order -/
inductive Ref (b : Nat) : V → Prop
 | ptr (o : Nat) : Ref b (.ptr b o)
 | eptr (sz i o : Nat) : Ref b (.eptr b sz i o)
 | vec : Ref b (.vec b)
 | sub (sz lo k : Nat) : Ref b (.sub b sz lo k)
 | agg {cs : List V} {c : V} (hc : c ∈ cs) (h : Ref b c) : Ref b (.agg cs)
 | tup {cs : List V} {c : V} (hc : c ∈ cs) (h : Ref b c) : Ref b (.tup cs)
 | fn {f : FuncId} {cs : List V} {c : V} (hc : c ∈ cs) (h : Ref b c) : Ref b (.fn f cs)
 | ifc {t : TypeId} {v : V} (h : Ref b v) : Ref b (.ifc t v)
theorem mem_get {α β : Type} {cs : List α} {vs : List β} {c : α} (hc : c ∈ cs) (hl : cs.length = vs.length) : ∃ (j : Nat) (v : β), cs[j]? = some c ∧ vs[j]? = some v := by
 obtain ⟨j, hj⟩ := List.getElem?_of_mem hc
 have hlt := (List.getElem?_eq_some_iff.1 hj).1
 exact ⟨j, vs[j]'(by omega), hj, List.getElem?_eq_getElem (by omega)⟩
theorem RelD.no_ref {w : World} {ok : Nat → Prop} {v : V} {val : Value} (h : RelD w ok v val) {b : Nat} (hb : Ref b v) : False := by
 induction h with
 | agg cs vs hl h1 _ ih =>
  cases hb with
  | agg hc hr => obtain ⟨j, v, h1, h2⟩ := mem_get hc hl; exact ih j _ v h1 h2 hr
 | tup cs vs hl _ ih =>
  cases hb with
  | tup hc hr => obtain ⟨j, v, h1, h2⟩ := mem_get hc hl; exact ih j _ v h1 h2 hr
 | fn f cs vs hl _ ih =>
  cases hb with
  | fn hc hr => obtain ⟨j, v, h1, h2⟩ := mem_get hc hl; exact ih j _ v h1 h2 hr
 | ifc t v val _ ih =>
  cases hb with
  | ifc hr => exact ih hr
 | _ => cases hb
theorem Rel.ref {w : World} {ok : Nat → Prop} {ρ : Nat → Option Value} {v : V} {val : Value} (h : Rel w ok ρ v val) {b : Nat} (hb : Ref b v) : ∃ sv, ρ b = some sv := by
 induction h with
 | ro h => exact (h.no_ref hb).elim
 | ptr b' off g h => cases hb; exact ⟨_, h⟩
 | eptr b' sz i off g n cap h => cases hb; exact ⟨_, h⟩
 | vec b' sv h h1 => cases hb; exact ⟨_, h⟩
 | sub b' sz lo k g n cap c ad h hx => cases hb; exact ⟨_, h⟩
 | agg cs vs hl h1 _ ih =>
  cases hb with
  | agg hc hr => obtain ⟨j, v, h1, h2⟩ := mem_get hc hl; exact ih j _ v h1 h2 hr
 | tup cs vs hl _ ih =>
  cases hb with
  | tup hc hr => obtain ⟨j, v, h1, h2⟩ := mem_get hc hl; exact ih j _ v h1 h2 hr
 | fn f cs vs hl _ ih =>
  cases hb with
  | fn hc hr => obtain ⟨j, v, h1, h2⟩ := mem_get hc hl; exact ih j _ v h1 h2 hr
 | ifc t v val _ ih =>
  cases hb with
  | ifc hr => exact ih hr
def Eff.has (b : Nat) : Eff → Bool
 | .new l => l.any fun p => p.1 == b
 | _ => false
def Up1 (h h' : Hp) (v : V) : Prop := ∀ b, Ref b v → ∀ k, h b = some k → h' b = some k
def Up (h h' : Hp) (v : V) : Prop := ∀ b, Ref b v → ∀ k, h b = some k → h' b = some k ∧ ∀ x, k = .box x → Up1 h h' x
theorem Up.up1 {h h' : Hp} {v : V} (hu : Up h h' v) : Up1 h h' v := fun b hb k hk => (hu b hb k hk).1
section
variable {X : Ctx} {e e' : Env} {h h' : Hp} {d : Nat}
theorem mapM_imp {α β : Type} {f g : α → Option β} : ∀ {l : List α} {r : List β}, l.mapM f = some r → (∀ c ∈ l, ∀ y, f c = some y → g c = some y) → l.mapM g = some r
 | [], r, hr, _ => by simpa using hr
 | c :: l, r, hr, hg => by
  rw [List.mapM_cons] at hr ⊢
  cases hf : f c with
  | none => simp [hf] at hr
  | some y =>
   rw [hg c (by simp) y hf]
   cases hl : l.mapM f with
   | none => simp [hf, hl] at hr
   | some ys =>
    rw [mapM_imp hl fun c hc => hg c (List.mem_cons_of_mem _ hc)]
    simpa [hf, hl] using hr
theorem lenV_up {v : V} {r : Nat} (hu : Up1 h h' v) (hr : lenV h v = some r) : lenV h' v = some r := by
 cases v <;> first | exact hr | skip
 rename_i b
 simp only [lenV] at hr ⊢
 cases hb : h b with
 | none => simp [hb] at hr
 | some k => rw [hb] at hr; rw [hu b .vec k hb]; exact hr
theorem mapsV_up {v : V} {r : List (V × V)} (hu : Up1 h h' v) (hr : mapsV h v = some r) : mapsV h' v = some r := by
 cases v <;> first | exact hr | skip
 rename_i b
 simp only [mapsV] at hr ⊢
 cases hb : h b with
 | none => simp [hb] at hr
 | some k => rw [hb] at hr; rw [hu b .vec k hb]; exact hr
theorem lenM_up {t : TypeId} {v : V} {r : Nat} (hu : Up1 h h' v) (hr : lenM X h t v = some r) : lenM X h' t v = some r := by
 unfold lenM at hr ⊢
 split at hr
 ·cases hm : mapsV h v with
  | none => simp [hm] at hr
  | some q => rw [mapsV_up hu hm]; rw [hm] at hr; exact hr
 ·cases hr
theorem lookV_up {T : TypeId} {x i r : V} {ok : Bool} (hu : Up1 h h' x) (hr : lookV X h T x i ok = some r) : lookV X h' T x i ok = some r := by
 unfold lookV at hr ⊢
 cases hm : mapsV h x with
 | none => rw [hm] at hr; split at hr <;> simp_all
 | some q => rw [mapsV_up hu hm]; rw [hm] at hr; exact hr
theorem updV_eff {T : TypeId} {x i y v : V} {eff : Eff} (hr : updV X h T x i y = some (v, eff)) : ∃ b kvs, eff = .write b (.map kvs) := by
 unfold updV at hr
 split at hr <;> first | (cases hr; done) | skip
 split at hr <;> first | (cases hr; done) | skip
 split at hr <;> first | (cases hr; done) | skip
 obtain ⟨rfl, rfl⟩ := some_pair hr
 exact ⟨_, _, rfl⟩
theorem subE_up {b sz m : Nat} {r : TypeId × List V} (hu : ∀ k, h b = some k → h' b = some k) (hr : subE h b sz m = some r) : subE h' b sz m = some r := by
 unfold subE at hr ⊢
 cases hb : h b with
 | none => simp [hb] at hr
 | some k => rw [hb] at hr; rw [hu k hb]; exact hr
theorem elemsV_up {v : V} {r : Nat × List V} (hu : Up1 h h' v) (hr : elemsV h v = some r) : elemsV h' v = some r := by
 cases v <;> first | exact hr | skip
 rename_i b
 simp only [elemsV] at hr ⊢
 cases hb : h b with
 | none => simp [hb] at hr
 | some k => rw [hb] at hr; rw [hu b .vec k hb]; exact hr
 rename_i b sz lo k
 simp only [elemsV, Option.map_eq_some_iff] at hr ⊢
 obtain ⟨p, hp, he⟩ := hr
 exact ⟨p, subE_up (fun k' hk => hu b (.sub sz lo k) k' hk) hp, he⟩
theorem ownP_up {v : V} {r : Nat × Nat × Nat × Nat} (hu : Up1 h h' v) (hr : ownP h v = some r) : ownP h' v = some r := by
 cases v <;> first | exact hr | skip
 rename_i b
 simp only [ownP] at hr ⊢
 cases hb : h b with
 | none => simp [hb] at hr
 | some k => rw [hb] at hr; rw [hu b .vec k hb]; exact hr
theorem sliceW_up {t : TypeId} {x r : V} {lo hi mx : Option V} (hu : Up1 h h' x) (hr : sliceW X h t x lo hi mx = some r) : sliceW X h' t x lo hi mx = some r := by
 unfold sliceW at hr ⊢
 cases ho : ownP h x with
 | some q => rw [ownP_up hu ho]; rw [ho] at hr; exact hr
 | none =>
  rw [ho] at hr
  simp only at hr
  have hx : ownP h' x = none := by
   cases x <;> first | rfl | (simp [ownP] at ho; done) | (exfalso; unfold sliceV at hr; split at hr <;> simp_all; done)
  rw [hx]
  exact hr
theorem copyV_eff {t : TypeId} {s x v : V} {eff : Eff} (hev : copyV X h t s x = some (v, eff)) : eff = .none ∨ ∃ b k, eff = .write b k := by
 unfold copyV at hev
 repeat' (first | (cases hev; done) | (obtain ⟨rfl, rfl⟩ := some_pair hev; first | exact .inl rfl | exact .inr ⟨_, _, rfl⟩) | split at hev)
theorem clearV_eff {t : TypeId} {s v : V} {eff : Eff} (hev : clearV X h t s = some (v, eff)) : eff = .none ∨ ∃ b k, eff = .write b k := by
 unfold clearV at hev
 repeat' (first | (cases hev; done) | (obtain ⟨rfl, rfl⟩ := some_pair hev; first | exact .inl rfl | exact .inr ⟨_, _, rfl⟩) | split at hev)
theorem copyV_up {t : TypeId} {s x v : V} {eff : Eff} (hs : Up1 h h' s) (hx : Up1 h h' x) (hev : copyV X h t s x = some (v, eff)) (hm : eff.mild = true) : copyV X h' t s x = some (v, eff) := by
 unfold copyV at hev ⊢
 split at hev <;> first | (cases hev; done) | skip
 rename_i e q1 q2 q3 hT
 try simp only [hT]
 split at hev <;> first | (cases hev; done) | skip
 rename_i i sz' xs sz0 l hi hxe hse
 simp only [hi, elemsV_up hx hxe, elemsV_up hs hse]
 split at hev
 ·rename_i h0
  rw [if_pos h0]
  exact hev
 ·exfalso
  split at hev <;> first | (cases hev; done) | skip
  split at hev <;> first | (cases hev; done) | skip
  split at hev <;> first | (cases hev; done) | skip
  obtain ⟨rfl, rfl⟩ := some_pair hev
  simp [Eff.mild] at hm
theorem copyV_up1 {t : TypeId} {s x v : V} {eff : Eff} (hs : Up1 h h' s) (hx : Up1 h h' x) (hev : copyV X h t s x = some (v, eff)) : copyV X h' t s x = some (v, eff) := by
 unfold copyV at hev ⊢
 split at hev <;> first | (cases hev; done) | skip
 rename_i e q1 q2 q3 hT
 try simp only [hT]
 split at hev <;> first | (cases hev; done) | skip
 rename_i i sz' xs sz0 l hi hxe hse
 simp only [hi, elemsV_up hx hxe, elemsV_up hs hse]
 split at hev
 ·rename_i h0
  rw [if_pos h0]
  exact hev
 ·rename_i h0
  rw [if_neg h0]
  split at hev <;> first | (cases hev; done) | skip
  rename_i b sz lo k hop
  rw [ownP_up hs hop]
  simp only
  split at hev <;> first | (cases hev; done) | skip
  rename_i T es hsub
  have hu : ∀ k', h b = some k' → h' b = some k' := fun k' hk => by
   refine hs b ?_ k' hk
   unfold ownP at hop
   split at hop
   ·split at hop
    ·split at hop
     ·simp only [Option.some.injEq, Prod.mk.injEq] at hop
      rw [← hop.1]; exact .vec
     ·cases hop
    ·cases hop
   ·simp only [Option.some.injEq, Prod.mk.injEq] at hop
    rw [← hop.1]; exact .sub _ _ _
   ·cases hop
  rw [subE_up hu hsub]
  exact hev
theorem clearV_up {t : TypeId} {s v : V} {eff : Eff} (hs : Up1 h h' s) (hev : clearV X h t s = some (v, eff)) (hm : eff.mild = true) : clearV X h' t s = some (v, eff) := by
 unfold clearV at hev ⊢
 split at hev <;> first | (cases hev; done) | skip
 rename_i e q1 q2 q3 hT
 try simp only [hT]
 split at hev <;> first | (cases hev; done) | skip
 rename_i i sz0 l hi hse
 simp only [hi, elemsV_up hs hse]
 split at hev
 ·rename_i h0
  rw [if_pos h0]
  exact hev
 ·exfalso
  split at hev <;> first | (cases hev; done) | skip
  split at hev <;> first | (cases hev; done) | skip
  split at hev <;> first | (cases hev; done) | skip
  obtain ⟨rfl, rfl⟩ := some_pair hev
  simp [Eff.mild] at hm
theorem elemsZ_up {n : Nat} {v : V} {r : Nat × List V} (hu : Up1 h h' v) (hr : elemsZ n h v = some r) : elemsZ n h' v = some r := by
 cases v <;> first | exact hr | exact elemsV_up hu hr | skip
 rename_i v
 cases v <;> first | exact hr | skip
 rename_i a k c
 cases k <;> exact hr
theorem nonE_up {v : V} {b : Bool} (hu : Up1 h h' v) (hr : nonE h v = some b) : nonE h' v = some b := by
 cases v <;> first | exact hr | skip
 rotate_left
 ·rename_i v
  cases v <;> first | exact hr | skip
  rename_i a k c
  cases a <;> exact hr
 rename_i b'
 simp only [nonE] at hr ⊢
 cases hb : h b' with
 | none => simp [hb] at hr
 | some k => rw [hb] at hr; rw [hu b' .vec k hb]; exact hr
theorem nilEq_up {T : TypeId} {x y : V} {b : Bool} (hx : Up1 h h' x) (hy : Up1 h h' y) (hr : nilEq X h T x y = some b) : nilEq X h' T x y = some b := by
 unfold nilEq at hr ⊢
 split at hr
 ·split at hr
  ·split at hr
   ·exact hr
   ·rename_i hne
    cases y <;> first | exact absurd rfl hne | exact nonE_up hy hr | skip
  ·rename_i hne
   split at hr
   ·cases x <;> first | exact absurd rfl hne | exact nonE_up hx hr | skip
   ·cases hr
 ·cases hr
theorem eqH_up {T : TypeId} {x y : V} {b : Bool} (hx : Up1 h h' x) (hy : Up1 h h' y) (hr : eqH X h T x y = some b) : eqH X h' T x y = some b := by
 unfold eqH at hr ⊢
 split at hr
 ·exact hr
 ·exact nilEq_up hx hy hr
theorem orE_up {T : TypeId} {x y : V} {z : Operand} {b : Bool} (hx : Up1 h h' x) (hy : Up1 h h' y) (hr : orE (eqH X h T x y) (ifcQ X T x z) = some b) : orE (eqH X h' T x y) (ifcQ X T x z) = some b := by
 rcases orE_some' hr with hr | ⟨_, hr⟩
 ·rw [eqH_up hx hy hr]; rfl
 ·obtain ⟨_, s1, b1, z1, hT, _⟩ := ifcQ_inv hr
  have e : eqH X h' T x y = none := by unfold eqH eqV nilEq; simp only [hT]
  rw [e]; exact hr
theorem roC_up {v r : V} (hu : Up1 h h' v) (hr : roC h v = some r) : roC h' v = some r := by
 cases v <;> first | exact hr | skip
 rename_i b
 simp only [roC] at hr ⊢
 cases hb : h b with
 | none => simp [hb] at hr
 | some k => rw [hb] at hr; rw [hu b .vec k hb]; exact hr
 rename_i b sz lo k
 simp only [roC, partR, Option.map_eq_some_iff] at hr ⊢
 obtain ⟨p, hp, he⟩ := hr
 exact ⟨p, subE_up (fun k' hk => hu b (.sub sz lo k) k' hk) hp, he⟩
theorem ro0_up {v r : V} (hu : Up1 h h' v) (hr : ro0 h v = some r) : ro0 h' v = some r := by
 cases v <;> first | exact roC_up hu hr | skip
 rename_i cs
 simp only [ro0] at hr ⊢
 cases hm : cs.mapM (roC h) with
 | none => simp [hm] at hr
 | some ys =>
  rw [mapM_imp hm fun c hc y hy => roC_up (fun b hb k hk => hu b (.agg hc hb) k hk) hy]
  rw [hm] at hr
  exact hr
theorem ro1_up {v r : V} (hu : Up h h' v) (hr : ro1 h v = some r) : ro1 h' v = some r := by
 cases v <;> first | exact ro0_up hu.up1 hr | skip
 rename_i b off
 simp only [ro1] at hr ⊢
 cases hb : h b with
 | none => simp [hb] at hr
 | some k =>
  obtain ⟨hk, hx⟩ := hu b (.ptr off) k hb
  rw [hb] at hr
  rw [hk]
  cases k with
  | vec T sz es => exact hr
  | map kvs => exact hr
  | box v =>
   simp only at hr ⊢
   split at hr
   ·rename_i hs
    rw [if_pos hs]
    cases h0 : ro0 h v with
    | none => simp [h0] at hr
    | some v' => rw [ro0_up (hx v rfl) h0]; rw [h0] at hr; exact hr
   ·cases hr
theorem ro_up {v r : V} (hu : Up h h' v) (hr : ro h v = some r) : ro h' v = some r := by
 cases v <;> first | exact ro1_up hu hr | skip
 rename_i f cs
 simp only [ro] at hr ⊢
 cases hm : cs.mapM (ro1 h) with
 | none => simp [hm] at hr
 | some ys =>
  rw [mapM_imp hm fun c hc y hy => ro1_up (fun b hb k hk => hu b (.fn hc hb) k hk) hy]
  rw [hm] at hr
  exact hr
theorem fresh_up {l : List (Nat × Blk)} (hl : fresh h l = true) (hfr : ∀ b, (Eff.new l).has b = true → h' b = none) : fresh h' l = true := by
 simp only [fresh, List.all_eq_true] at hl ⊢
 intro p hp
 have := hl p hp
 simp only [Bool.and_eq_true] at this ⊢
 rw [hfr p.1 (by simp only [Eff.has, List.any_eq_true]; exact ⟨p, hp, by simp⟩)]
 exact ⟨rfl, this.2⟩
theorem new1_up {n : Nat} {k : Blk} (hfr : ∀ b, (Eff.new [(n, k)]).has b = true → h' b = none) : (h' n).isNone = true := by
 rw [hfr n (by simp [Eff.has])]; rfl
theorem callV_up {f : V} {args : List V} {v : V} {eff : Eff} (hf : Up h h' f) (ha : ∀ x ∈ args, Up h h' x) (hev : callV X h d f args = some (v, eff)) (hfr : ∀ b, eff.has b = true → h' b = none) : callV X h' d f args = some (v, eff) := by
 unfold callV at hev ⊢
 cases f <;> first | (cases hev; done) | skip
 rename_i g cs
 simp only at hev ⊢
 split at hev
 ·rename_i hd
  rw [if_pos hd]
  cases hphi : X.Φ g (args ++ cs) with
  | none => simp [hphi] at hev
  | some p =>
   obtain ⟨r, bs⟩ := p
   simp only [hphi] at hev ⊢
   split at hev
   ·rename_i hc
    simp only [Option.some.injEq, Prod.mk.injEq] at hev
    obtain ⟨rfl, rfl⟩ := hev
    simp only [Bool.and_eq_true] at hc
    rw [if_pos (by simp only [Bool.and_eq_true]; exact ⟨fresh_up hc.1 hfr, hc.2⟩)]
   ·cases hev
 ·rename_i hd
  rw [if_neg hd]
  cases hm : (args ++ cs).mapM (ro h) with
  | none => simp [hm] at hev
  | some as =>
   have hm' : (args ++ cs).mapM (ro h') = some as := mapM_imp hm fun c hc y hy => ro_up (by
    rcases List.mem_append.1 hc with hc | hc
    ·exact ha c hc
    ·exact fun b hb k hk => hf b (.fn hc hb) k hk) hy
   simp only [hm] at hev
   simp only [hm']
   cases hphi : X.Φ g as with
   | none => simp [hphi] at hev
   | some p =>
    obtain ⟨r, bs⟩ := p
    simp only [hphi] at hev ⊢
    split at hev
    ·rename_i hc
     simp only [Option.some.injEq, Prod.mk.injEq] at hev
     obtain ⟨rfl, rfl⟩ := hev
     simp only [Bool.and_eq_true] at hc
     rw [if_pos (by simp only [Bool.and_eq_true]; exact ⟨⟨fresh_up hc.1.1 hfr, hc.1.2⟩, hc.2⟩)]
    ·cases hev
theorem lendV_not {L : TypeId → Nat → List V → List V → Option (List V)} {args cs : List V} {v : V} {eff : Eff} (hev : lendV L h args cs = some (v, eff)) : ∃ b k, eff = .lend b k := by
 unfold lendV at hev
 split at hev <;> first | (cases hev; done) | skip
 split at hev <;> first | (cases hev; done) | skip
 split at hev <;> first | (cases hev; done) | skip
 split at hev <;> first | (cases hev; done) | skip
 split at hev <;> first | (cases hev; done) | skip
 obtain ⟨rfl, rfl⟩ := some_pair hev
 exact ⟨_, _, rfl⟩
theorem takeV_not {L : TypeId → Nat → List V → List V → Option (List V)} {args cs : List V} {v : V} {eff : Eff} (hev : takeV L h args cs = some (v, eff)) : ∃ b k, b < 1000000 ∧ eff = .change b k := by
 unfold takeV at hev
 split at hev <;> first | (cases hev; done) | skip
 split at hev <;> first | (cases hev; done) | skip
 split at hev <;> first | (cases hev; done) | skip
 split at hev <;> first | (cases hev; done) | skip
 split at hev <;> first | (cases hev; done) | skip
 rename_i hb
 obtain ⟨rfl, rfl⟩ := some_pair hev
 exact ⟨_, _, hb, rfl⟩
theorem mutV_not {M : List Blk → List V → Option (V × List Blk)} {d : Nat} {ns : List Nat} {as : List V} {v : V} {eff : Eff} (hev : mutV M h d ns as = some (v, eff)) : ∃ l, eff = .writes l := by
 unfold mutV at hev
 split at hev <;> first | (cases hev; done) | skip
 split at hev <;> first | (cases hev; done) | skip
 split at hev <;> first | (cases hev; done) | skip
 split at hev <;> first | (cases hev; done) | skip
 split at hev <;> first | (cases hev; done) | skip
 obtain ⟨rfl, rfl⟩ := some_pair hev
 exact ⟨_, rfl⟩
theorem sortV_not {S : TypeId → FuncId → Nat → TypeId → Nat → List V → Option (List V)} {as : List V} {v : V} {eff : Eff} (hev : sortV S h as = some (v, eff)) : ∃ b k, eff = .lend b k := by
 unfold sortV at hev
 split at hev <;> first | (cases hev; done) | skip
 split at hev <;> first | (cases hev; done) | skip
 split at hev <;> first | (cases hev; done) | skip
 split at hev <;> first | (cases hev; done) | skip
 obtain ⟨rfl, rfl⟩ := some_pair hev
 exact ⟨_, _, rfl⟩
theorem callW_up {f : V} {args : List V} {v : V} {eff : Eff} (hf : Up h h' f) (ha : ∀ x ∈ args, Up h h' x) (hev : callW X h d f args = some (v, eff)) (hm : eff.mild = true) (hfr : ∀ b, eff.has b = true → h' b = none) : callW X h' d f args = some (v, eff) := by
 unfold callW at hev ⊢
 cases f <;> first | exact callV_up hf ha hev hfr | skip
 rename_i g cs
 simp only at hev ⊢
 cases hM : X.M g with
 | some M => rw [hM] at hev; obtain ⟨l, rfl⟩ := mutV_not hev; cases hm
 | none =>
 rw [hM] at hev
 cases hS : X.S g with
 | some S => rw [hS] at hev; obtain ⟨b, k, rfl⟩ := sortV_not hev; cases hm
 | none =>
 rw [hS] at hev
 simp only at hev ⊢
 cases hL : X.Λ g with
 | none => rw [hL] at hev; exact callV_up hf ha hev hfr
 | some L =>
  rw [hL] at hev
  obtain ⟨b0, L⟩ := L
  cases b0 with
  | false =>
   obtain ⟨b, k, rfl⟩ := lendV_not hev
   cases hm
  | true =>
   obtain ⟨b, k, _, rfl⟩ := takeV_not hev
   cases hm
theorem appendV_up {t t2 : TypeId} {s x v : V} {eff : Eff} (hx : Up h h' x) (hev : appendV X h d t t2 s x = some (v, eff)) (hm : eff.mild = true) (hfr : ∀ b, eff.has b = true → h' b = none) : appendV X h' d t t2 s x = some (v, eff) := by
 unfold appendV at hev ⊢
 split at hev <;> first | (cases hev; done) | skip
 split at hev <;> first | (cases hev; done) | skip
 split at hev <;> first | (cases hev; done) | skip
 rename_i hs
 simp only [*, if_true]
 cases s <;> first | (simp at hev; done) | skip
 ·simp only at hev ⊢
  rename_i i0 _
  cases he : elemsZ i0.size h x with
  | none => simp [he] at hev
  | some p =>
   obtain ⟨sz, es⟩ := p
   rw [elemsZ_up hx.up1 he]
   simp only [he] at hev ⊢
   split at hev
   ·rename_i hc
    simp only [Option.some.injEq, Prod.mk.injEq] at hev
    obtain ⟨rfl, rfl⟩ := hev
    rw [if_pos ⟨hc.1, hc.2.1, hc.2.2.1, hc.2.2.2.1, new1_up hfr⟩]
   ·cases hev
 ·simp only at hev
  split at hev
  ·split at hev
   ·simp only [Option.some.injEq, Prod.mk.injEq] at hev
    obtain ⟨rfl, rfl⟩ := hev
    simp [Eff.mild] at hm
   ·cases hev
  ·cases hev
theorem makeV_up {t : TypeId} {x y v : V} {eff : Eff} (hev : makeV X h d t x y = some (v, eff)) (hfr : ∀ b, eff.has b = true → h' b = none) : makeV X h' d t x y = some (v, eff) := by
 unfold makeV at hev ⊢
 split at hev <;> first | (cases hev; done) | skip
 split at hev <;> first | (cases hev; done) | skip
 split at hev <;> first | (cases hev; done) | skip
 split at hev <;> first | (cases hev; done) | skip
 rename_i hc
 simp only [Option.some.injEq, Prod.mk.injEq] at hev
 obtain ⟨rfl, rfl⟩ := hev
 try simp only []
 rw [if_pos ⟨hc.1, hc.2.1, hc.2.2.1, hc.2.2.2.1, hc.2.2.2.2.1, new1_up hfr, hc.2.2.2.2.2.2⟩]
end
section
variable {X : Ctx} {e e' : Env} {h h' : Hp} {d : Nat}
theorem mkMapV_up {T : TypeId} {r : Option V} {v : V} {eff : Eff} (hev : mkMapV X h d T r = some (v, eff)) (hfr : ∀ b, eff.has b = true → h' b = none) : mkMapV X h' d T r = some (v, eff) := by
 unfold mkMapV at hev ⊢
 split at hev <;> first | (cases hev; done) | skip
 rename_i p hp
 try simp only [hp]
 split at hev
 ·rename_i hc
  obtain ⟨rfl, rfl⟩ := some_pair hev
  simp only [Bool.and_eq_true] at hc
  rw [if_pos (by rw [Bool.and_eq_true]; exact ⟨hc.1, new1_up hfr⟩)]
 ·cases hev
end
section
variable {X : Ctx} {e e' : Env} {h h' : Hp} {d : Nat}
theorem evalOp_mono {op : Op} {v : V} {eff : Eff} (hev : evalOp X e h d op = some (v, eff)) (hm : eff.mild = true) (hup : ∀ x ∈ op.operands, Up h h' (opd e x)) (hfr : ∀ b, eff.has b = true → h' b = none) :
  evalOp X e h' d op = some (v, eff) := by
 cases op with
 | assign x =>
  simp only [evalOp] at hev ⊢
  split at hev
  ·rename_i T sz hn
   try simp only [hn]
   split at hev
   ·rename_i hz
    try simp only [hz]
    split at hev
    ·rename_i hc
     simp only [Option.some.injEq, Prod.mk.injEq] at hev
     obtain ⟨rfl, rfl⟩ := hev
     rw [if_pos ⟨new1_up hfr, hc.2⟩]
    ·cases hev
   ·exact hev
  ·rename_i hn
   try simp only [hn]
   exact hev
 | alloc T =>
  simp only [evalOp] at hev ⊢
  split at hev
  ·rename_i i hi
   try simp only [hi]
   split at hev
   ·rename_i hc
    simp only [Option.some.injEq, Prod.mk.injEq] at hev
    obtain ⟨rfl, rfl⟩ := hev
    rw [if_pos ⟨new1_up hfr, hc.2⟩]
   ·cases hev
  ·cases hev
 | box T x =>
  simp only [evalOp] at hev ⊢
  split at hev
  ·rename_i hc
   simp only [Option.some.injEq, Prod.mk.injEq] at hev
   obtain ⟨rfl, rfl⟩ := hev
   rw [if_pos ⟨new1_up hfr, hc.2⟩]
  ·cases hev
 | buildSlice T n ps =>
  simp only [evalOp] at hev ⊢
  cases hnv : X.nilv d with
  | some q => rw [hnv] at hev; exact hev
  | none =>
  rw [hnv] at hev
  simp only at hev ⊢
  split at hev
  ·rename_i e1 s1 b1 z1 hT
   try simp only [hT]
   split at hev
   ·rename_i i hi
    try simp only [hi]
    split at hev
    ·rename_i hc
     simp only [Option.some.injEq, Prod.mk.injEq] at hev
     obtain ⟨rfl, rfl⟩ := hev
     rw [if_pos ⟨new1_up hfr, hc.2⟩]
    ·cases hev
   ·cases hev
  ·cases hev
 | load T x =>
  have hux := hup x (by simp [Op.operands])
  simp only [evalOp] at hev ⊢
  split at hev
  ·rename_i i hi
   try simp only [hi]
   split at hev
   ·rename_i v1 off hv
    try simp only [hv]
    exact hev
   ·rename_i b off hv
    try simp only [hv]
    cases hb : h b with
    | none => simp [hb] at hev
    | some k => rw [hb] at hev; rw [(hux b (by rw [hv]; exact .ptr off) k hb).1]; exact hev
   ·rename_i b sz j off hv
    try simp only [hv]
    cases hb : h b with
    | none => simp [hb] at hev
    | some k => rw [hb] at hev; rw [(hux b (by rw [hv]; exact .eptr sz j off) k hb).1]; exact hev
   ·cases hev
  ·cases hev
 | store T a x =>
  exfalso
  simp only [evalOp] at hev
  split at hev <;> first | (cases hev; done) | skip
  split at hev <;> first | (cases hev; done) | skip
  split at hev <;> first | (cases hev; done) | skip
  ·split at hev <;> first | (cases hev; done) | skip
   split at hev <;> first | (cases hev; done) | skip
   simp only [Option.some.injEq, Prod.mk.injEq] at hev
   obtain ⟨rfl, rfl⟩ := hev
   simp [Eff.mild] at hm
  ·split at hev <;> first | (cases hev; done) | skip
   split at hev <;> first | (cases hev; done) | skip
   split at hev <;> first | (cases hev; done) | skip
   split at hev <;> first | (cases hev; done) | skip
   simp only [Option.some.injEq, Prod.mk.injEq] at hev
   obtain ⟨rfl, rfl⟩ := hev
   simp [Eff.mild] at hm
 | makeSlice T l c => simp only [evalOp] at hev ⊢; exact makeV_up hev hfr
 | makeInterface T x => simp only [evalOp] at hev ⊢; exact hev
 | makeMap T r => simp only [evalOp] at hev ⊢; exact mkMapV_up hev hfr
 | lookup T x i ok =>
  have hux := (hup x (by simp [Op.operands])).up1
  simp only [evalOp, Option.map_eq_some_iff] at hev ⊢
  obtain ⟨q, hq, he⟩ := hev
  exact ⟨q, lookV_up hux hq, he⟩
 | mapUpdate T m k v =>
  exfalso
  simp only [evalOp] at hev
  obtain ⟨b, kvs, rfl⟩ := updV_eff hev
  simp [Eff.mild] at hm
 | indexAddr T x i =>
  have hux := hup x (by simp [Op.operands])
  simp only [evalOp] at hev ⊢
  split at hev
  ·rename_i e1 s1 b1 z1 ik n hT hi
   try simp only [hT, hi]
   split at hev
   ·rename_i ie sz es hT2 hx
    try simp only [hT2, hx]
    exact hev
   ·rename_i ie b hT2 hx
    try simp only [hT2, hx]
    cases hb : h b with
    | none => simp [hb] at hev
    | some k => rw [hb] at hev; rw [(hux b (by rw [hx]; exact .vec) k hb).1]; exact hev
   ·rename_i ie b sz lo k hT2 hx
    try simp only [hT2, hx]
    exact hev
   ·cases hev
  ·rename_i m e1 s1 b1 z1 ik n hT hi
   try simp only [hT, hi]
   exact hev
  ·cases hev
 | slice T x lo hi mx =>
  have hux := (hup x (by simp [Op.operands])).up1
  simp only [evalOp, Option.map_eq_some_iff] at hev ⊢
  obtain ⟨q, hq, he⟩ := hev
  exact ⟨q, sliceW_up hux hq, he⟩
 | call c =>
  obtain ⟨cal, args, tys⟩ := c
  cases cal with
  | value f =>
   simp only [evalOp] at hev ⊢
   refine callW_up (hup f (by simp [Op.operands, Call.operands])) (fun x hx => ?_) hev hm hfr
   obtain ⟨y, hy, rfl⟩ := List.mem_map.1 hx
   exact hup y (by simp [Op.operands, Call.operands]; simp at hy; exact .inr hy)
  | invoke r m => simp [evalOp] at hev
  | builtin b =>
   cases b <;> first | exact hev | skip
   ·simp only [evalOp] at hev ⊢
    split at hev <;> first | (cases hev; done) | skip
    rename_i s x t t2 ha ht
    try simp only [ha, ht]
    exact appendV_up (hup x (by
     have : x ∈ args.toList := by rw [ha]; simp
     simp [Op.operands, Call.operands]; simpa using this)) hev hm hfr
   ·simp only [evalOp] at hev ⊢
    split at hev <;> first | (cases hev; done) | skip
    rename_i s t ha ht
    try simp only [ha, ht]
    exact clearV_up (hup s (by
     have : s ∈ args.toList := by rw [ha]; simp
     simp [Op.operands, Call.operands]; simpa using this)).up1 hev hm
   ·simp only [evalOp] at hev ⊢
    split at hev <;> first | (cases hev; done) | skip
    rename_i s x t t2 ha ht
    try simp only [ha, ht]
    exact copyV_up (hup s (by
     have : s ∈ args.toList := by rw [ha]; simp
     simp [Op.operands, Call.operands]; simpa using this)).up1 (hup x (by
     have : x ∈ args.toList := by rw [ha]; simp
     simp [Op.operands, Call.operands]; simpa using this)).up1 hev hm
   ·simp only [evalOp] at hev ⊢
    split at hev <;> first | (cases hev; done) | skip
    rename_i x t ha ht
    try simp only [ha, ht]
    have hux : Up1 h h' (opd e x) := (hup x (by
     have : x ∈ args.toList := by rw [ha]; simp
     simp [Op.operands, Call.operands]; simpa using this)).up1
    cases hmm : lenM X h t (opd e x) with
    | some n => rw [lenM_up hux hmm]; rw [hmm] at hev; exact hev
    | none =>
     rw [hmm] at hev
     simp only at hev
     cases hl : lenV h (opd e x) with
     | none => simp [hl] at hev
     | some r =>
      rw [lenV_up hux hl]
      rw [hl] at hev
      split at hev
      ·rename_i hT hn
       simp only [lenM, hT]
       exact hev
      ·rename_i hT hn
       simp only [lenM, hT]
       exact hev
      ·cases hev
 | makeFunc f first cs => cases f <;> exact hev
 | binOp op T x y U =>
  have hx := (hup x (by simp [Op.operands])).up1
  have hy := (hup y (by simp [Op.operands])).up1
  simp only [evalOp] at hev ⊢
  cases hb : binV op (opd e x) (opd e y) with
  | some v => rw [hb] at hev; exact hev
  | none =>
   rw [hb] at hev
   simp only at hev ⊢
   cases op <;> first | exact hev | skip
   all_goals
    simp only [Option.map_eq_some_iff] at hev ⊢
    obtain ⟨q, hq, he⟩ := hev
    exact ⟨q, orE_up hx hy hq, he⟩
 | _ => exact hev
theorem evalOp_env {op : Op} (ho : ∀ x ∈ op.operands, opd e' x = opd e x) : evalOp X e' h d op = evalOp X e h d op := by
 have pairs : ∀ ps : Array (Nat × Operand), (∀ x ∈ (ps.toList.map (·.2)).toArray, opd e' x = opd e x) → (ps.toList.map fun p => (p.1, opd e' p.2)) = (ps.toList.map fun p => (p.1, opd e p.2)) := fun ps hp =>
  List.map_congr_left fun p hm => by rw [hp p.2 (by simp; exact ⟨p.1, by simpa using hm⟩)]
 cases op <;> simp only [Op.operands] at ho <;> simp only [evalOp]
 case build t ps => rw [pairs ps ho]
 case buildSlice t n ps =>
  have p2 : (ps.toList.zipIdx.all fun (p, j) => p.1 == j && V.data (opd e' p.2) && stor (opd e' p.2) && (opd e' p.2).cells.length == (match X.T t with | some ⟨.slice el, _, _, _⟩ => (match X.T el with | some i => i.size | none => 0) | _ => 0)) = (ps.toList.zipIdx.all fun (p, j) => p.1 == j && V.data (opd e p.2) && stor (opd e p.2) && (opd e p.2).cells.length == (match X.T t with | some ⟨.slice el, _, _, _⟩ => (match X.T el with | some i => i.size | none => 0) | _ => 0)) := by
   rw [Bool.eq_iff_iff, List.all_eq_true, List.all_eq_true]
   have key : ∀ q ∈ ps.toList.zipIdx, opd e' q.1.2 = opd e q.1.2 := fun q hq => ho q.1.2 (by
    have := (List.mem_zipIdx hq).2.2
    simp only [List.mem_toArray, List.mem_map]
    exact ⟨q.1, by rw [this]; exact List.getElem_mem _, rfl⟩)
   constructor
   ·intro hall q hq
    have := hall q hq
    simp only [key q hq] at this
    exact this
   ·intro hall q hq
    have := hall q hq
    simp only [← key q hq] at this
    exact this
  have p3 : (ps.toList.map fun p => opd e' p.2) = (ps.toList.map fun p => opd e p.2) := List.map_congr_left fun p hm => ho p.2 (by simp; exact ⟨p.1, by simpa using hm⟩)
  cases X.nilv d with
  | some q =>
   simp only [bornV]
   split
   ·rename_i el s1 b1 z1 hT
    simp only [hT] at p2
    split
    ·rename_i i hi
     simp only [hi] at p2
     rw [p3]
     split
     ·rename_i hc
      rw [p2] at hc
      rw [if_pos hc]
     ·rename_i hc
      rw [p2] at hc
      rw [if_neg hc]
    ·rfl
   ·rfl
  | none =>
   simp only []
   split
   ·rename_i el s1 b1 z1 hT
    simp only [hT] at p2
    split
    ·rename_i i hi
     simp only [hi] at p2
     rw [p3]
     split
     ·rename_i hc
      rw [p2] at hc
      rw [if_pos hc]
     ·rename_i hc
      rw [p2] at hc
      rw [if_neg hc]
    ·rfl
   ·rfl
 case makeFunc f first captured =>
  cases f <;> first | rfl | skip
  simp only []
  have : captured.toList.map (opd e') = captured.toList.map (opd e) := List.map_congr_left fun x hx => ho x (by simp; exact .inr (by simpa using hx))
  rw [this]
 case call c =>
  obtain ⟨cal, args, tys⟩ := c
  cases cal with
  | value f =>
   have h1 := ho f (by simp [Call.operands])
   have h2 : args.toList.map (opd e') = args.toList.map (opd e) := List.map_congr_left fun x hx => ho x (by simp [Call.operands]; exact .inr (by simpa using hx))
   simp only [h1, h2]
  | invoke r m => rfl
  | builtin b =>
   have h2 : ∀ x ∈ args.toList, opd e' x = opd e x := fun x hx => ho x (by simp [Call.operands]; simpa using hx)
   cases b <;> simp only []
   all_goals first
    | rfl
    | (split <;> first | rfl | (rename_i ha; rw [ha] at h2; simp only [List.mem_cons, List.not_mem_nil, or_false, forall_eq_or_imp, forall_eq] at h2; simp only [h2]) | (rename_i ha _; rw [ha] at h2; simp only [List.mem_cons, List.not_mem_nil, or_false, forall_eq_or_imp, forall_eq] at h2; simp only [h2]))
 case makeMap t r =>
  cases r with
  | none => rfl
  | some x => simp only [Option.map_some]; rw [ho x (by simp)]
 case slice t x lo hi mx => cases lo <;> cases hi <;> cases mx <;> simp_all
 all_goals (first | rfl | (simp_all; done))
end
section
variable {X : Ctx} {e : Env} {h : Hp} {d : Nat}
theorem has1 {n b : Nat} {k : Blk} (hb : (Eff.new [(n, k)]).has b = true) : b = n := by simp [Eff.has] at hb; exact hb.symm
theorem isNone_eq {n : Nat} (hn : (h n).isNone = true) : h n = none := by simpa using hn
theorem callV_new {f : V} {args : List V} {v : V} {eff : Eff} {b : Nat} (hev : callV X h d f args = some (v, eff)) (hb : eff.has b = true) : h b = none := by
 have key : ∀ l, fresh h l = true → (Eff.new l).has b = true → h b = none := by
  intro l hl hb
  simp only [fresh, List.all_eq_true] at hl
  simp only [Eff.has, List.any_eq_true] at hb
  obtain ⟨p, hp, he⟩ := hb
  have := hl p hp
  simp at he
  subst he
  simp only [Bool.and_eq_true] at this
  simpa using this.1
 unfold callV at hev
 split at hev <;> first | (cases hev; done) | skip
 split at hev
 ·split at hev <;> first | (cases hev; done) | skip
  split at hev <;> first | (cases hev; done) | skip
  rename_i hc
  obtain ⟨rfl, rfl⟩ := some_pair hev
  simp only [Bool.and_eq_true] at hc
  exact key _ hc.1 hb
 ·split at hev <;> first | (cases hev; done) | skip
  split at hev <;> first | (cases hev; done) | skip
  split at hev <;> first | (cases hev; done) | skip
  rename_i hc
  obtain ⟨rfl, rfl⟩ := some_pair hev
  simp only [Bool.and_eq_true] at hc
  exact key _ hc.1.1 hb
theorem callW_new {f : V} {args : List V} {v : V} {eff : Eff} {b : Nat} (hev : callW X h d f args = some (v, eff)) (hb : eff.has b = true) : h b = none := by
 unfold callW at hev
 split at hev
 ·split at hev
  ·obtain ⟨l, rfl⟩ := mutV_not hev; cases hb
  split at hev
  ·obtain ⟨b, k, rfl⟩ := sortV_not hev; cases hb
  split at hev
  ·obtain ⟨b, k, _, rfl⟩ := takeV_not hev; cases hb
  ·obtain ⟨b, k, rfl⟩ := lendV_not hev; cases hb
  ·exact callV_new hev hb
 ·exact callV_new hev hb
theorem evalOp_new {op : Op} {v : V} {eff : Eff} {b : Nat} (hev : evalOp X e h d op = some (v, eff)) (hb : eff.has b = true) : h b = none := by
 cases op with
 | assign x =>
  simp only [evalOp] at hev
  split at hev
  ·split at hev
   ·split at hev
    ·rename_i hc
     obtain ⟨rfl, rfl⟩ := some_pair hev
     rw [has1 hb]; exact isNone_eq hc.1
    ·cases hev
   ·obtain ⟨rfl, rfl⟩ := some_pair hev; simp [Eff.has] at hb
  ·obtain ⟨rfl, rfl⟩ := some_pair hev; simp [Eff.has] at hb
 | alloc T =>
  simp only [evalOp] at hev
  split at hev <;> first | (cases hev; done) | skip
  split at hev <;> first | (cases hev; done) | skip
  rename_i hc
  obtain ⟨rfl, rfl⟩ := some_pair hev
  rw [has1 hb]; exact isNone_eq hc.1
 | box T x =>
  simp only [evalOp] at hev
  split at hev <;> first | (cases hev; done) | skip
  rename_i hc
  obtain ⟨rfl, rfl⟩ := some_pair hev
  rw [has1 hb]; exact isNone_eq hc.1
 | buildSlice T n ps =>
  simp only [evalOp] at hev
  cases hnv : X.nilv d with
  | some q =>
   rw [hnv] at hev
   simp only [bornV] at hev
   split at hev <;> first | (cases hev; done) | skip
   split at hev <;> first | (cases hev; done) | skip
   split at hev <;> first | (cases hev; done) | skip
   obtain ⟨rfl, rfl⟩ := some_pair hev
   simp [Eff.has] at hb
  | none =>
  rw [hnv] at hev
  simp only at hev
  split at hev <;> first | (cases hev; done) | skip
  split at hev <;> first | (cases hev; done) | skip
  split at hev <;> first | (cases hev; done) | skip
  rename_i hc
  obtain ⟨rfl, rfl⟩ := some_pair hev
  rw [has1 hb]; exact isNone_eq hc.1
 | makeSlice T l c =>
  simp only [evalOp] at hev
  unfold makeV at hev
  split at hev <;> first | (cases hev; done) | skip
  split at hev <;> first | (cases hev; done) | skip
  split at hev <;> first | (cases hev; done) | skip
  split at hev <;> first | (cases hev; done) | skip
  rename_i hc
  obtain ⟨rfl, rfl⟩ := some_pair hev
  rw [has1 hb]; exact isNone_eq hc.2.2.2.2.2.1
 | call c =>
  obtain ⟨cal, args, tys⟩ := c
  cases cal with
  | value f => simp only [evalOp] at hev; exact callW_new hev hb
  | invoke r m => simp [evalOp] at hev
  | builtin bi =>
   cases bi <;> simp only [evalOp] at hev <;> first | (cases hev; done) | skip
   case copy =>
    split at hev <;> first | (cases hev; done) | skip
    rcases copyV_eff hev with rfl | ⟨b', k', rfl⟩ <;> simp [Eff.has] at hb
   case clear =>
    split at hev <;> first | (cases hev; done) | skip
    rcases clearV_eff hev with rfl | ⟨b', k', rfl⟩ <;> simp [Eff.has] at hb
   case append =>
    split at hev <;> first | (cases hev; done) | skip
    unfold appendV at hev
    split at hev <;> first | (cases hev; done) | skip
    split at hev <;> first | (cases hev; done) | skip
    split at hev <;> first | (cases hev; done) | skip
    split at hev <;> first | (cases hev; done) | skip
    ·split at hev <;> first | (cases hev; done) | skip
     split at hev <;> first | (cases hev; done) | skip
     rename_i hc
     obtain ⟨rfl, rfl⟩ := some_pair hev
     rw [has1 hb]; exact isNone_eq hc.2.2.2.2
    ·split at hev <;> first | (cases hev; done) | skip
     split at hev <;> first | (cases hev; done) | skip
     obtain ⟨rfl, rfl⟩ := some_pair hev
     simp [Eff.has] at hb
   all_goals (repeat' (first | (cases hev; done) | (obtain ⟨rfl, rfl⟩ := some_pair hev; simp [Eff.has] at hb; done) | split at hev))
 | binOp op T x y U =>
  simp only [evalOp] at hev
  split at hev
  ·obtain ⟨rfl, rfl⟩ := some_pair hev; simp [Eff.has] at hb
  ·cases op <;> simp only [Option.map_eq_some_iff, reduceCtorEq] at hev <;> (obtain ⟨u, _, hu⟩ := hev; simp at hu; obtain ⟨_, rfl⟩ := hu; simp [Eff.has] at hb)
 | unOp op T x => simp only [evalOp, Option.map_eq_some_iff] at hev; obtain ⟨u, _, hu⟩ := hev; simp at hu; obtain ⟨_, rfl⟩ := hu; simp [Eff.has] at hb
 | slice T x lo hi mx => simp only [evalOp, Option.map_eq_some_iff] at hev; obtain ⟨u, _, hu⟩ := hev; simp at hu; obtain ⟨_, rfl⟩ := hu; simp [Eff.has] at hb
 | makeFunc f first cs =>
  cases f <;> simp only [evalOp] at hev <;> first | (cases hev; done) | skip
  split at hev <;> first | (cases hev; done) | skip
  obtain ⟨rfl, rfl⟩ := some_pair hev; simp [Eff.has] at hb
 | makeMap T r =>
  simp only [evalOp] at hev
  unfold mkMapV at hev
  split at hev <;> first | (cases hev; done) | skip
  split at hev <;> first | (cases hev; done) | skip
  rename_i hc
  obtain ⟨rfl, rfl⟩ := some_pair hev
  simp only [Bool.and_eq_true] at hc
  rw [has1 hb]; exact isNone_eq hc.2
 | lookup T x i ok => simp only [evalOp, Option.map_eq_some_iff] at hev; obtain ⟨u, _, hu⟩ := hev; simp at hu; obtain ⟨_, rfl⟩ := hu; simp [Eff.has] at hb
 | mapUpdate T m k y =>
  simp only [evalOp] at hev
  obtain ⟨b', kvs, rfl⟩ := updV_eff hev
  simp [Eff.has] at hb
 | _ => simp only [evalOp] at hev; (repeat' (first | (cases hev; done) | (obtain ⟨rfl, rfl⟩ := some_pair hev; simp [Eff.has] at hb; done) | (obtain ⟨u, _, hu⟩ := Option.map_eq_some_iff.1 hev; obtain ⟨_, rfl⟩ := some_pair (congrArg some hu); simp [Eff.has] at hb; done) | split at hev))
end
section
variable {X : Ctx} {e : Env} {h : Hp} {d : Nat}
theorem tc1 {n b : Nat} {k : Blk} (hn : n < 1000000) (hb : 1000000 ≤ b) : (Eff.new [(n, k)]).tc b = false := by
 simp [Eff.tc]; omega
theorem fresh_tc {l : List (Nat × Blk)} (hl : fresh h l = true) {b : Nat} (hb : 1000000 ≤ b) : (Eff.new l).tc b = false := by
 simp only [fresh, List.all_eq_true] at hl
 simp only [Eff.tc]
 rw [List.any_eq_false]
 intro p hp
 have := hl p hp
 simp only [Bool.and_eq_true, decide_eq_true_eq] at this
 simp; omega
theorem callV_tc {f : V} {args : List V} {v : V} {eff : Eff} {b : Nat} (hev : callV X h d f args = some (v, eff)) (hb : 1000000 ≤ b) : eff.tc b = false := by
 unfold callV at hev
 split at hev <;> first | (cases hev; done) | skip
 split at hev
 ·split at hev <;> first | (cases hev; done) | skip
  split at hev <;> first | (cases hev; done) | skip
  rename_i hc
  obtain ⟨rfl, rfl⟩ := some_pair hev
  simp only [Bool.and_eq_true] at hc
  exact fresh_tc hc.1 hb
 ·split at hev <;> first | (cases hev; done) | skip
  split at hev <;> first | (cases hev; done) | skip
  split at hev <;> first | (cases hev; done) | skip
  rename_i hc
  obtain ⟨rfl, rfl⟩ := some_pair hev
  simp only [Bool.and_eq_true] at hc
  exact fresh_tc hc.1.1 hb
theorem callW_tc {f : V} {args : List V} {v : V} {eff : Eff} {b : Nat} (hev : callW X h d f args = some (v, eff)) (hb : 1000000 ≤ b) : eff.tc b = false := by
 unfold callW at hev
 split at hev
 ·split at hev
  ·obtain ⟨l, rfl⟩ := mutV_not hev; simp only [Eff.tc]; rw [decide_eq_false (by omega), Bool.and_false]
  split at hev
  ·obtain ⟨b, k, rfl⟩ := sortV_not hev; rfl
  split at hev
  ·obtain ⟨b', k, hlt, rfl⟩ := takeV_not hev; simp only [Eff.tc, beq_eq_false_iff_ne]; omega
  ·obtain ⟨b, k, rfl⟩ := lendV_not hev; rfl
  ·exact callV_tc hev hb
 ·exact callV_tc hev hb
theorem bornV_eff {T : TypeId} {k : Nat} {ps : Array (Nat × Operand)} {v : V} {eff : Eff} (hev : bornV X e T k ps = some (v, eff)) : eff = .none := by
 unfold bornV at hev
 split at hev <;> first | (cases hev; done) | skip
 split at hev <;> first | (cases hev; done) | skip
 split at hev <;> first | (cases hev; done) | skip
 exact (some_pair hev).2
theorem evalOp_tc {op : Op} {v : V} {eff : Eff} {b : Nat} (hev : evalOp X e h d op = some (v, eff)) (hd : d < 100000) (hb : 1000000 ≤ b) : eff.tc b = false := by
 have h8 : 8 * d < 1000000 := by omega
 cases op with
 | call c =>
  obtain ⟨cal, args, tys⟩ := c
  cases cal with
  | value f => simp only [evalOp] at hev; exact callW_tc hev hb
  | invoke r m => simp [evalOp] at hev
  | builtin bi =>
   cases bi <;> simp only [evalOp] at hev <;> first | (cases hev; done) | skip
   case copy =>
    split at hev <;> first | (cases hev; done) | skip
    rcases copyV_eff hev with rfl | ⟨b', k', rfl⟩ <;> rfl
   case clear =>
    split at hev <;> first | (cases hev; done) | skip
    rcases clearV_eff hev with rfl | ⟨b', k', rfl⟩ <;> rfl
   case append =>
    split at hev <;> first | (cases hev; done) | skip
    unfold appendV at hev
    split at hev <;> first | (cases hev; done) | skip
    split at hev <;> first | (cases hev; done) | skip
    split at hev <;> first | (cases hev; done) | skip
    split at hev <;> first | (cases hev; done) | skip
    ·split at hev <;> first | (cases hev; done) | skip
     split at hev <;> first | (cases hev; done) | skip
     obtain ⟨rfl, rfl⟩ := some_pair hev
     exact tc1 h8 hb
    ·split at hev <;> first | (cases hev; done) | skip
     split at hev <;> first | (cases hev; done) | skip
     rename_i hc
     obtain ⟨rfl, rfl⟩ := some_pair hev
     simp [Eff.tc]; omega
   all_goals (repeat' (first | (cases hev; done) | (obtain ⟨rfl, rfl⟩ := some_pair hev; rfl) | split at hev))
 | buildSlice T k ps =>
  simp only [evalOp] at hev
  cases hnv : X.nilv d with
  | some q => rw [hnv] at hev; rw [bornV_eff hev]; rfl
  | none =>
   rw [hnv] at hev
   simp only at hev
   split at hev <;> first | (cases hev; done) | skip
   split at hev <;> first | (cases hev; done) | skip
   split at hev <;> first | (cases hev; done) | skip
   obtain ⟨rfl, rfl⟩ := some_pair hev
   exact tc1 h8 hb
 | binOp op T x y U =>
  simp only [evalOp] at hev
  split at hev
  ·obtain ⟨rfl, rfl⟩ := some_pair hev; rfl
  ·cases op <;> simp only [Option.map_eq_some_iff, reduceCtorEq] at hev <;> (obtain ⟨u, _, hu⟩ := hev; simp at hu; obtain ⟨_, rfl⟩ := hu; rfl)
 | unOp op T x => simp only [evalOp, Option.map_eq_some_iff] at hev; obtain ⟨u, _, hu⟩ := hev; simp at hu; obtain ⟨_, rfl⟩ := hu; rfl
 | slice T x lo hi mx => simp only [evalOp, Option.map_eq_some_iff] at hev; obtain ⟨u, _, hu⟩ := hev; simp at hu; obtain ⟨_, rfl⟩ := hu; rfl
 | makeSlice T l c =>
  simp only [evalOp] at hev
  unfold makeV at hev
  split at hev <;> first | (cases hev; done) | skip
  split at hev <;> first | (cases hev; done) | skip
  split at hev <;> first | (cases hev; done) | skip
  split at hev <;> first | (cases hev; done) | skip
  obtain ⟨rfl, rfl⟩ := some_pair hev
  exact tc1 h8 hb
 | makeFunc f first cs =>
  cases f <;> simp only [evalOp] at hev <;> first | (cases hev; done) | skip
  split at hev <;> first | (cases hev; done) | skip
  obtain ⟨rfl, rfl⟩ := some_pair hev; rfl
 | makeMap T r =>
  simp only [evalOp] at hev
  unfold mkMapV at hev
  split at hev <;> first | (cases hev; done) | skip
  split at hev <;> first | (cases hev; done) | skip
  obtain ⟨rfl, rfl⟩ := some_pair hev
  exact tc1 h8 hb
 | lookup T x i ok => simp only [evalOp, Option.map_eq_some_iff] at hev; obtain ⟨u, _, hu⟩ := hev; simp at hu; obtain ⟨_, rfl⟩ := hu; rfl
 | mapUpdate T m k y =>
  simp only [evalOp] at hev
  obtain ⟨b', kvs, rfl⟩ := updV_eff hev
  rfl
 | _ => simp only [evalOp] at hev; (repeat' (first | (cases hev; done) | (obtain ⟨rfl, rfl⟩ := some_pair hev; first | rfl | exact tc1 h8 hb) | (obtain ⟨u, _, hu⟩ := Option.map_eq_some_iff.1 hev; obtain ⟨_, rfl⟩ := some_pair (congrArg some hu); rfl) | split at hev))
theorem dst_small' {n : Nat} {dst : Option Nat} (hd : dstOk n dst) (hn : n ≤ 100000) : dst.getD 0 < 100000 := by
 cases dst with
 | none => simp
 | some t => simp only [dstOk] at hd; simp; omega
end
section
variable {P : Program} {X : Ctx} {J : World → Prop} {ok : Nat → Prop} {w0 w : World} {F : Fr} {n : Nat} {a : Act} {ρ : Nat → Option Value}
structure FS where
 e : Env
 h : Hp
def FS.put (s : FS) (dst : Option Nat) (v : V) (eff : Eff) : FS := ⟨fun t => if dst = some t then v else s.e t, eff.hp s.h⟩
def St.fs (σ : St) : FS := ⟨σ.e, σ.h⟩
structure SimF (J : World → Prop) (ok : Nat → Prop) (w0 : World) (F : Fr) (n : Nat) (s : FS) (a : Act) (w : World) (ρ : Nat → Option Value) : Prop where
 j : ∀ w', Below F.B F.w w' → J w'
 below : Below F.B F.w w
 inv : Inv ok F.B w ρ s.h
 rel : ∀ t, Rel w (okAt ok F.B ρ w) ρ (s.e t) (a.tmps.getD t Go.undef)
 size : a.tmps.size = n
 defers : a.defers = F.ds
 fr : FrOk F w ρ
 small : n ≤ 100000
theorem SimF.to {σ : St} {s : FS} (h : SimF J ok w0 F n s a w ρ) (hs : s = σ.fs) : Sim J ok w0 F n σ a w ρ := by subst hs; exact ⟨h.j, h.below, h.inv, h.rel, h.size, h.defers, h.fr, h.small⟩
theorem SimF.opd {s : FS} (h : SimF J ok w0 F n s a w ρ) (x : Operand) : Rel w (okAt ok F.B ρ w) ρ (Ev.opd s.e x) (a.eval x) := by
 cases x with
 | tmp t => exact h.rel t
 | const v => exact .ro (ofC_rel v)
 | global g => exact .ro (.undef _)
 | func f => exact .fn f [] [] rfl (by simp)
theorem mild_tr {eff : Eff} (hm : eff.mild = true) : eff.tr = id := by cases eff <;> first | rfl | cases hm
theorem SimF.step {s : FS} {w' : World} {dst : Option Nat} {v : V} {eff : Eff} {val : Value} {ρ' : Nat → Option Value} (h : SimF J ok w0 F n s a w ρ) (hd : dstOk n dst) (hm : eff.mild = true) (ht : ∀ b, 1000000 ≤ b → eff.tc b = false)
  (hs : Step ok F.B w ρ w' ρ' (eff.hp s.h) eff.tr eff.tc) (hv : Rel w' (okAt ok F.B ρ' w') ρ' v val) : SimF J ok w0 F n (s.put dst v eff) (a.put dst val) w' ρ' := by
 refine ⟨h.j, h.below.trans hs.below, hs.inv, fun t => ?_, by rw [put_size]; exact h.size, by rw [Ev.put_defers]; exact h.defers, h.fr.step hs ht, h.small⟩
 rw [put_getD a dst val t (by rw [h.size]; exact hd)]
 simp only [FS.put]
 split
 ·exact hv
 ·have := hs.rel _ _ (h.rel t)
  rw [mild_tr hm] at this
  exact this
theorem app_fs (σ : St) {eff : Eff} (hm : eff.mild = true) (dst : Option Nat) (v : V) : (σ.app eff dst v).fs = σ.fs.put dst v eff := by
 cases eff with
 | none => simp only [St.fs, FS.put, FS.mk.injEq]; exact ⟨by funext t; simp only [St.app, St.e, e_put], rfl⟩
 | new l =>
  simp only [St.fs, FS.put, FS.mk.injEq]
  refine ⟨by funext t; simp only [St.app, St.e, e_put], ?_⟩
  funext b
  simp only [St.app, St.h, Eff.hp, either, look_append, look_lookup] <;> (try (cases look b σ.hp <;> rfl))
 | write b k => cases hm
 | change b k => cases hm
 | lend b k => cases hm
 | writes _ => cases hm
structure Closed (s : FS) : Prop where
 env : ∀ t b, Ref b (s.e t) → ∃ k, s.h b = some k
 box : ∀ b x, s.h b = some (.box x) → ∀ b', Ref b' x → ∃ k, s.h b' = some k
theorem SimF.closed {s : FS} (h : SimF J ok w0 F n s a w ρ) : Closed s := by
 refine ⟨fun t b hb => ?_, fun b x hx b' hb' => ?_⟩
 ·obtain ⟨sv, hr⟩ := (h.rel t).ref hb
  exact h.inv.dom b sv hr
 ·obtain ⟨sv, hr, g, val, rfl, h1, h2, h3, h4, h5, h6⟩ := h.inv.blk b _ hx
  obtain ⟨sv', hr'⟩ := h6.ref hb'
  exact h.inv.dom b' sv' hr'
theorem Closed.opd {s : FS} (h : Closed s) {x : Operand} {b : Nat} (hb : Ref b (Ev.opd s.e x)) : ∃ k, s.h b = some k := by
 cases x with
 | tmp t => exact h.env t b hb
 | const v =>
  exfalso
  simp only [Ev.opd] at hb
  unfold ofC at hb
  split at hb <;> cases hb
 | global g => cases hb
 | func f => cases hb with | fn hc _ => cases hc
def Yd (X : Ctx) (ops : List Oper) (o : Oper) (s : FS) (v : V) (eff : Eff) : Prop :=
 eff.mild = true ∧ match o.guard with
 | none => evalOp X s.e s.h (o.dst.getD 0) o.op = some (v, eff)
 | some (j, want) => ∃ t b, guardT ops j = some t ∧ gOf (s.e t) = some b ∧ if b == some want then evalOp X s.e s.h (o.dst.getD 0) o.op = some (v, eff) else v = .raw Go.undef ∧ eff = .none
theorem Yd.new {ops : List Oper} {o : Oper} {s : FS} {v : V} {eff : Eff} (hy : Yd X ops o s v eff) {b : Nat} (hb : eff.has b = true) : s.h b = none := by
 obtain ⟨hm, hy⟩ := hy
 split at hy
 ·exact evalOp_new hy hb
 ·obtain ⟨t, b', _, _, hy⟩ := hy
  split at hy
  ·exact evalOp_new hy hb
  ·obtain ⟨_, rfl⟩ := hy; simp [Eff.has] at hb
theorem Yd.move {ops : Array Oper} {o : Oper} {s τ : FS} {v : V} {eff : Eff} (hy : Yd X ops.toList o τ v eff) (he : ∀ t ∈ o.looksAt ops, s.e t = τ.e t) (hu : ∀ x ∈ o.op.operands, Up τ.h s.h (Ev.opd τ.e x))
  (hf : ∀ b, eff.has b = true → s.h b = none) : Yd X ops.toList o s v eff := by
 obtain ⟨hm, hy⟩ := hy
 have hop : ∀ x ∈ o.op.operands, Ev.opd s.e x = Ev.opd τ.e x := by
  intro x hx
  cases x with
  | tmp t => exact he t (List.mem_append_left _ (List.mem_filterMap.2 ⟨.tmp t, by simpa using hx, rfl⟩))
  | _ => rfl
 have key : evalOp X τ.e τ.h (o.dst.getD 0) o.op = some (v, eff) → evalOp X s.e s.h (o.dst.getD 0) o.op = some (v, eff) := fun h => by
  rw [evalOp_env hop]
  exact evalOp_mono h hm hu hf
 refine ⟨hm, ?_⟩
 cases hg : o.guard with
 | none => simp only [hg] at hy ⊢; exact key hy
 | some p =>
  obtain ⟨j, want⟩ := p
  simp only [hg] at hy ⊢
  obtain ⟨t, b, h1, h2, h3⟩ := hy
  refine ⟨t, b, h1, ?_, ?_⟩
  ·rw [he t (List.mem_append_right _ (by
    rw [hg]
    have : (ops[j]?).bind (·.dst) = some t := by unfold guardT at h1; simpa using h1
    simp [this]))]
   exact h2
  ·split at h3
   ·rename_i hc; rw [if_pos hc]; exact key h3
   ·rename_i hc; rw [if_neg hc]; exact h3
def Rn (X : Ctx) (n : Nat) (ops : Array Oper) : List Nat → FS → FS → Prop
 | [], s, s' => s = s'
 | i :: is, s, s' => ∃ o v eff, ops[i]? = some o ∧ Yd X ops.toList o s v eff ∧ dstOk n o.dst ∧ Rn X n ops is (s.put o.dst v eff) s'
theorem evHead_run {ops : Array Oper} {K : St → Prop} : ∀ (l : List Oper) (k : Nat) (σ : St), (∀ j, j < l.length → l[j]? = ops[k + j]?) → evHead X n ops.toList l σ K → ∃ σ', K σ' ∧ Rn X n ops (List.range' k l.length) σ.fs σ'.fs
 | [], k, σ, _, h => ⟨σ, h, rfl⟩
 | o :: l, k, σ, hl, h => by
  have h0 : ops[k]? = some o := by have := hl 0 (by simp); simpa using this.symm
  have hl' : ∀ j, j < l.length → l[j]? = ops[k + 1 + j]? := fun j hj => by have := hl (j + 1) (by simp; omega); rw [show k + 1 + j = k + (j + 1) by omega]; simpa using this
  obtain ⟨dst, op, ty, pos, after, guard⟩ := o
  rw [List.length_cons, List.range'_succ]
  cases guard with
  | none =>
   simp only [evHead] at h
   unfold onSome at h
   split at h
   ·rename_i p hp
    obtain ⟨⟨hd, hm⟩, h⟩ := h
    obtain ⟨σ', hK, hr⟩ := evHead_run l (k + 1) _ hl' h
    rw [app_fs σ hm] at hr
    exact ⟨σ', hK, ⟨dst, op, ty, pos, after, none⟩, p.1, p.2, h0, ⟨hm, hp⟩, hd, hr⟩
   ·exact h.elim
  | some g =>
   obtain ⟨j, want⟩ := g
   simp only [evHead] at h
   unfold onSome at h
   split at h
   ·rename_i t ht
    split at h
    ·rename_i b hb
     unfold onIf at h
     split at h
     ·rename_i hc
      split at h
      ·rename_i p hp
       obtain ⟨⟨hd, hm⟩, h⟩ := h
       obtain ⟨σ', hK, hr⟩ := evHead_run l (k + 1) _ hl' h
       rw [app_fs σ hm] at hr
       exact ⟨σ', hK, ⟨dst, op, ty, pos, after, some (j, want)⟩, p.1, p.2, h0, ⟨hm, t, b, ht, hb, by rw [if_pos hc]; exact hp⟩, hd, hr⟩
      ·exact h.elim
     ·rename_i hc
      obtain ⟨hd, h⟩ := h
      obtain ⟨σ', hK, hr⟩ := evHead_run l (k + 1) _ hl' h
      rw [app_fs σ (eff := .none) rfl] at hr
      exact ⟨σ', hK, ⟨dst, op, ty, pos, after, some (j, want)⟩, .raw Go.undef, .none, h0, ⟨rfl, t, b, ht, hb, by rw [if_neg hc]; exact ⟨rfl, rfl⟩⟩, hd, hr⟩
    ·exact h.elim
   ·exact h.elim
theorem hp_ge (eff : Eff) (hm : eff.mild = true) (h : Hp) {b : Nat} {k : Blk} (hb : h b = some k) : eff.hp h b = some k := by
 cases eff with
 | none => exact hb
 | new l => simp [Eff.hp, either, hb]
 | write _ _ => cases hm
 | change _ _ => cases hm
 | lend _ _ => cases hm
 | writes _ => cases hm
theorem lookup_has {l : List (Nat × Blk)} {b : Nat} : (Eff.new l).has b = true ↔ l.lookup b ≠ none := by
 simp only [Eff.has]
 induction l with
 | nil => simp
 | cons p l ih =>
  obtain ⟨x, k⟩ := p
  rw [List.lookup_cons]
  by_cases hb : b = x
  ·subst hb; simp
  ·have h1 : (b == x) = false := by simpa using hb
   have h2 : (x == b) = false := by simpa using fun e => hb e.symm
   simp only [h1, List.any_cons, h2, Bool.false_or]
   exact ih
theorem hp_has (eff : Eff) (hm : eff.mild = true) (h : Hp) (b : Nat) : eff.hp h b = none ↔ h b = none ∧ eff.has b = false := by
 cases eff with
 | none => simp [Eff.hp, Eff.has]
 | new l =>
  have := lookup_has (l := l) (b := b)
  simp only [Eff.hp, either]
  cases hb : h b with
  | some k => simp
  | none =>
   simp only [true_and]
   constructor
   ·intro hl
    cases hh : (Eff.new l).has b with
    | false => rfl
    | true => exact ((this.1 hh) hl).elim
   ·intro hh
    cases hl : l.lookup b with
    | none => rfl
    | some k => rw [this.2 (by simp [hl])] at hh; cases hh
 | write _ _ => cases hm
 | change _ _ => cases hm
 | lend _ _ => cases hm
 | writes _ => cases hm
theorem FS.put_comm (s : FS) {x y : Option Nat} {v u : V} {f g : Eff} (hf : f.mild = true) (hg : g.mild = true) (hxy : ∀ d, x = some d → y ≠ some d) (hd : ∀ b, f.has b = true → g.has b = false) :
  (s.put x v f).put y u g = (s.put y u g).put x v f := by
 simp only [FS.put, FS.mk.injEq]
 refine ⟨?_, ?_⟩
 ·funext t
  by_cases h1 : x = some t
  ·have := hxy t h1; simp [h1, this]
  ·simp [h1]
 ·funext b
  cases f with
  | none => rfl
  | new l =>
   cases g with
   | none => rfl
   | new m =>
    simp only [Eff.hp, either]
    cases s.h b with
    | some k => rfl
    | none =>
     cases hl : l.lookup b with
     | none => cases m.lookup b <;> rfl
     | some k =>
      have h1 := hd b (lookup_has.2 (by simp [hl]))
      have h2 : m.lookup b = none := by
       cases hm : m.lookup b with
       | none => rfl
       | some k' => rw [lookup_has.2 (by simp [hm])] at h1; cases h1
      simp [h2]
   | write _ _ => cases hg
   | change _ _ => cases hg
   | lend _ _ => cases hg
   | writes _ => cases hg
  | write _ _ => cases hf
  | change _ _ => cases hf
  | lend _ _ => cases hf
  | writes _ => cases hf
theorem pull {ops : Array Oper} {j : Nat} {oj : Oper} {s s' : FS} (hj : ops[j]? = some oj) (hc : Closed s) : ∀ (rem : List Nat) (τ : FS), Rn X n ops rem τ s' → j ∈ rem → rem.Nodup →
  (∀ i ∈ rem, ∀ oi, ops[i]? = some oi → i ≠ j → (∀ l, rem = l → True) → (rem.takeWhile (· != j)).contains i = true → oi.apart ops oj = true) →
  (∀ b k, s.h b = some k → τ.h b = some k) → (∀ t ∈ oj.looksAt ops, τ.e t = s.e t) →
  ∃ v eff, Yd X ops.toList oj s v eff ∧ dstOk n oj.dst ∧ (∀ b, eff.has b = true → τ.h b = none) ∧ Rn X n ops (rem.erase j) (τ.put oj.dst v eff) s'
 | [], τ, _, hm, _, _, _, _ => by cases hm
 | i :: rem, τ, hr, hm, hn, hap, hle, hlk => by
  obtain ⟨o, v, eff, hi, hy, hd, hr⟩ := hr
  by_cases hij : i = j
  ·subst hij
   have : o = oj := Option.some.inj (hi.symm.trans hj)
   subst this
   refine ⟨v, eff, hy.move (fun t ht => (hlk t ht).symm) (fun x hx => ?_) (fun b hb => ?_), hd, fun b hb => hy.new hb, by simpa using hr⟩
   ·have ho : Ev.opd τ.e x = Ev.opd s.e x := by
     cases x with
     | tmp t => exact hlk t (List.mem_append_left _ (List.mem_filterMap.2 ⟨.tmp t, by simpa using hx, rfl⟩))
     | _ => rfl
    rw [ho]
    intro b hb k hk
    obtain ⟨k0, hk0⟩ := hc.opd hb
    have : k = k0 := by have := hle b k0 hk0; rw [hk] at this; exact Option.some.inj this
    subst this
    refine ⟨hk0, fun y hy b' hb' k' hk' => ?_⟩
    subst hy
    obtain ⟨k1, hk1⟩ := hc.box b y hk0 b' hb'
    have : k' = k1 := by have := hle b' k1 hk1; rw [hk'] at this; exact Option.some.inj this
    subst this
    exact hk1
   ·cases hs : s.h b with
    | none => rfl
    | some k => have := hle b k hs; rw [hy.new hb] at this; cases this
  ·have hjr : j ∈ rem := by simpa [Ne.symm hij] using hm
   have hne : (i != j) = true := by simpa using hij
   have hapi := hap i (by simp) o hi hij (fun _ _ => trivial) (by rw [List.takeWhile_cons, hne]; simp)
   obtain ⟨h1, h2, h3⟩ := Oper.apart_spec hapi
   have hnd := List.nodup_cons.1 hn
   obtain ⟨u, g, hyj, hdj, hfr, hr'⟩ := pull hj hc rem (τ.put o.dst v eff) hr hjr hnd.2 (fun i' hi' oi' ho' hne' _ hcon => hap i' (by simp [hi']) oi' ho' hne' (fun _ _ => trivial) (by
     rw [List.takeWhile_cons, hne]; simp only [if_true, List.contains_cons, hcon, Bool.or_true])) (fun b k hk => hp_ge eff hy.1 τ.h (hle b k hk)) (fun t ht => by
     simp only [FS.put]
     rw [if_neg (fun he => h1 t he ht)]
     exact hlk t ht)
   have hfr' : ∀ b, g.has b = true → τ.h b = none ∧ eff.has b = false := fun b hb => (hp_has eff hy.1 τ.h b).1 (hfr b hb)
   refine ⟨u, g, hyj, hdj, fun b hb => (hfr' b hb).1, ?_⟩
   rw [List.erase_cons_tail (by simpa using hij)]
   refine ⟨o, v, eff, hi, hy.move (fun t ht => ?_) (fun x hx b hb k hk => ⟨hp_ge g hyj.1 τ.h hk, fun y _ b' _ k' hk' => hp_ge g hyj.1 τ.h hk'⟩) (fun b hb => ?_), hd, ?_⟩
   ·simp only [FS.put]
    rw [if_neg (fun he => h3 t he ht)]
   ·refine (hp_has g hyj.1 τ.h b).2 ⟨hy.new hb, ?_⟩
    cases hg : g.has b with
    | false => rfl
    | true => have := (hfr' b hg).2; rw [hb] at this; cases this
   ·rw [← FS.put_comm τ hy.1 hyj.1 h2 (fun b hb => by
     cases hg : g.has b with
     | false => rfl
     | true => have := (hfr' b hg).2; rw [hb] at this; cases this)]
    exact hr'
end
end Go.Ev
