/-
  The register machine (Ev), its second half: calls, code, regions that draw, functions, rules.
-/
import Derived.Test.YtdjdipehfnnhpaaEv
namespace Go.Ev
open Go Go.RowKit
set_option linter.unusedVariables false
/-! ### Calls -/
def Callable (P : Program) (f : FuncId) : Prop := ∃ fn, P.funcs[f]? = some fn ∧ (fn.name == "runtime.NumGoroutine") = false ∧ fn.body.isNone = false
/-- WHAT A FUNCTION COMES TO AT DATA: whatever values of the model read as the data -/
def SoundAt (P : Program) (J : World → Prop) (f : FuncId) (args : List V) (r : V) (bs : List Blk) : Prop :=
  Callable P f ∧ ∀ (w : World) (ok : Nat → Prop) (vals : List Value), J w → (∀ g, ok g → g < w.heap.size) → args.length = vals.length →
    (∀ (j : Nat) c u, args[j]? = some c → vals[j]? = some u → RelD w ok c u) →
    Calls P f vals.toArray w fun e w' => ∃ val ρr, e = .returned val ∧ Below w.heap.size w w' ∧ Inv ok w.heap.size w' ρr (fun j => bs[j]?) ∧ Rel w' (okAt ok w.heap.size ρr w') ρr r val
/-- WHAT A FUNCTION MAKES OF A ROW THAT IT IS LENT (its first argument): the elements turn, the header stays -/
def LendAt (P : Program) (J : World → Prop) (f : FuncId) (T : TypeId) (sz : Nat) (es as es' : List V) : Prop :=
  Callable P f ∧ ∀ (w : World) (B : Nat) (ok : Nat → Prop) (sv : Value) (vals : List Value), (∀ w', Below B w w' → J w') → B ≤ w.heap.size → (∀ g, ok g → g < w.heap.size ∧ own sv ≠ some g) → sv.oneCell' = true → 0 < sz → OwnV w ok B T sz sv es →
    as.length = vals.length → (∀ (j : Nat) c u, as[j]? = some c → vals[j]? = some u → RelD w ok c u) →
    Calls P f (sv :: vals).toArray w fun e w' => e = .returned (.tuple #[]) ∧ Below B w w' ∧ (∀ g, g < w.heap.size → own sv ≠ some g → w'.heap[g]? = w.heap[g]?) ∧ w.heap.size ≤ w'.heap.size ∧ OwnV w' (fun _ => False) B T sz sv es'
/-- a row that is handed to a function beside one that it takes: its elements are data of 'ok2', itself it lies where 'ok' says -/
def Rel2 (w : World) (ok ok2 : Nat → Prop) (c : V) (u : Value) : Prop :=
  match c with
  | .row sz es => (∃ ad cap, u = .slice ad 0 cap ∧ es = []) ∨ ∃ (g o cap : Nat) (vs : List Value), u = .slice (some ⟨g, o, none⟩) es.length cap ∧ ok g ∧ vs.length = es.length ∧ (∀ v ∈ vs, v.cells.size = sz) ∧ (∀ v ∈ vs, ∀ u ∈ v.cells.toList, u.oneCell' = true) ∧
      (∀ (i : Nat) e v, es[i]? = some e → vs[i]? = some v → RelD w ok2 e v) ∧ ∀ (j : Nat) u, (vs.flatMap (·.cells.toList))[j]? = some u → w.cell? ⟨g, o + j, none⟩ = some u
  | c => RelD w ok2 c u
/-- WHAT A FUNCTION MAKES OF A ROW THAT IT TAKES (its first argument) AND GIVES BACK -/
def TakeAt (P : Program) (J : World → Prop) (f : FuncId) (T : TypeId) (sz : Nat) (es as es' : List V) : Prop :=
  Callable P f ∧ ∀ (w : World) (B : Nat) (ok ok2 : Nat → Prop) (sv : Value) (vals : List Value), (∀ w', Below B w w' → J w') → B ≤ w.heap.size → (∀ g, ok g → g < w.heap.size ∧ own sv ≠ some g) → (∀ g, ok2 g → ok g) → sv.oneCell' = true → 0 < sz → OwnV w ok2 B T sz sv es →
  as.length = vals.length → (∀ (j : Nat) c u, as[j]? = some c → vals[j]? = some u → Rel2 w ok ok2 c u) →
  Calls P f (sv :: vals).toArray w fun e w' => ∃ sv', e = .returned sv' ∧ Below B w w' ∧ (∀ g, g < w.heap.size → own sv ≠ some g → w'.heap[g]? = w.heap[g]?) ∧ w.heap.size ≤ w'.heap.size ∧ (∀ k, own sv' = some k → w.heap.size ≤ k ∨ own sv = some k) ∧ sv'.oneCell' = true ∧ OwnV w' ok2 B T sz sv' es'
def LentAt (P : Program) (J : World → Prop) : Bool → FuncId → TypeId → Nat → List V → List V → List V → Prop
  | true => TakeAt P J
  | false => LendAt P J
section
variable {P : Program} {X : Ctx} {J : World → Prop} {ok : Nat → Prop} {B : Nat} {w w' : World} {ρ : Nat → Option Value} {hp : Hp} {env : Env} {a : Act} {o : Oper} {v : V} {eff : Eff} {d : Nat}
theorem mapM_get {α β : Type} {f : α → Option β} : ∀ {l : List α} {r : List β}, l.mapM f = some r → r.length = l.length ∧ ∀ (j : Nat) y, r[j]? = some y → ∃ x, l[j]? = some x ∧ f x = some y
  | [], r, h => by simp at h; subst h; simp
  | x :: l, r, h => by
    rw [List.mapM_cons] at h
    cases hx : f x with
    | none => simp [hx] at h
    | some y =>
      cases hl : l.mapM f with
      | none => simp [hx, hl] at h
      | some r' =>
        simp [hx, hl] at h
        subst h
        obtain ⟨h1, h2⟩ := mapM_get hl
        refine ⟨by simp [h1], fun j z hz => ?_⟩
        cases j with
        | zero => simp at hz; subst hz; exact ⟨x, rfl, hx⟩
        | succ j => simpa using h2 j z (by simpa using hz)
theorem okAt_lt (h : B ≤ w.heap.size) {g : Nat} (hg : okAt ok B ρ w g) : g < w.heap.size := by
  rcases hg with ⟨h1, _⟩ | ⟨_, h1, _⟩ <;> omega
/-- what may be read while some blocks are put aside -/
structure RoQ (Q okk : Nat → Prop) (ρ : Nat → Option Value) (hp hp' : Hp) : Prop where
  ok : ∀ g, okk g → Q g
  sub : ∀ b k, hp' b = some k → hp b = some k
  own : ∀ b k sv g, hp' b = some k → ρ b = some sv → own sv = some g → Q g
theorem RoQ.all (hI : Inv ok B w ρ hp) : RoQ (fun g => g < w.heap.size) (okAt ok B ρ w) ρ hp hp :=
  ⟨fun g hg => okAt_lt hI.size hg, fun _ _ h => h, fun _ _ _ _ _ hr ho => (hI.own_ge hr ho).2⟩
theorem roC_rel (hI : Inv ok B w ρ hp) {Q : Nat → Prop} {hp' : Hp} (hq : RoQ Q (okAt ok B ρ w) ρ hp hp') {v v' : V} {val : Value} (hx : Rel w (okAt ok B ρ w) ρ v val) (h : roC hp' v = some v') : RelD w Q v' val := by
  have hk : ∀ g, okAt ok B ρ w g → Q g ∧ w.heap[g]? = w.heap[g]? := fun g hg => ⟨hq.ok g hg, rfl⟩
  unfold roC at h
  split at h
  · rename_i b
    split at h
    · rename_i T sz es hb
      simp at h
      subst h
      have hr := hx.vec_inv
      obtain ⟨sv, hsv, hpos, hown⟩ := hI.blk b _ (hq.sub b _ hb)
      rw [hr] at hsv
      simp at hsv
      subst hsv
      rcases hown.form with ⟨ad, he, rfl⟩ | ⟨g, cap, vs, he, hc, hle, hl, hsz, h1, hrr, how⟩
      · rw [he]; exact .nil _ _
      · rw [he] at how ⊢
        have hmx : cap ≤ maxLen := by
          rcases how.2 with ⟨hn, _⟩ | ⟨g', cap', cur, heq, _, _, _, hmx, _⟩
          · cases hn
          · simp at heq; omega
        refine .row sz es g 0 cap vs ?_ hle hmx hl hsz h1 (fun i v hv => ?_) fun i e v hee hv => (hrr i e v hee hv).mono hk
        · have ho : own (.slice (some ⟨g, 0, none⟩) es.length cap) = some g := by simp [own, hc]
          exact hq.own b _ _ g hb hr (by rw [he]; exact ho)
        · intro k u hu
          have hk' : k < sz := by have := (List.getElem?_eq_some_iff.1 hu).1; have := hsz v (List.mem_of_getElem? hv); simp at *; omega
          have := how.cells (g := g) rfl (i * sz + k) u (by rw [flat_get hsz hv hk']; exact hu)
          rwa [Addr.add_mid, ← Nat.add_assoc, Nat.zero_add, ← Nat.zero_add (i * sz)] at this
    · cases h
  · rename_i b sz0 lo k
    unfold partR at h
    simp only [Option.map_eq_some_iff] at h
    obtain ⟨⟨T, es0⟩, hs, rfl⟩ := h
    have hs' : subE hp b sz0 (lo + k) = some (T, es0) := by
      unfold subE at hs ⊢
      cases hb : hp' b with
      | none => simp [hb] at hs
      | some kb => rw [hb] at hs; rw [hq.sub b kb hb]; exact hs
    obtain ⟨hb, hpos, g, cap, c, ad, vs, hg, hc0, rfl, hle, hkc, hcm, ha, hl, hsz, h1, hrr, how⟩ := sub_form hI hx hs'
    rcases ha with hc | had
    · have hk0 : k = 0 := by omega
      subst hk0; subst hc
      simp only [List.take_zero]
      exact .nil _ _
    · subst had
      have hlen : ((es0.drop lo).take k).length = k := by rw [List.length_take, List.length_drop]; omega
      have hbk : ∃ kb, hp' b = some kb := by
        unfold subE at hs
        cases hb' : hp' b with
        | none => simp [hb'] at hs
        | some kb => exact ⟨kb, rfl⟩
      obtain ⟨kb, hbk⟩ := hbk
      have hQg : Q g := hq.own b kb _ g hbk hg (by simp [own, hc0])
      have := RelD.row (w := w) (ok := Q) sz0 ((es0.drop lo).take k) g (lo * sz0) c ((vs.drop lo).take k) hQg (by omega) hcm.1 (by rw [List.length_take, List.length_drop, hlen]; omega) (fun v hv => hsz v (List.mem_of_mem_drop (List.mem_of_mem_take hv))) (fun v hv => h1 v (List.mem_of_mem_drop (List.mem_of_mem_take hv))) (fun i v hv => ?_) fun i e v hee hv => (hrr (lo + i) e v (part_get hee).2 (part_get hv).2).mono hk
      · rw [hlen] at this; exact this
      · intro m u hu
        have hv2 := (part_get hv).2
        have hm : m < sz0 := by have := (List.getElem?_eq_some_iff.1 hu).1; have := hsz v (List.mem_of_getElem? hv2); simp at *; omega
        have := how.cells (g := g) rfl ((lo + i) * sz0 + m) u (by rw [flat_get hsz hv2 hm]; exact hu)
        rwa [Addr.add_mid, Nat.zero_add, Nat.add_mul] at this
  · split at h
    · rename_i hd
      simp at h
      subst h
      exact (hx.toD hd).mono hk
    · cases h
theorem ro0_rel (hI : Inv ok B w ρ hp) {Q : Nat → Prop} {hp' : Hp} (hq : RoQ Q (okAt ok B ρ w) ρ hp hp') {v v' : V} {val : Value} (hx : Rel w (okAt ok B ρ w) ρ v val) (h : ro0 hp' v = some v') : RelD w Q v' val := by
  unfold ro0 at h
  split at h
  · rename_i cs
    cases hm : cs.mapM (roC hp') with
    | none => simp [hm] at h
    | some cs' =>
      simp [hm] at h
      subst h
      obtain ⟨hl, hg⟩ := mapM_get hm
      obtain ⟨vs, rfl, hlv, h1, hr⟩ := hx.agg_inv
      refine .agg cs' vs (by omega) h1 fun j c u hc hu => ?_
      obtain ⟨c0, hc0, hc1⟩ := hg j c hc
      exact roC_rel hI hq (hr j c0 u hc0 hu) hc1
  · exact roC_rel hI hq hx h
theorem ro1_rel (hI : Inv ok B w ρ hp) {Q : Nat → Prop} {hp' : Hp} (hq : RoQ Q (okAt ok B ρ w) ρ hp hp') {v v' : V} {val : Value} (hx : Rel w (okAt ok B ρ w) ρ v val) (h : ro1 hp' v = some v') : RelD w Q v' val := by
  have hk : ∀ g, okAt ok B ρ w g → Q g ∧ w.heap[g]? = w.heap[g]? := fun g hg => ⟨hq.ok g hg, rfl⟩
  unfold ro1 at h
  split at h
  · rename_i b off
    split at h
    · rename_i v0 hb
      split at h
      · rename_i hst
        cases h0 : ro0 hp' v0 with
        | none => simp [h0] at h
        | some v1 =>
          simp [h0] at h
          subst h
          obtain ⟨g, hg, rfl⟩ := hx.ptr_inv
          obtain ⟨sv, hsv, g', val0, rfl, _, hlt, hra, _, h1, hrel⟩ := hI.blk b _ (hq.sub b _ hb)
          rw [hg] at hsv
          simp at hsv
          subst hsv
          have := RelD.rd (off := off) v1 val0 g 0 (ok := Q) (hq.own b _ _ g hb hg (by simp [own])) h1 hra (ro0_rel hI hq hrel h0)
          rwa [Nat.zero_add] at this
      · cases h
    · cases h
  · exact ro0_rel hI hq hx h
theorem ro_rel (hI : Inv ok B w ρ hp) {Q : Nat → Prop} {hp' : Hp} (hq : RoQ Q (okAt ok B ρ w) ρ hp hp') {v v' : V} {val : Value} (hx : Rel w (okAt ok B ρ w) ρ v val) (h : ro hp' v = some v') : RelD w Q v' val := by
  unfold ro at h
  split at h
  · rename_i f cs
    cases hm : cs.mapM (ro1 hp') with
    | none => simp [hm] at h
    | some cs' =>
      simp [hm] at h
      subst h
      obtain ⟨hl, hg⟩ := mapM_get hm
      obtain ⟨vs, rfl, hlv, hr⟩ := hx.fn_inv
      refine .fn f cs' vs (by omega) fun j c u hc hu => ?_
      obtain ⟨c0, hc0, hc1⟩ := hg j c hc
      exact ro1_rel hI hq (hr j c0 u hc0 hu) hc1
  · exact ro1_rel hI hq hx h
theorem RelD.ren {w : World} {ok : Nat → Prop} {v : V} {val : Value} (n : Nat) (h : RelD w ok v val) : RelD w ok (V.ren n v) val := by
  have get : ∀ {cs : List V} {j : Nat} {c : V}, (V.renL n cs)[j]? = some c → ∃ c', cs[j]? = some c' ∧ c = V.ren n c' := by
    intro cs
    induction cs with
    | nil => intro j c h; simp [V.renL] at h
    | cons x cs ih =>
      intro j c h
      cases j with
      | zero => simp [V.renL] at h; exact ⟨x, rfl, h.symm⟩
      | succ j => simp [V.renL] at h; simpa using ih h
  have len : ∀ cs : List V, (V.renL n cs).length = cs.length := by
    intro cs
    induction cs with
    | nil => rfl
    | cons x cs ih => simp [V.renL, ih]
  induction h with
  | int => simp only [V.ren]; exact .int _ _
  | bool => simp only [V.ren]; exact .bool _
  | str => simp only [V.ren]; exact .str _
  | agg cs vs hl h1 _ ih =>
    simp only [V.ren]
    refine .agg _ vs (by rw [len, hl]) h1 fun j c v hc hv => ?_
    obtain ⟨c', hc', rfl⟩ := get hc
    exact ih j c' v hc' hv
  | tup cs vs hl _ ih =>
    simp only [V.ren]
    refine .tup _ vs (by rw [len, hl]) fun j c v hc hv => ?_
    obtain ⟨c', hc', rfl⟩ := get hc
    exact ih j c' v hc' hv
  | nil => simp only [V.ren]; exact .nil _ _
  | row sz es g o cap vs hok hcap hmax hl hsz h1 hc h _ => simp only [V.ren]; exact .row sz es g o cap vs hok hcap hmax hl hsz h1 hc h
  | zero => simp only [V.ren]; exact .zero
  | rd v off val g o hok h1 hc h _ => simp only [V.ren]; exact .rd v off val g o hok h1 hc h
  | fn f cs vs hl _ ih =>
    simp only [V.ren]
    refine .fn f _ vs (by rw [len, hl]) fun j c v hc hv => ?_
    obtain ⟨c', hc', rfl⟩ := get hc
    exact ih j c' v hc' hv
  | undef => simp only [V.ren]; exact .undef _
  | raw => simp only [V.ren]; exact .raw _
def shift {α : Type} (n : Nat) (f : Nat → Option α) : Nat → Option α := fun b => if n ≤ b then f (b - n) else none
theorem Rel.ren {w : World} {ok : Nat → Prop} {ρ : Nat → Option Value} {v : V} {val : Value} (n : Nat) (h : Rel w ok ρ v val) : Rel w ok (shift n ρ) (V.ren n v) val := by
  have get : ∀ {cs : List V} {j : Nat} {c : V}, (V.renL n cs)[j]? = some c → ∃ c', cs[j]? = some c' ∧ c = V.ren n c' := by
    intro cs
    induction cs with
    | nil => intro j c h; simp [V.renL] at h
    | cons x cs ih =>
      intro j c h
      cases j with
      | zero => simp [V.renL] at h; exact ⟨x, rfl, h.symm⟩
      | succ j => simp [V.renL] at h; simpa using ih h
  have len : ∀ cs : List V, (V.renL n cs).length = cs.length := by
    intro cs
    induction cs with
    | nil => rfl
    | cons x cs ih => simp [V.renL, ih]
  induction h with
  | ro h => exact .ro (h.ren n)
  | ptr => simp only [V.ren]; exact .ro (.undef _)
  | eptr => simp only [V.ren]; exact .ro (.undef _)
  | sub => simp only [V.ren]; exact .ro (.undef _)
  | vec b sv h h1 => simp only [V.ren]; exact .vec _ _ (by simp [shift, h]) h1
  | agg cs vs hl h1 _ ih =>
    simp only [V.ren]
    refine .agg _ vs (by rw [len, hl]) h1 fun j c v hc hv => ?_
    obtain ⟨c', hc', rfl⟩ := get hc
    exact ih j c' v hc' hv
  | tup cs vs hl _ ih =>
    simp only [V.ren]
    refine .tup _ vs (by rw [len, hl]) fun j c v hc hv => ?_
    obtain ⟨c', hc', rfl⟩ := get hc
    exact ih j c' v hc' hv
  | fn f cs vs hl _ ih =>
    simp only [V.ren]
    refine .fn f _ vs (by rw [len, hl]) fun j c v hc hv => ?_
    obtain ⟨c', hc', rfl⟩ := get hc
    exact ih j c' v hc' hv
theorem Rel.plain {w : World} {ok ok' : Nat → Prop} {ρ : Nat → Option Value} {v : V} {val : Value} (h : Rel w ok ρ v val) (hp : V.plain v = true) : Rel w ok' ρ v val := by
  induction h with
  | ro h => exact .ro (h.plain hp)
  | ptr b off g h => exact .ptr b off g h
  | eptr b sz i off g n cap h => exact .eptr b sz i off g n cap h
  | vec b sv h h1 => exact .vec b sv h h1
  | sub b sz lo k g n cap c ad h hx => exact .sub b sz lo k g n cap c ad h hx
  | agg cs vs hl h1 _ ih => rw [V.plain, plainL_iff] at hp; exact .agg cs vs hl h1 fun j c v hc hv => ih j c v hc hv (hp c (List.mem_of_getElem? hc))
  | tup cs vs hl _ ih => rw [V.plain, plainL_iff] at hp; exact .tup cs vs hl fun j c v hc hv => ih j c v hc hv (hp c (List.mem_of_getElem? hc))
  | fn f cs vs hl _ ih => rw [V.plain, plainL_iff] at hp; exact .fn f cs vs hl fun j c v hc hv => ih j c v hc hv (hp c (List.mem_of_getElem? hc))
theorem okAt_shift {n : Nat} {g : Nat} : okAt ok B (shift n ρ) w g ↔ okAt ok B ρ w g := by
  unfold okAt
  refine or_congr Iff.rfl (and_congr Iff.rfl (and_congr Iff.rfl ⟨fun h b sv hr => h (n + b) sv (by simp [shift, hr]), fun h b sv hr => ?_⟩))
  unfold shift at hr
  split at hr
  · exact h _ sv hr
  · cases hr
theorem Inv.shift {hp : Hp} (n : Nat) (h : Inv ok B w ρ hp) (hb : ∀ b k, hp b = some k → noBox k = true) : Inv ok B w (shift n ρ) (shift n hp) := by
  have e : okAt ok B (Ev.shift n ρ) w = okAt ok B ρ w := by funext g; exact propext okAt_shift
  refine ⟨h.size, ?_, ?_, ?_⟩
  · intro b k hk
    unfold Ev.shift at hk
    split at hk
    · rename_i hle
      obtain ⟨sv, hr, hblk⟩ := h.blk _ k hk
      refine ⟨sv, by simp [Ev.shift, hle, hr], ?_⟩
      have hnb := hb _ k hk
      cases k with
      | box v => simp [noBox] at hnb
      | map kvs => exact hblk
      | vec T sz es => rw [e]; exact hblk
    · cases hk
  · intro b sv hr
    unfold Ev.shift at hr ⊢
    split at hr
    · rename_i hle; rw [if_pos hle]; exact h.dom _ sv hr
    · cases hr
  · intro b b' sv sv' g h1 h2 o1 o2
    unfold Ev.shift at h1 h2
    split at h1
    · split at h2
      · have := h.inj _ _ sv sv' g h1 h2 o1 o2; omega
      · cases h2
    · cases h1
theorem Inv.plain {ok' : Nat → Prop} {hp : Hp} (h : Inv ok B w ρ hp) (hb : ∀ b k, hp b = some k → Blk.plain k = true) : Inv ok' B w ρ hp := by
  refine ⟨h.size, ?_, h.dom, h.inj⟩
  intro b k hk
  obtain ⟨sv, hr, hblk⟩ := h.blk b k hk
  refine ⟨sv, hr, ?_⟩
  have hp' := hb b k hk
  cases k with
  | box v => simp [Blk.plain] at hp'
  | map kvs => exact hblk
  | vec T sz es =>
    obtain ⟨hpos, vs, hl, hsz, h1, hrr, ho⟩ := hblk
    simp only [Blk.plain, List.all_eq_true, Bool.and_eq_true] at hp'
    exact ⟨hpos, vs, hl, hsz, h1, fun i e v he hv => (hrr i e v he hv).plain (hp' e (List.mem_of_getElem? he)).1, ho⟩
theorem names_lookup (n : Nat) (bs : List Blk) : (fun b => (names n bs).lookup b) = shift n (fun j => bs[j]?) := by
  have key : ∀ (bs : List Blk) (k b : Nat), ((bs.zipIdx k).map fun (x, j) => (n + j, x)).lookup b = if n + k ≤ b then bs[b - (n + k)]? else none := by
    intro bs
    induction bs with
    | nil => intro k b; simp
    | cons x bs ih =>
      intro k b
      rw [List.zipIdx_cons, List.map_cons, List.lookup_cons, ih]
      by_cases hb : b = n + k
      · subst hb; simp
      · have hq : (b == n + k) = false := by simpa using hb
        rw [hq]
        by_cases hle : n + k ≤ b
        · rw [if_pos (by omega), if_pos hle, show b - (n + k) = (b - (n + (k + 1))) + 1 by omega]; simp
        · rw [if_neg (by omega), if_neg hle]
  funext b
  have := key bs 0 b
  simpa [names, shift] using this
theorem os_callV (hΦ : ∀ g args r bs, X.Φ g args = some (r, bs) → SoundAt P J g args r bs) (hJ : J w) (hI : Inv ok B w ρ hp) {f : Operand} {args : List Operand} {tys : Array TypeId}
    (hE : ∀ x, Rel w (okAt ok B ρ w) ρ (opd env x) (a.eval x)) (ho : o.op = .call ⟨.value f, args.toArray, tys⟩)
    (h : callV X hp d (opd env f) (args.map (opd env)) = some (v, eff)) : OpOk P ok B w ρ hp a o v eff := by
  unfold callV at h
  split at h
  · rename_i g cs hq
    have hf := hE f
    rw [hq] at hf
    obtain ⟨vs, hfe, hlv, hrv⟩ := hf.fn_inv
    -- the arguments
    have hall : ∀ (j : Nat) c u, (args.map (opd env) ++ cs)[j]? = some c → (args.map a.eval ++ vs)[j]? = some u → Rel w (okAt ok B ρ w) ρ c u := by
      intro j c u hc hu
      by_cases hj : j < args.length
      · rw [List.getElem?_append_left (by simpa using hj), List.getElem?_map] at hc hu
        rw [List.getElem?_eq_getElem hj] at hc hu
        simp at hc hu
        subst hc; subst hu
        exact hE _
      · rw [List.getElem?_append_right (by simpa using hj)] at hc hu
        simp at hc hu
        exact hrv _ c u hc hu
    have hlen : (args.map (opd env) ++ cs).length = (args.map a.eval ++ vs).length := by simp [hlv]
    have run : Callable P g → (execOp a.eval o).run P w = .ok (.enter g (args.map a.eval ++ vs).toArray) w := by
      rintro ⟨fn, h1, h2, h3⟩
      simp only [beq_eq_false_iff_ne, ne_eq] at h2
      have h3' : fn.body ≠ none := by intro e; simp [e] at h3
      simp [execOp, ho, resolve, hfe, Deferred.ofValue, invoke, callFunc, h1, h2, h3']
    -- what is taken over
    have take : ∀ (r : V) (bs : List Blk) (w1 : World) (ρr : Nat → Option Value) (val : Value), Below w.heap.size w w1 → fresh hp (names (8 * d) bs) = true → (∀ (b : Nat) k, bs[b]? = some k → noBox k = true) →
        Inv (okAt ok B ρ w) w.heap.size w1 ρr (fun j => bs[j]?) → Rel w1 (okAt (okAt ok B ρ w) w.heap.size ρr w1) ρr r val →
        Step ok B w ρ w1 (either ρ (shift (8 * d) ρr)) ((Eff.new (names (8 * d) bs)).hp hp) (Eff.new (names (8 * d) bs)).tr (Eff.new (names (8 * d) bs)).tc ∧ Rel w1 (okAt ok B (either ρ (shift (8 * d) ρr)) w1) (either ρ (shift (8 * d) ρr)) (V.ren (8 * d) r) val := by
      intro r bs w1 ρr val hb hfr hnb hi hr
      have hi2 := hi.shift (8 * d) hnb
      rw [← names_lookup] at hi2
      have hap : ∀ b k, (names (8 * d) bs).lookup b = some k → hp b = none := by
        intro b k hk
        unfold fresh at hfr
        rw [List.all_eq_true] at hfr
        have hmem : (b, k) ∈ names (8 * d) bs := by
          have : ∀ l : List (Nat × Blk), l.lookup b = some k → (b, k) ∈ l := by
            intro l
            induction l with
            | nil => intro h; simp at h
            | cons x l ih =>
              intro h
              obtain ⟨x1, x2⟩ := x
              rw [List.lookup_cons] at h
              by_cases hbx : b = x1
              · subst hbx; simp at h; subst h; simp
              · have : (b == x1) = false := by simpa using hbx
                rw [this] at h
                exact List.mem_cons_of_mem _ (ih h)
          exact this _ hk
        have := hfr _ hmem
        simp only [Bool.and_eq_true] at this
        simpa using this.1
      have hj := hI.join hb.size (fun g hg => hb.block g hg) hi2 hap
      refine ⟨⟨hb.mono hI.size, hj.1, hj.2.1, fun g hg _ => hb.block g hg, (fun b sv g hs ho => by
        unfold either at hs
        split at hs
        · rename_i hr1; simp at hs; subst hs; exact .inr ⟨b, _, hr1, ho⟩
        · exact .inl (hi2.own_ge hs ho).1), (fun b hb' => by
        unfold either
        cases hr1 : ρ b with
        | some s => rfl
        | none =>
          cases hr2 : shift (8 * d) ρr b with
          | none => rfl
          | some s =>
            exfalso
            obtain ⟨k, hk⟩ := hi2.dom b s hr2
            have : (Eff.new (names (8 * d) bs)).tc b = true := by
              simp only [Eff.tc]
              rw [List.any_eq_true]
              have : ∀ l : List (Nat × Blk), l.lookup b = some k → ∃ x ∈ l, (x.1 == b) = true := by
                intro l
                induction l with
                | nil => intro h; simp at h
                | cons x l ih =>
                  intro h
                  obtain ⟨x1, x2⟩ := x
                  rw [List.lookup_cons] at h
                  by_cases hbx : b = x1
                  · subst hbx; exact ⟨(b, x2), by simp, by simp⟩
                  · have : (b == x1) = false := by simpa using hbx
                    rw [this] at h
                    obtain ⟨y, hy, hy2⟩ := ih h
                    exact ⟨y, List.mem_cons_of_mem _ hy, hy2⟩
              exact this _ hk
            rw [this] at hb'
            cases hb'), hb.size⟩, hj.2.2 _ _ ?_⟩
      have e : okAt (okAt ok B ρ w) w.heap.size (shift (8 * d) ρr) w1 = okAt (okAt ok B ρ w) w.heap.size ρr w1 := by funext g; exact propext okAt_shift
      rw [e]
      exact hr.ren (8 * d)
    split at h
    · rename_i hd
      split at h
      · rename_i r bs hphi
        split at h
        · rename_i hc
          obtain ⟨rfl, rfl⟩ := some_pair h
          simp only [Bool.and_eq_true] at hc
          obtain ⟨hcal, hs⟩ := hΦ g _ r bs hphi
          intro K Q hK
          unfold Oper.wp
          rw [run hcal]
          refine (hs w (okAt ok B ρ w) _ hJ (fun g hg => okAt_lt hI.size hg) hlen fun j c u hcj huj => (hall j c u hcj huj).toD (dataL_iff.1 hd c (List.mem_of_getElem? hcj))).mono ?_
          rintro e w1 ⟨val, ρr, rfl, hb, hi, hr⟩
          obtain ⟨hst, hrel⟩ := take r bs w1 ρr val hb hc.1 (fun b k hk => List.all_eq_true.1 hc.2 k (List.mem_of_getElem? hk)) hi hr
          exact hK w1 _ val hst hrel
        · cases h
      · cases h
    · split at h
      · rename_i as has
        split at h
        · rename_i r bs hphi
          split at h
          · rename_i hc
            obtain ⟨rfl, rfl⟩ := some_pair h
            simp only [Bool.and_eq_true] at hc
            obtain ⟨hcal, hs⟩ := hΦ g _ r bs hphi
            obtain ⟨hl2, hg2⟩ := mapM_get has
            intro K Q hK
            unfold Oper.wp
            rw [run hcal]
            refine (hs w (fun g => g < w.heap.size) _ hJ (fun g hg => hg) (by omega) fun j c u hcj huj => ?_).mono ?_
            · obtain ⟨c0, hc0, hc1⟩ := hg2 j c hcj
              exact ro_rel hI (.all hI) (hall j c0 u hc0 huj) hc1
            · rintro e w1 ⟨val, ρr, rfl, hb, hi, hr⟩
              have hpl : ∀ (b : Nat) k, bs[b]? = some k → Blk.plain k = true := fun b k hk => List.all_eq_true.1 hc.2 k (List.mem_of_getElem? hk)
              obtain ⟨hst, hrel⟩ := take r bs w1 ρr val hb hc.1.1 (fun b k hk => by have := hpl b k hk; cases k <;> simp_all [Blk.plain, noBox]) (hi.plain hpl) (hr.plain hc.1.2)
              exact hK w1 _ val hst hrel
          · cases h
        · cases h
      · cases h
  · cases h
theorem os_lendV (hΛ : ∀ g L T sz es as es', X.Λ g = some L → L.2 T sz es as = some es' → LentAt P J L.1 g T sz es as es') (hJ : ∀ w', Below B w w' → J w') (hI : Inv ok B w ρ hp) {f : Operand} {args : List Operand} {tys : Array TypeId}
    (hE : ∀ x, Rel w (okAt ok B ρ w) ρ (opd env x) (a.eval x)) (ho : o.op = .call ⟨.value f, args.toArray, tys⟩) {g : FuncId} {cs : List V} {L : TypeId → Nat → List V → List V → Option (List V)} (hq : opd env f = .fn g cs) (hL : X.Λ g = some (false, L))
    (h : lendV L hp (args.map (opd env)) cs = some (v, eff)) : OpOk P ok B w ρ hp a o v eff := by
  have hf := hE f
  rw [hq] at hf
  obtain ⟨vs, hfe, hlv, hrv⟩ := hf.fn_inv
  have run : Callable P g → (execOp a.eval o).run P w = .ok (.enter g (args.map a.eval ++ vs).toArray) w := by
    rintro ⟨fn, h1, h2, h3⟩
    simp only [beq_eq_false_iff_ne, ne_eq] at h2
    have h3' : fn.body ≠ none := by intro e; simp [e] at h3
    simp [execOp, ho, resolve, hfe, Deferred.ofValue, invoke, callFunc, h1, h2, h3']
  unfold lendV at h
  cases args with
  | nil => simp at h
  | cons x0 rest =>
    rw [List.map_cons] at h
    split at h <;> first | (cases h; done) | skip
    rename_i b rest0 hxb
    simp only [List.cons.injEq] at hxb
    obtain ⟨hxb, rfl⟩ := hxb
    split at h <;> first | (cases h; done) | skip
    rename_i T sz es hb
    split at h <;> first | (cases h; done) | skip
    rename_i as has
    split at h <;> first | (cases h; done) | skip
    rename_i es' hes
    split at h <;> first | (cases h; done) | skip
    rename_i hpl
    obtain ⟨rfl, rfl⟩ := some_pair h
    have h0 := hE x0
    rw [hxb] at h0
    have hrb := h0.vec_inv
    have hone : (a.eval x0).oneCell' = true := by
      cases h0 with
      | ro h => cases h
      | vec _ _ _ h1 => exact h1
    generalize hsv : a.eval x0 = sv at hrb hone
    obtain ⟨sv', hsv', hpos, hown⟩ := hI.blk b _ hb
    rw [hrb] at hsv'
    simp at hsv'
    subst hsv'
    obtain ⟨hcal, hl⟩ : LendAt P J g T sz es as es' := hΛ g (false, L) T sz es as es' hL hes
    have hQ : RoQ (fun g => g < w.heap.size ∧ own sv ≠ some g) (okAt ok B ρ w) ρ hp (fun k => if k = b then none else hp k) := by
      refine ⟨fun g hg => ⟨okAt_lt hI.size hg, fun hown => ?_⟩, fun k bk hk => (by split at hk <;> first | cases hk | exact hk), fun k bk s g hk hr hown => ⟨(hI.own_ge hr hown).2, fun hown' => ?_⟩⟩
      · rcases hg with ⟨h1, _⟩ | ⟨_, _, h1⟩
        · have := (hI.own_ge hrb hown).1; omega
        · exact h1 b sv hrb hown
      · have := hI.inj k b s sv g hr hrb hown hown'
        subst this
        simp at hk
    obtain ⟨hl2, hg2⟩ := mapM_get has
    have hall : ∀ (j : Nat) c u, (rest.map (opd env) ++ cs)[j]? = some c → (rest.map a.eval ++ vs)[j]? = some u → Rel w (okAt ok B ρ w) ρ c u := by
      intro j c u hc hu
      by_cases hj : j < rest.length
      · rw [List.getElem?_append_left (by simpa using hj), List.getElem?_map] at hc hu
        rw [List.getElem?_eq_getElem hj] at hc hu
        simp at hc hu
        subst hc; subst hu
        exact hE _
      · rw [List.getElem?_append_right (by simpa using hj)] at hc hu
        simp at hc hu
        exact hrv _ c u hc hu
    have hlen : (rest.map (opd env) ++ cs).length = (rest.map a.eval ++ vs).length := by simp [hlv]
    intro K Q hK
    unfold Oper.wp
    rw [run hcal, List.map_cons, hsv, List.cons_append]
    refine (hl w B (fun g => g < w.heap.size ∧ own sv ≠ some g) sv (rest.map a.eval ++ vs) hJ hI.size (fun g hg => hg) hone hpos (hown.mono (fun g hg => ⟨hQ.ok g hg, rfl⟩) fun _ _ => rfl) (by omega) fun j c u hcj huj => ?_).mono ?_
    · obtain ⟨c0, hc0, hc1⟩ := hg2 j c hcj
      exact ro_rel hI hQ (hall j c0 u hc0 huj) hc1
    · rintro e w1 ⟨rfl, hbel, hkeep, hsz, hown1⟩
      have hch := hI.change (w' := w1) b (.vec b) (some (sv, .vec T sz es')) hsz (fun g hg hno => hkeep g hg (hno sv hrb)) (fun s k hn => by
        simp at hn
        obtain ⟨rfl, rfl⟩ := hn
        exact ⟨fun g hg => .inr ⟨sv, hrb, hg⟩, hpos, hown1.mono (fun g hg => hg.elim) fun _ _ => rfl⟩) (fun s hs h1 => by
        rw [hrb] at hs
        simp at hs
        subst hs
        exact .vec b sv (by simp [upd]) h1)
      have hupd : upd ρ b (some sv) = ρ := by funext k; unfold upd; split <;> simp_all
      refine hK w1 (upd ρ b (some sv)) (.tuple #[]) ⟨hbel, hch.1, hch.2, fun g hg hno => hkeep g hg (hno b sv hrb), (fun b' s g hs ho => by rw [hupd] at hs; exact .inr ⟨b', s, hs, ho⟩), fun _ _ => by rw [hupd], hsz⟩ ?_
      exact .tup [] [] rfl (by simp)
theorem tk_rel (hI : Inv ok B w ρ hp) {Q : Nat → Prop} {hp' : Hp} (hq : RoQ Q (okAt ok B ρ w) ρ hp hp') {v v' : V} {val : Value} (hx : Rel w (okAt ok B ρ w) ρ v val) (h : tk1 hp' v = some v') : Rel2 w Q (okAt ok B ρ w) v' val := by
  by_cases hv : ∃ b, v = .vec b
  · obtain ⟨b, rfl⟩ := hv
    unfold tk1 at h
    split at h
    · rename_i b0 hb0
      cases hb0
      split at h
      · rename_i T sz es hb
        simp only [Option.some.injEq] at h
        subst h
        have hrb := hx.vec_inv
        have hb1 := hq.sub b _ hb
        have hel : elemsV hp (.vec b) = some (sz, es) := by simp only [elemsV, hb1]
        rcases elems_rel hI hx hel with ⟨ad, cap, hxe, he⟩ | ⟨g, o0, cap, vs, hxe, hl, hsz, h1, hrr, hcell⟩
        · exact .inl ⟨ad, cap, hxe, he⟩
        · by_cases hn : es = []
          · subst hn; exact .inl ⟨_, cap, hxe, rfl⟩
          · refine .inr ⟨g, o0, cap, vs, hxe, ?_, hl, hsz, h1, hrr, hcell⟩
            obtain ⟨sv, hsv, _, hown⟩ := hI.blk b _ hb1
            rw [hrb] at hsv
            simp at hsv
            subst hsv
            rcases hown.form with ⟨ad, he, hz⟩ | ⟨g0, cap0, vs0, he, hc0, _⟩
            · exact absurd hz hn
            · rw [hxe] at he
              simp only [Value.slice.injEq, Option.some.injEq, Addr.mk.injEq] at he
              refine hq.own b _ _ g hb hrb ?_
              rw [hxe]
              simp only [own]
              rw [if_neg (by rw [he.2.2]; exact hc0)]
      · cases h
    · rename_i hne
      cases hne
    · rename_i hne _
      exact absurd rfl (hne b)
  by_cases hv2 : ∃ b sz lo k, v = .sub b sz lo k
  · obtain ⟨b, sz0, lo, k, rfl⟩ := hv2
    simp only [tk1, partR, Option.map_eq_some_iff] at h
    obtain ⟨⟨T, es0⟩, hs, rfl⟩ := h
    have hs' : subE hp b sz0 (lo + k) = some (T, es0) := by
      unfold subE at hs ⊢
      cases hb : hp' b with
      | none => simp [hb] at hs
      | some kb => rw [hb] at hs; rw [hq.sub b kb hb]; exact hs
    obtain ⟨hb, hpos, g, cap, c, ad, vs, hg, hc0, rfl, hle, hkc, hcm, ha, hl, hsz, h1, hrr, how⟩ := sub_form hI hx hs'
    by_cases hk : k = 0
    · subst hk; exact .inl ⟨ad, c, rfl, by simp⟩
    · have had := ha.resolve_left (by omega)
      subst had
      have hlen : ((es0.drop lo).take k).length = k := by rw [List.length_take, List.length_drop]; omega
      obtain ⟨kb, hbk⟩ : ∃ kb, hp' b = some kb := by
        unfold subE at hs
        cases hb' : hp' b with
        | none => simp [hb'] at hs
        | some kb => exact ⟨kb, rfl⟩
      refine .inr ⟨g, lo * sz0, c, (vs.drop lo).take k, by rw [hlen], hq.own b kb _ g hbk hg (by simp [own, hc0]), by rw [List.length_take, List.length_drop, hlen]; omega, fun v hv => hsz v (List.mem_of_mem_drop (List.mem_of_mem_take hv)), fun v hv => h1 v (List.mem_of_mem_drop (List.mem_of_mem_take hv)), fun i e v he hv => hrr (lo + i) e v (part_get he).2 (part_get hv).2, fun j u hu => ?_⟩
      have := how.cells (g := g) rfl (lo * sz0 + j) u (flat_part hsz hu)
      rwa [Addr.add_mid, Nat.zero_add] at this
  · have hd : V.data v = true ∧ v' = v := by
      unfold tk1 at h
      split at h
      · exact absurd ⟨_, rfl⟩ hv
      · exact absurd ⟨_, _, _, _, rfl⟩ hv2
      · split at h
        · rename_i hd; simp only [Option.some.injEq] at h; exact ⟨hd, h.symm⟩
        · cases h
    obtain ⟨hd, rfl⟩ := hd
    have hr := hx.toD hd
    unfold Rel2
    split
    · rename_i sz0 es0
      cases hr with
      | nil => exact .inl ⟨_, 0, rfl, rfl⟩
      | row _ _ g o cap vs hok hcap hmax hl hsz h1 hc h =>
        have hel : elemsV hp (.row sz0 es0) = some (sz0, es0) := rfl
        rcases elems_rel hI hx hel with ⟨ad, cap, hxe, he⟩ | ⟨g', o0, cap', vs', hxe, hl, hsz, h1, hrr, hcell⟩
        · exact .inl ⟨ad, cap, hxe, he⟩
        · simp only [Value.slice.injEq, Option.some.injEq, Addr.mk.injEq] at hxe
          obtain ⟨⟨rfl, rfl, _⟩, _, rfl⟩ := hxe
          exact .inr ⟨_, _, _, vs', rfl, hq.ok _ hok, hl, hsz, h1, hrr, hcell⟩
    · exact hr
theorem os_takeV (hΛ : ∀ g L T sz es as es', X.Λ g = some L → L.2 T sz es as = some es' → LentAt P J L.1 g T sz es as es') (hJ : ∀ w', Below B w w' → J w') (hI : Inv ok B w ρ hp) {f : Operand} {args : List Operand} {tys : Array TypeId}
    (hE : ∀ x, Rel w (okAt ok B ρ w) ρ (opd env x) (a.eval x)) (ho : o.op = .call ⟨.value f, args.toArray, tys⟩) {g : FuncId} {cs : List V} {L : TypeId → Nat → List V → List V → Option (List V)} (hq : opd env f = .fn g cs) (hL : X.Λ g = some (true, L))
    (h : takeV L hp (args.map (opd env)) cs = some (v, eff)) : OpOk P ok B w ρ hp a o v eff := by
  have hf := hE f
  rw [hq] at hf
  obtain ⟨vs, hfe, hlv, hrv⟩ := hf.fn_inv
  have run : Callable P g → (execOp a.eval o).run P w = .ok (.enter g (args.map a.eval ++ vs).toArray) w := by
    rintro ⟨fn, h1, h2, h3⟩
    simp only [beq_eq_false_iff_ne, ne_eq] at h2
    have h3' : fn.body ≠ none := by intro e; simp [e] at h3
    simp [execOp, ho, resolve, hfe, Deferred.ofValue, invoke, callFunc, h1, h2, h3']
  unfold takeV at h
  cases args with
  | nil => simp at h
  | cons x0 rest =>
    rw [List.map_cons] at h
    split at h <;> first | (cases h; done) | skip
    rename_i b rest0 hxb
    simp only [List.cons.injEq] at hxb
    obtain ⟨hxb, rfl⟩ := hxb
    split at h <;> first | (cases h; done) | skip
    rename_i T sz es hb
    split at h <;> first | (cases h; done) | skip
    rename_i as has
    split at h <;> first | (cases h; done) | skip
    rename_i es' hes
    split at h <;> first | (cases h; done) | skip
    rename_i hpl
    obtain ⟨rfl, rfl⟩ := some_pair h
    have h0 := hE x0
    rw [hxb] at h0
    have hrb := h0.vec_inv
    have hone : (a.eval x0).oneCell' = true := by
      cases h0 with
      | ro h => cases h
      | vec _ _ _ h1 => exact h1
    generalize hsv : a.eval x0 = sv at hrb hone
    obtain ⟨sv', hsv', hpos, hown⟩ := hI.blk b _ hb
    rw [hrb] at hsv'
    simp at hsv'
    subst hsv'
    obtain ⟨hcal, hl⟩ : TakeAt P J g T sz es as es' := hΛ g (true, L) T sz es as es' hL hes
    have hQ : RoQ (fun g => g < w.heap.size ∧ own sv ≠ some g) (okAt ok B ρ w) ρ hp (fun k => if k = b then none else hp k) := by
      refine ⟨fun g hg => ⟨okAt_lt hI.size hg, fun hown => ?_⟩, fun k bk hk => (by split at hk <;> first | cases hk | exact hk), fun k bk s g hk hr hown => ⟨(hI.own_ge hr hown).2, fun hown' => ?_⟩⟩
      · rcases hg with ⟨h1, _⟩ | ⟨_, _, h1⟩
        · have := (hI.own_ge hrb hown).1; omega
        · exact h1 b sv hrb hown
      · have := hI.inj k b s sv g hr hrb hown hown'
        subst this
        simp at hk
    obtain ⟨hl2, hg2⟩ := mapM_get has
    have hall : ∀ (j : Nat) c u, (rest.map (opd env) ++ cs)[j]? = some c → (rest.map a.eval ++ vs)[j]? = some u → Rel w (okAt ok B ρ w) ρ c u := by
      intro j c u hc hu
      by_cases hj : j < rest.length
      · rw [List.getElem?_append_left (by simpa using hj), List.getElem?_map] at hc hu
        rw [List.getElem?_eq_getElem hj] at hc hu
        simp at hc hu
        subst hc; subst hu
        exact hE _
      · rw [List.getElem?_append_right (by simpa using hj)] at hc hu
        simp at hc hu
        exact hrv _ c u hc hu
    have hlen : (rest.map (opd env) ++ cs).length = (rest.map a.eval ++ vs).length := by simp [hlv]
    intro K Q hK
    unfold Oper.wp
    rw [run hcal, List.map_cons, hsv, List.cons_append]
    refine (hl w B (fun g => g < w.heap.size ∧ own sv ≠ some g) (okAt ok B ρ w) sv (rest.map a.eval ++ vs) hJ hI.size (fun g hg => hg) hQ.ok hone hpos hown (by omega) fun j c u hcj huj => ?_).mono ?_
    · obtain ⟨c0, hc0, hc1⟩ := hg2 j c hcj
      exact tk_rel hI hQ (hall j c0 u hc0 huj) hc1
    · rintro e w1 ⟨v', rfl, hbel, hkeep, hsz, hownn, hone', hown1⟩
      have hkeep' : ∀ k, k < w.heap.size → (∀ s, ρ b = some s → own s ≠ some k) → w1.heap[k]? = w.heap[k]? := fun k hk hne => hkeep k hk (hne _ hrb)
      have hokk : ∀ k, okAt ok B ρ w k → okAt ok B (upd ρ b (some v')) w1 k ∧ w1.heap[k]? = w1.heap[k]? := by
        intro k hk
        refine ⟨?_, rfl⟩
        rcases hk with ⟨hlt, hok⟩ | ⟨hge, hlt, hno⟩
        · exact .inl ⟨hlt, hok⟩
        · refine .inr ⟨hge, by omega, fun b' s hr' ho' => ?_⟩
          unfold upd at hr'
          split at hr'
          · simp at hr'
            subst hr'
            rcases hownn k ho' with hq | hq
            · omega
            · exact hno b _ hrb hq
          · exact hno b' s hr' ho'
      have hch := hI.change (w' := w1) b .undef (some (v', .vec T sz es')) hsz hkeep' (fun s k hn => by
        simp at hn
        obtain ⟨rfl, rfl⟩ := hn
        exact ⟨fun g hg => (hownn g hg).imp id fun hq => ⟨_, hrb, hq⟩, hpos, hown1.mono hokk fun _ _ => rfl⟩) (fun _ _ _ => .ro (.undef _))
      refine hK w1 (upd ρ b (some v')) v' ⟨hbel, hch.1, hch.2, fun g hg hno => hkeep' g hg fun s hr => hno b s hr, (fun b' s g hs ho => by
        unfold upd at hs
        split at hs
        · simp at hs
          subst hs
          rcases hownn g ho with hq | hq
          · exact .inl hq
          · exact .inr ⟨b, _, hrb, hq⟩
        · exact .inr ⟨b', s, hs, ho⟩), (fun b' hb' => by
        have hne : ¬ b' = b := by intro e; subst e; simp [Eff.tc] at hb'
        unfold upd; rw [if_neg hne]), hsz⟩ (.vec _ _ (by simp [upd]) hone')
theorem nonE_run (hI : Inv ok B w ρ hp) {v : V} {val : Value} {b : Bool} (h : nonE hp v = some b) (hv : Rel w (okAt ok B ρ w) ρ v val) : b = false ∧ ∃ ad n c, val = .slice (some ad) n c := by
  unfold nonE at h
  split at h
  · rename_i sz es
    split at h
    · rename_i hl
      have hd := hv.row_inv
      simp only [Option.some.injEq] at h
      refine ⟨h.symm, ?_⟩
      cases hd with
      | nil => simp at hl
      | row _ _ g o cap vs => exact ⟨_, _, _, rfl⟩
    · cases h
  · rename_i b'
    split at h
    · rename_i T sz es hb
      split at h
      · rename_i hl
        simp only [Option.some.injEq] at h
        refine ⟨h.symm, ?_⟩
        have hr := hv.vec_inv
        obtain ⟨sv, hsv, _, hown⟩ := hI.blk b' _ hb
        rw [hr] at hsv
        simp at hsv
        subst hsv
        rcases hown.form with ⟨ad, _, he⟩ | ⟨g, cap, vs, he, _⟩
        · rw [he] at hl; simp at hl
        · exact ⟨_, _, _, he⟩
      · cases h
    · cases h
  · simp only [Option.some.injEq] at h
    refine ⟨h.symm, ?_⟩
    cases hv with | ro hd => cases hd; exact ⟨_, _, _, rfl⟩
  · cases h
theorem equalIn_nil1 (n : Nat) {T e : TypeId} (hu : P.underlying T = some (.slice e)) (b : Option Addr) (m c : Nat) : (Op.equalIn (n + 1) T (.slice none 0 0) (.slice b m c)).run P w = .ok b.isNone w := by
  simp [Op.equalIn, run_underlying hu]
theorem equalIn_nil2 (n : Nat) {T e : TypeId} (hu : P.underlying T = some (.slice e)) (b : Addr) (m c : Nat) : (Op.equalIn (n + 1) T (.slice (some b) m c) (.slice none 0 0)).run P w = .ok false w := by
  simp [Op.equalIn, run_underlying hu]
theorem nil_run (hT : TOk P X.T) (hI : Inv ok B w ρ hp) {T : TypeId} {x y : V} {vx vy : Value} {b : Bool} (h : nilEq X hp T x y = some b) (hx : Rel w (okAt ok B ρ w) ρ x vx) (hy : Rel w (okAt ok B ρ w) ρ y vy) :
    ∃ ad n c ad' n' c', vx = .slice ad n c ∧ vy = .slice ad' n' c' ∧ (Op.equalIn 10000 T (.slice ad n c) (.slice ad' n' c')).run P w = .ok b w := by
  unfold nilEq at h
  split at h
  · rename_i e s1 b1 z1 hTT
    obtain ⟨I, d0, z, hf⟩ := hT _ _ hTT
    have htk := hf.tk
    cases d0 <;> first | (simp [tkOk] at htk; done) | skip
    split at h
    · obtain ⟨ax, rfl⟩ : ∃ u : Unit, vx = .slice none 0 0 := by
        cases hx with | ro hx => cases hx; exact ⟨(), rfl⟩
      split at h
      · obtain ⟨ay, rfl⟩ : ∃ u : Unit, vy = .slice none 0 0 := by
          cases hy with | ro hy => cases hy; exact ⟨(), rfl⟩
        simp only [Option.some.injEq] at h
        subst h
        exact ⟨_, _, _, _, _, _, rfl, rfl, equalIn_nil1 9999 hf.under none 0 0⟩
      · obtain ⟨rfl, ad, n, c, rfl⟩ := nonE_run hI h hy
        exact ⟨_, _, _, _, _, _, rfl, rfl, equalIn_nil1 9999 hf.under (some ad) n c⟩
    · split at h
      · obtain ⟨ay, rfl⟩ : ∃ u : Unit, vy = .slice none 0 0 := by
          cases hy with | ro hy => cases hy; exact ⟨(), rfl⟩
        obtain ⟨rfl, ad, n, c, rfl⟩ := nonE_run hI h hx
        exact ⟨_, _, _, _, _, _, rfl, rfl, equalIn_nil2 9999 hf.under ad n c⟩
      · cases h
  · cases h
theorem op_sound (hT : TOkX P X) (hΛ : ∀ g L T sz es as es', X.Λ g = some L → L.2 T sz es as = some es' → LentAt P J L.1 g T sz es as es') (hΦ : ∀ g args r bs, X.Φ g args = some (r, bs) → SoundAt P J g args r bs) (hJ : ∀ w', Below B w w' → J w') (hI : Inv ok B w ρ hp) (hE : ∀ x, Rel w (okAt ok B ρ w) ρ (opd env x) (a.eval x))
    (h : evalOp X env hp d o.op = some (v, eff)) : OpOk P ok B w ρ hp a o v eff := by
  cases hop : o.op with
  | move x => rw [hop] at h; exact os_move hI hE hop h
  | assign x => rw [hop] at h; exact os_assign hI hE hop h
  | pick c x y => rw [hop] at h; exact os_pick hI hE hop h
  | alloc T => rw [hop] at h; exact os_alloc hT.1 hI hop h
  | box T x => rw [hop] at h; exact os_box hI hE hop h
  | build T ps => rw [hop] at h; exact os_build hT.1 hI hE hop h
  | buildSlice T n ps => rw [hop] at h; exact os_buildSlice hT.1 hI hE hop h
  | load T x => rw [hop] at h; exact os_load hT.1 hI hE hop h
  | store T x y => rw [hop] at h; exact os_store hT.1 hI hE hop h
  | nilCheck x => rw [hop] at h; exact os_nilCheck hI hE hop h
  | binOp op T x y U => rw [hop] at h; exact os_bin hT hI hE (fun b hb => nil_run hT.1 hI hb (hE x) (hE y)) hop h
  | unOp op T x => rw [hop] at h; exact os_un hI hE hop h
  | convert s t x => rw [hop] at h; exact os_convert hT.1 hI hE hop h
  | makeFunc fn first cs => rw [hop] at h; exact os_makeFunc hI hE hop h
  | makeSlice T x y => rw [hop] at h; exact os_makeSlice hT.1 hI hE hop h
  | makeMap T r => rw [hop] at h; exact os_makeMap hT.1 hI hE hop h
  | lookup T x i ok => rw [hop] at h; exact os_lookup hT.1 hI hE hop h
  | mapUpdate T m k v => rw [hop] at h; exact os_mapUpdate hT.1 hI hE hop h
  | slice T x lo hi mx => rw [hop] at h; exact os_slice hT.1 hI hE hop h
  | fieldAddr T x f => rw [hop] at h; exact os_fieldAddr hT.1 hI hE hop h
  | indexAddr T x i => rw [hop] at h; exact os_indexAddr hT.1 hI hE hop h
  | index T x i => rw [hop] at h; exact os_index hT.1 hI hE hop h
  | field T x f => rw [hop] at h; exact os_field hT.1 hI hE hop h
  | extract x i => rw [hop] at h; exact os_extract hI hE hop h
  | call c =>
    rw [hop] at h
    cases hc : c.callee with
    | value f =>
      obtain ⟨cal, args, tys⟩ := c
      simp only at hc
      subst hc
      obtain ⟨args⟩ := args
      simp only [evalOp] at h
      unfold callW at h
      split at h
      · rename_i g cs hq
        split at h
        · rename_i L hL
          exact os_takeV hΛ hJ hI hE hop hq hL h
        · rename_i L hL
          exact os_lendV hΛ hJ hI hE hop hq hL h
        · exact os_callV hΦ (hJ w (.refl _ _)) hI hE hop h
      · exact os_callV hΦ (hJ w (.refl _ _)) hI hE hop h
    | invoke _ _ => simp [evalOp, hc] at h
    | builtin b =>
      cases b <;> first
        | exact os_len hT.1 hI hE hc hop h
        | exact os_append hT.1 hI hE hc hop h
        | exact os_copy hT.1 hI hE hc hop h
        | exact os_clear hT.1 hI hE hc hop h
        | exact os_max hI hE hc hop h
        | exact os_min hI hE hc hop h
        | (simp [evalOp, hc] at h; done)
  | _ => rw [hop] at h; simp [evalOp] at h
end
/-! ### Code -/
structure St where
  env : List (Nat × V)
  hp : List (Nat × Blk)
def setA {α : Type} (t : Nat) (v : α) : List (Nat × α) → List (Nat × α)
  | [] => [(t, v)]
  | (t', v') :: l => if t = t' then (t, v) :: l else if t < t' then (t, v) :: (t', v') :: l else (t', v') :: setA t v l
def setH {α : Type} (t : Nat) (v : α) : List (Nat × α) → List (Nat × α)
  | [] => [(t, v)]
  | (t', v') :: l => if t = t' then (t, v) :: l else (t', v') :: setH t v l
def look {α : Type} (t : Nat) : List (Nat × α) → Option α
  | [] => none
  | (t', v) :: l => if t = t' then some v else look t l
theorem look_lookup {α : Type} (t : Nat) : ∀ l : List (Nat × α), l.lookup t = look t l
  | [] => rfl
  | (t', v) :: l => by
    rw [List.lookup_cons, look, look_lookup t l]
    by_cases h : t = t'
    · simp [h]
    · have : (t == t') = false := by simpa using h
      simp [h, this]
theorem look_setA {α : Type} (t : Nat) (v : α) (x : Nat) : ∀ l : List (Nat × α), look x (setA t v l) = if x = t then some v else look x l
  | [] => by simp [setA, look]
  | (t', v') :: l => by
    unfold setA
    split
    · rename_i h; subst h; simp only [look]; split <;> simp_all
    · split
      · simp only [look]
      · simp only [look, look_setA t v x l]
        split
        · rename_i h1 h2 h3; subst h3; rw [if_neg (by omega)]
        · rfl
theorem look_setH {α : Type} (t : Nat) (v : α) (x : Nat) : ∀ l : List (Nat × α), look x (setH t v l) = if x = t then some v else look x l
  | [] => by simp [setH, look]
  | (t', v') :: l => by
    unfold setH
    split
    · rename_i h; subst h; simp only [look]; split <;> simp_all
    · simp only [look, look_setH t v x l]
      split
      · rename_i h1 h3; subst h3; rw [if_neg (by omega)]
      · rfl
theorem look_map {α β : Type} (f : α → β) (x : Nat) : ∀ l : List (Nat × α), look x (l.map fun p => (p.1, f p.2)) = (look x l).map f
  | [] => rfl
  | (t', v') :: l => by simp only [List.map_cons, look, look_map f x l]; split <;> simp
theorem look_append {α : Type} (x : Nat) : ∀ l l' : List (Nat × α), look x (l ++ l') = match look x l with | some v => some v | none => look x l'
  | [], l' => rfl
  | (t', v') :: l, l' => by
    simp only [List.cons_append, look, look_append x l l']
    split <;> rfl
def mapA {α : Type} (f : α → α) (l : List (Nat × α)) : List (Nat × α) := l.map fun p => (p.1, f p.2)
def St.e (σ : St) : Env := fun t => (look t σ.env).getD .undef
def St.h (σ : St) : Hp := fun b => look b σ.hp
def putE (dst : Option Nat) (v : V) (env : List (Nat × V)) : List (Nat × V) :=
  match dst with
  | some t => setA t v env
  | none => env
def St.app (σ : St) (e : Eff) (dst : Option Nat) (v : V) : St :=
  match e with
  | .none => ⟨putE dst v σ.env, σ.hp⟩
  | .new l => ⟨putE dst v σ.env, σ.hp ++ l⟩
  | .write b k => ⟨putE dst v σ.env, setH b k σ.hp⟩
  | .change b k => ⟨putE dst v (mapA (V.scrub b .undef) σ.env), setH b k (mapA (Blk.scrub b .undef) σ.hp)⟩
  | .lend b k => ⟨putE dst v (mapA (V.scrub b (.vec b)) σ.env), setH b k (mapA (Blk.scrub b (.vec b)) σ.hp)⟩
/-- a row of one's own becomes data -/
def St.freeze (σ : St) (b : Nat) : Option St :=
  match look b σ.hp with
  | some (.vec _ sz es) => some ⟨mapA (V.scrub b (.row sz es)) σ.env, (mapA (Blk.scrub b (.row sz es)) σ.hp).filter fun p => p.1 != b⟩
  | none => some σ
  | _ => none
def freezeL : List Nat → St → Option St
  | [], σ => some σ
  | b :: bs, σ => match σ.freeze b with
    | some σ' => freezeL bs σ'
    | none => none
def St.drop (σ : St) (ts : List Nat) : St := ⟨σ.env.filter fun p => !ts.contains p.1, σ.hp⟩
def onSome {α : Type} (x : Option α) (K : α → Prop) : Prop :=
  match x with
  | some a => K a
  | none => False
def onBool (x : V) (K : Bool → Prop) : Prop :=
  match x with
  | .bool b => K b
  | _ => False
/-- what a guard's slot says: a bool, or that it was passed over -/
def gOf : V → Option (Option Bool)
  | .bool b => some (some b)
  | .raw v => match v with
    | .bool _ => none
    | _ => some none
  | _ => none
def onIf (b : Bool) (x y : Prop) : Prop := if b = true then x else y
def dstOk (n : Nat) : Option Nat → Prop
  | some t => t < n
  | none => True
def guardT (ops : List Oper) (j : Nat) : Option Nat := (ops[j]?).bind (·.dst)
def evOps (X : Ctx) (n : Nat) (ops : List Oper) : List Oper → St → (St → Prop) → Prop
  | [], σ, K => K σ
  | ⟨dst, op, _, _, _, none⟩ :: os, σ, K =>
    onSome (freezeL (X.frz (dst.getD 0)) σ) fun σ => onSome (evalOp X σ.e σ.h (dst.getD 0) op) fun p => dstOk n dst ∧ evOps X n ops os (σ.app p.2 dst p.1) K
  | ⟨dst, op, _, _, _, some (j, want)⟩ :: os, σ, K =>
    onSome (guardT ops j) fun t => onSome (gOf (σ.e t)) fun b =>
      onIf (b == some want) (onSome (evalOp X σ.e σ.h (dst.getD 0) op) fun p => dstOk n dst ∧ evOps X n ops os (σ.app p.2 dst p.1) K) (dstOk n dst ∧ evOps X n ops os (σ.app .none dst (.raw Go.undef)) K)
def Eff.mild : Eff → Bool
  | .none => true
  | .new _ => true
  | _ => false
/-- the head of a region that draws its order: its operations only read and make -/
def evHead (X : Ctx) (n : Nat) (ops : List Oper) : List Oper → St → (St → Prop) → Prop
  | [], σ, K => K σ
  | ⟨dst, op, _, _, _, none⟩ :: os, σ, K =>
    onSome (evalOp X σ.e σ.h (dst.getD 0) op) fun p => (dstOk n dst ∧ p.2.mild = true) ∧ evHead X n ops os (σ.app p.2 dst p.1) K
  | ⟨dst, op, _, _, _, some (j, want)⟩ :: os, σ, K =>
    onSome (guardT ops j) fun t => onSome (gOf (σ.e t)) fun b =>
      onIf (b == some want) (onSome (evalOp X σ.e σ.h (dst.getD 0) op) fun p => (dstOk n dst ∧ p.2.mild = true) ∧ evHead X n ops os (σ.app p.2 dst p.1) K) (dstOk n dst ∧ evHead X n ops os (σ.app .none dst (.raw Go.undef)) K)
/-- the first m operations may come in whatever order, those behind them in the text's -/
def drB (ops : Array Oper) (m : Nat) : Bool :=
  ((List.range ops.size).all fun i => match ops[i]? with
    | some o => o.after.all fun e => !Region.binds .any e || decide (e.on < i)
    | none => true) &&
  ((List.range m).all fun i => (List.range m).all fun j => decide (j ≤ i) || Region.waitsFor .any ops j i || (match ops[i]?, ops[j]? with
    | some x, some y => x.apart ops y
    | _, _ => true)) &&
  (m == ops.size || (decide (m < ops.size) && Region.sinkB .any ops m && Region.chainB .any ops m))
/-- what an operation of a head that writes has touched, and what it wrote -/
structure Ent where
  us : Option (List V)
  w : Option Nat
mutual
def V.noRef (b : Nat) : V → Bool
  | .agg cs => V.noRefL b cs
  | .tup cs => V.noRefL b cs
  | .fn _ cs => V.noRefL b cs
  | .ptr b' _ => !(b' == b)
  | .eptr b' _ _ _ => !(b' == b)
  | .vec b' => !(b' == b)
  | .sub b' _ _ _ => !(b' == b)
  | _ => true
def V.noRefL (b : Nat) : List V → Bool
  | [] => true
  | v :: vs => V.noRef b v && V.noRefL b vs
end
def touchOf (e : Env) : Op → Option (List V)
  | .move _ => some []
  | .assign _ => some []
  | .pick _ _ _ => some []
  | .alloc _ => some []
  | .box _ _ => some []
  | .build _ _ => some []
  | .nilCheck _ => some []
  | .unOp _ _ _ => some []
  | .convert _ _ _ => some []
  | .fieldAddr _ _ _ => some []
  | .field _ _ _ => some []
  | .index _ _ _ => some []
  | .extract _ _ => some []
  | .load _ a => some [opd e a]
  | .store _ a _ => some [opd e a]
  | .indexAddr _ x _ => some [opd e x]
  | .binOp _ _ x y _ => some [opd e x, opd e y]
  | .call ⟨.builtin .copy, args, _⟩ => some (args.toList.map (opd e))
  | _ => none
def Eff.tame : Eff → Bool
  | .none => true
  | .new _ => true
  | .write _ _ => true
  | _ => false
def Eff.wb : Eff → Option Nat
  | .write b _ => Option.some b
  | _ => Option.none
def offW : Option Nat → Option (List V) → Bool
  | none, _ => true
  | some _, none => false
  | some b, some l => l.all (V.noRef b)
def apartE (x y : Ent) : Bool := offW x.w y.us && offW y.w x.us
def okU : Option Ent → Ent → Bool
  | some x, y => apartE x y
  | none, _ => false
def okW (L : List (Nat × Ent)) (un : List Nat) (us : Option (List V)) (eff : Eff) : Bool :=
  eff.tame && (us.isSome || eff.wb.isNone) && un.all fun i => okU (look i L) ⟨us, eff.wb⟩
/-- a head whose operations may write, too: those that may change places are apart in what they touch and write -/
def evHeadW (X : Ctx) (n : Nat) (ops : List Oper) : List (Oper × List Nat) → Nat → List (Nat × Ent) → St → (St → Prop) → Prop
  | [], _, _, σ, K => K σ
  | (⟨dst, op, _, _, _, none⟩, un) :: os, k, L, σ, K =>
    onSome (evalOp X σ.e σ.h (dst.getD 0) op) fun p => (dstOk n dst ∧ okW L un (touchOf σ.e op) p.2 = true) ∧ evHeadW X n ops os (k + 1) ((k, ⟨touchOf σ.e op, p.2.wb⟩) :: L) (σ.app p.2 dst p.1) K
  | (⟨dst, op, _, _, _, some (j, want)⟩, un) :: os, k, L, σ, K =>
    onSome (guardT ops j) fun t => onSome (gOf (σ.e t)) fun b =>
      onIf (b == some want) (onSome (evalOp X σ.e σ.h (dst.getD 0) op) fun p => (dstOk n dst ∧ okW L un (touchOf σ.e op) p.2 = true) ∧ evHeadW X n ops os (k + 1) ((k, ⟨touchOf σ.e op, p.2.wb⟩) :: L) (σ.app p.2 dst p.1) K)
        (dstOk n dst ∧ evHeadW X n ops os (k + 1) ((k, ⟨some [], none⟩) :: L) (σ.app .none dst (.raw Go.undef)) K)
def waits2 (ops : Array Oper) (j i : Nat) : Bool := Region.waitsFor .any ops j i || (List.range j).any fun k => Region.waitsFor .any ops j k && Region.waitsFor .any ops k i
def drBW (ops : Array Oper) (un : List (List Nat)) : Bool :=
  drB ops un.length && (List.range un.length).all fun j => (List.range j).all fun i => ((un[j]?).getD []).contains i || waits2 ops j i
def drOk (ops : Array Oper) : Nat × List (List Nat) → Bool
  | (m, []) => drB ops m
  | (_, u :: un) => drBW ops (u :: un)
def evDr (X : Ctx) (n : Nat) (ops : List Oper) : Nat × List (List Nat) → St → (St → Prop) → Prop
  | (m, []), σ, K => evHead X n ops (ops.take m) σ fun σ1 => evOps X n ops (ops.drop m) σ1 K
  | (_, u :: un), σ, K => evHeadW X n ops ((ops.take (u :: un).length).zip (u :: un)) 0 [] σ fun σ1 => evOps X n ops (ops.drop (u :: un).length) σ1 K
/-- all regions that draw stand in the table, rightly -/
def drAll (dr : List (Nat × (Nat × List (List Nat)))) : Code → Bool
  | .region id ops true => match look id dr with
    | some m => drOk ops m
    | none => false
  | .region _ _ false => true
  | .seq x y => drAll dr x && drAll dr y
  | .cond _ x y => drAll dr x && drAll dr y
  | .block _ x => drAll dr x
  | .loop x => drAll dr x
  | _ => true
inductive Ex where
  | normal
  | exit (id : Nat)
  | ret
/-- what is forgotten at a loop's head: all but these slots; these blocks -/
def St.keep (σ : St) (ts : List Nat) (bs : List Nat) : St := ⟨σ.env.filter fun p => ts.contains p.1, σ.hp.filter fun p => bs.contains p.1⟩
mutual
def V.refsIn (bs : List Nat) : V → Bool
  | .agg cs => V.refsInL bs cs
  | .tup cs => V.refsInL bs cs
  | .fn _ cs => V.refsInL bs cs
  | .ptr b _ => bs.contains b
  | .eptr b _ _ _ => bs.contains b
  | .vec b => bs.contains b
  | .sub b _ _ _ => bs.contains b
  | _ => true
def V.refsInL (bs : List Nat) : List V → Bool
  | [] => true
  | v :: vs => V.refsIn bs v && V.refsInL bs vs
end
def Blk.refsIn (bs : List Nat) : Blk → Bool
  | .box v => V.refsIn bs v
  | .vec _ _ _ => true
  | .map _ => true
def St.closed (σ : St) (bs : List Nat) : Bool := (σ.env.all fun p => V.refsIn bs p.2) && σ.hp.all fun p => Blk.refsIn bs p.2
def ev (X : Ctx) (n : Nat) : Code → St → (Ex → St → Prop) → Prop
  | .skip, σ, Q => Q .normal σ
  | .region id ops false, σ, Q => evOps X n ops.toList ops.toList σ fun σ' => Q .normal (σ'.drop (X.dead id))
  | .region id ops true, σ, Q => onSome (look id X.dr) fun m => evDr X n ops.toList m σ fun σ' => Q .normal (σ'.drop (X.dead id))
  | .seq x y, σ, Q => ev X n x σ fun e σ' => match e with
    | .normal => ev X n y σ' Q
    | e => Q e σ'
  | .cond c x y, σ, Q => onBool (opd σ.e c) fun b => onIf b (ev X n x σ Q) (ev X n y σ Q)
  | .block id x, σ, Q => ev X n x σ fun e σ' => match e with
    | .exit i => if i = id then Q .normal σ' else Q (.exit i) σ'
    | e => Q e σ'
  | .loop x, σ, Q => ∃ (ts bs : List Nat) (I : St → Prop) (μ : St → Nat), ((σ.keep ts bs).closed bs = true ∧ I (σ.keep ts bs)) ∧
      ∀ σ, I σ → ev X n x σ fun e σ' => match e with
        | .normal => (σ'.keep ts bs).closed bs = true ∧ I (σ'.keep ts bs) ∧ μ (σ'.keep ts bs) < μ σ
        | e => Q e σ'
  | .exit id, σ, Q => Q (.exit id) σ
  | .ret, σ, Q => Q .ret σ
  | _, _, _ => False
/-! ### The machine is sound -/
/-- where a call begins: the world, and the rows that it is lent -/
structure Fr where
  w : World
  ρ : Nat → Option Value
  B : Nat
/-- what is lent keeps its header; nothing else that was there is written -/
structure FrOk (F : Fr) (w : World) (ρ : Nat → Option Value) : Prop where
  keep : ∀ g, g < F.w.heap.size → (∀ b sv, F.ρ b = some sv → own sv ≠ some g) → w.heap[g]? = F.w.heap[g]?
  fresh : ∀ b sv g, ρ b = some sv → own sv = some g → F.w.heap.size ≤ g ∨ ∃ b0 sv0, F.ρ b0 = some sv0 ∧ own sv0 = some g
  hdr : ∀ b, 1000000 ≤ b → ∀ sv, ρ b = some sv → F.ρ b = some sv
  grow : F.w.heap.size ≤ w.heap.size
theorem FrOk.step {F : Fr} {ok : Nat → Prop} {B : Nat} {w w' : World} {ρ ρ' : Nat → Option Value} {hp' : Hp} {tr : V → V} {tc : Nat → Bool} (h : FrOk F w ρ) (hs : Step ok B w ρ w' ρ' hp' tr tc) (ht : ∀ b, 1000000 ≤ b → tc b = false) : FrOk F w' ρ' := by
  refine ⟨fun g hg hno => ?_, fun b sv g hb ho => ?_, fun b hb sv hsv => h.hdr b hb sv (by rw [← hs.hdr b (ht b hb)]; exact hsv), Nat.le_trans h.grow hs.grow⟩
  · rw [hs.keep g (Nat.lt_of_lt_of_le hg h.grow) (fun b sv hb ho => ?_)]
    · exact h.keep g hg hno
    · rcases h.fresh b sv g hb ho with hge | ⟨b0, sv0, h0, h1⟩
      · omega
      · exact hno b0 sv0 h0 h1
  · rcases hs.fresh b sv g hb ho with hge | ⟨b0, sv0, h0, h1⟩
    · exact .inl (Nat.le_trans h.grow hge)
    · exact h.fresh b0 sv0 g h0 h1
theorem FrOk.sub {F : Fr} {w : World} {ρ ρ' : Nat → Option Value} (h : FrOk F w ρ) (hs : ∀ b sv, ρ' b = some sv → ρ b = some sv) : FrOk F w ρ' :=
  ⟨h.keep, fun b sv g hb ho => h.fresh b sv g (hs b sv hb) ho, fun b hb sv hsv => h.hdr b hb sv (hs b sv hsv), h.grow⟩
structure Sim (J : World → Prop) (ok : Nat → Prop) (w0 : World) (F : Fr) (n : Nat) (σ : St) (a : Act) (w : World) (ρ : Nat → Option Value) : Prop where
  j : ∀ w', Below F.B F.w w' → J w'
  below : Below F.B F.w w
  inv : Inv ok F.B w ρ σ.h
  rel : ∀ t, Rel w (okAt ok F.B ρ w) ρ (σ.e t) (a.tmps.getD t Go.undef)
  size : a.tmps.size = n
  defers : a.defers = []
  fr : FrOk F w ρ
  small : n ≤ 100000
def Stable (J : World → Prop) : Prop := ∀ w w', J w → Below w.heap.size w w' → J w'
section
variable {P : Program} {X : Ctx} {J : World → Prop} {ok : Nat → Prop} {w0 w w' : World} {F : Fr} {n : Nat} {σ : St} {a : Act} {ρ : Nat → Option Value}
theorem Sim.opd (h : Sim J ok w0 F n σ a w ρ) (x : Operand) : Rel w (okAt ok F.B ρ w) ρ (Ev.opd σ.e x) (a.eval x) := by
  cases x with
  | tmp t => exact h.rel t
  | const v => exact .ro (ofC_rel v)
  | global g => exact .ro (.undef _)
  | func f => exact .fn f [] [] rfl (by simp)
theorem e_put (dst : Option Nat) (v : V) (l : List (Nat × V)) (t : Nat) : ((look t (putE dst v l)).getD .undef) = if dst = some t then v else (look t l).getD .undef := by
  cases dst with
  | none => simp [putE]
  | some d =>
    simp only [putE, look_setA]
    by_cases h : t = d
    · subst h; simp
    · rw [if_neg h, if_neg (by simp; omega)]
theorem put_getD (a : Act) (dst : Option Nat) (val : Value) (t : Nat) (h : dstOk a.tmps.size dst) : (a.put dst val).tmps.getD t Go.undef = if dst = some t then val else a.tmps.getD t Go.undef := by
  cases dst with
  | none => simp [Act.put]
  | some d =>
    simp only [dstOk] at h
    simp only [Act.put]
    by_cases hd : d = t
    · subst hd; simp [h]
    · rw [if_neg (by simpa using hd)]
      simp only [Array.getD_eq_getD_getElem?]
      rw [Array.getElem?_setIfInBounds_ne hd]
theorem put_size (a : Act) (dst : Option Nat) (val : Value) : (a.put dst val).tmps.size = a.tmps.size := by cases dst <;> simp [Act.put]
theorem put_defers (a : Act) (dst : Option Nat) (val : Value) : (a.put dst val).defers = a.defers := by cases dst <;> simp [Act.put]
theorem Sim.step {dst : Option Nat} {v : V} {eff : Eff} {val : Value} {ρ' : Nat → Option Value} (h : Sim J ok w0 F n σ a w ρ) (hd : dstOk n dst) (ht : ∀ b, 1000000 ≤ b → eff.tc b = false) (hs : Step ok F.B w ρ w' ρ' (eff.hp σ.h) eff.tr eff.tc)
    (hv : Rel w' (okAt ok F.B ρ' w') ρ' v val) : Sim J ok w0 F n (σ.app eff dst v) (a.put dst val) w' ρ' := by
  refine ⟨h.j, h.below.trans hs.below, ?_, fun t => ?_, by rw [put_size]; exact h.size, by rw [put_defers]; exact h.defers, h.fr.step hs ht, h.small⟩
  · have e : (σ.app eff dst v).h = eff.hp σ.h := by
      funext b
      cases eff with
      | none => rfl
      | new l =>
        simp only [St.app, St.h, Eff.hp, either, look_append, look_lookup] <;> (try (cases look b σ.hp <;> rfl))
      | write b' k => simp only [St.app, St.h, Eff.hp, upd, look_setH]
      | change b' k => simp only [St.app, St.h, Eff.hp, upd, look_setH, mapA, look_map, hpScrub]
      | lend b' k => simp only [St.app, St.h, Eff.hp, upd, look_setH, mapA, look_map, hpScrub]
    rw [e]
    exact hs.inv
  · rw [put_getD a dst val t (by rw [h.size]; exact hd)]
    have e : (σ.app eff dst v).e t = if dst = some t then v else eff.tr (σ.e t) := by
      cases eff with
      | none => simp only [St.app, St.e, e_put, Eff.tr, id]
      | new l => simp only [St.app, St.e, e_put, Eff.tr, id]
      | write b' k => simp only [St.app, St.e, e_put, Eff.tr, id]
      | change b' k =>
        simp only [St.app, St.e, e_put, Eff.tr, mapA, look_map]
        split
        · rfl
        · cases look t σ.env <;> simp [V.scrub]
      | lend b' k =>
        simp only [St.app, St.e, e_put, Eff.tr, mapA, look_map]
        split
        · rfl
        · cases look t σ.env <;> simp [V.scrub]
    rw [e]
    split
    · exact hv
    · exact hs.rel _ _ (h.rel t)
theorem Sim.skip {dst : Option Nat} (h : Sim J ok w0 F n σ a w ρ) (hd : dstOk n dst) : Sim J ok w0 F n (σ.app .none dst (.raw Go.undef)) (a.put dst Go.undef) w ρ :=
  h.step hd (fun _ _ => rfl) (Step.refl h.inv) (.ro (.raw _))
theorem freeze_rel {B : Nat} {b : Nat} {T : TypeId} {sz : Nat} {es : List V} {hp : Hp} {sv : Value} (hI : Inv ok B w ρ hp) (hb : hp b = some (.vec T sz es)) (hr : ρ b = some sv) :
    RelD w (okAt ok B (upd ρ b none) w) (.row sz es) sv := by
  obtain ⟨sv', hsv, hpos, hown⟩ := hI.blk b _ hb
  rw [hr] at hsv
  simp at hsv
  subst hsv
  have hk : ∀ g, okAt ok B ρ w g → okAt ok B (upd ρ b none) w g ∧ w.heap[g]? = w.heap[g]? := by
    intro g hg
    refine ⟨?_, rfl⟩
    rcases hg with hg | ⟨h1, h2, h3⟩
    · exact .inl hg
    · refine .inr ⟨h1, h2, fun b' s hs => ?_⟩
      unfold upd at hs
      split at hs
      · cases hs
      · exact h3 b' s hs
  rcases hown.form with ⟨ad, he, rfl⟩ | ⟨g, cap, vs, he, hc, hle, hl, hsz, h1, hrr, how⟩
  · rw [he]; exact .nil _ _
  · have ho : own sv = some g := by rw [he]; simp [own, hc]
    have hge := hI.own_ge hr ho
    rw [he] at how ⊢
    have hmx : cap ≤ maxLen := by
      rcases how.2 with ⟨hn, _⟩ | ⟨g', cap', cur, heq, _, _, _, hmx, _⟩
      · cases hn
      · simp at heq; omega
    refine .row sz es g 0 cap vs (.inr ⟨hge.1, hge.2, fun b' s hs ho' => ?_⟩) hle hmx hl hsz h1 (fun i v hv => ?_) fun i e v hee hv => (hrr i e v hee hv).mono hk
    · unfold upd at hs
      split at hs
      · cases hs
      · rename_i hne; exact hne (hI.inj b' b s sv g hs hr ho' ho)
    · intro k u hu
      have hk' : k < sz := by have := (List.getElem?_eq_some_iff.1 hu).1; have := hsz v (List.mem_of_getElem? hv); simp at *; omega
      have := how.cells (g := g) rfl (i * sz + k) u (by rw [flat_get hsz hv hk']; exact hu)
      rwa [Addr.add_mid, ← Nat.add_assoc, Nat.zero_add, ← Nat.zero_add (i * sz)] at this
theorem look_filter_ne {α : Type} (b x : Nat) : ∀ l : List (Nat × α), look x (l.filter fun p => p.1 != b) = if x = b then none else look x l
  | [] => by simp [look]
  | (t', v') :: l => by
    rw [List.filter_cons]
    by_cases ht : t' = b
    · subst ht
      simp only [bne_self_eq_false, Bool.false_eq_true, if_false, look_filter_ne t' x l, look]
      split <;> rfl
    · have : (t' != b) = true := by simpa using ht
      simp only [this, if_true, look, look_filter_ne b x l]
      split
      · rename_i h; subst h; rw [if_neg ht]
      · rfl
theorem Sim.freeze {b : Nat} {σ' : St} (h : Sim J ok w0 F n σ a w ρ) (hf : σ.freeze b = some σ') : ∃ ρ', Sim J ok w0 F n σ' a w ρ' := by
  unfold St.freeze at hf
  split at hf
  · rename_i T sz es hb
    simp at hf
    subst hf
    have hb' : σ.h b = some (.vec T sz es) := hb
    have hch := h.inv.change (w' := w) b (.row sz es) none (Nat.le_refl _) (fun _ _ _ => rfl) (fun sv k hn => by cases hn) (fun sv hsv h1 => .ro (by
      have := freeze_rel h.inv hb' hsv
      simpa using this))
    refine ⟨upd ρ b none, h.j, h.below, ?_, fun t => ?_, h.size, h.defers, h.fr.sub fun b' sv hb' => (by unfold upd at hb'; split at hb' <;> first | cases hb' | exact hb'), h.small⟩
    · have e : (St.h ⟨mapA (V.scrub b (.row sz es)) σ.env, (mapA (Blk.scrub b (.row sz es)) σ.hp).filter fun p => p.1 != b⟩) = upd (hpScrub b (.row sz es) σ.h) b none := by
        funext x
        simp only [St.h, upd, hpScrub, look_filter_ne, mapA, look_map]
      rw [e]
      exact hch.1
    · have e : (St.e ⟨mapA (V.scrub b (.row sz es)) σ.env, (mapA (Blk.scrub b (.row sz es)) σ.hp).filter fun p => p.1 != b⟩) t = V.scrub b (.row sz es) (σ.e t) := by
        simp only [St.e, mapA, look_map]
        cases look t σ.env <;> simp [V.scrub]
      rw [e]
      exact hch.2 _ _ (h.rel t)
  · simp only [Option.some.injEq] at hf
    subst hf
    exact ⟨ρ, h⟩
  · cases hf
theorem Sim.freezeL : ∀ {bs : List Nat} {σ σ' : St} {ρ : Nat → Option Value}, Sim J ok w0 F n σ a w ρ → Ev.freezeL bs σ = some σ' → ∃ ρ', Sim J ok w0 F n σ' a w ρ'
  | [], σ, σ', ρ, h, hf => by simp [Ev.freezeL] at hf; subst hf; exact ⟨ρ, h⟩
  | b :: bs, σ, σ', ρ, h, hf => by
    unfold Ev.freezeL at hf
    split at hf
    · rename_i σ1 h1
      obtain ⟨ρ1, hs1⟩ := h.freeze h1
      exact Sim.freezeL hs1 hf
    · cases hf
theorem look_filter {α : Type} (f : Nat → Bool) (x : Nat) : ∀ l : List (Nat × α), look x (l.filter fun p => f p.1) = if f x = true then look x l else none
  | [] => by simp [look]
  | (t', v') :: l => by
    have ih := look_filter f x l
    rw [List.filter_cons]
    by_cases hx : x = t'
    · subst hx
      by_cases ht : f x = true
      · simp only [ht, if_true, look]
      · have ht' : f x = false := by simpa using ht
        simp only [ht', Bool.false_eq_true, if_false] at ih ⊢
        exact ih
    · by_cases ht : f t' = true
      · simp only [ht, if_true, look, if_neg hx]; exact ih
      · have ht' : f t' = false := by simpa using ht
        simp only [ht', Bool.false_eq_true, if_false, look, if_neg hx]; exact ih
theorem Sim.drop (h : Sim J ok w0 F n σ a w ρ) (ts : List Nat) : Sim J ok w0 F n (σ.drop ts) a w ρ := by
  refine ⟨h.j, h.below, h.inv, fun t => ?_, h.size, h.defers, h.fr, h.small⟩
  have e : (σ.drop ts).e t = if ts.contains t then .undef else σ.e t := by
    simp only [St.e, St.drop]
    rw [look_filter (fun t => !ts.contains t)]
    cases hc : ts.contains t <;> simp
  rw [e]
  split
  · exact .ro (.undef _)
  · exact h.rel t
theorem refsInL_iff {bs : List Nat} {cs : List V} : V.refsInL bs cs = true ↔ ∀ c ∈ cs, V.refsIn bs c = true := by
  induction cs with
  | nil => simp [V.refsInL]
  | cons c cs ih => simp [V.refsInL, ih]
def only {α : Type} (bs : List Nat) (f : Nat → Option α) : Nat → Option α := fun b => if bs.contains b = true then f b else none
theorem Rel.only {ok ok' : Nat → Prop} {v : V} {val : Value} {bs : List Nat} (h : Rel w ok ρ v val) (hr : V.refsIn bs v = true) (hk : ∀ g, ok g → ok' g) : Rel w ok' (Ev.only bs ρ) v val := by
  induction h with
  | ro h => exact .ro (h.mono fun g hg => ⟨hk g hg, rfl⟩)
  | ptr b off g h => simp only [V.refsIn] at hr; exact .ptr b off g (by unfold Ev.only; rw [if_pos hr]; exact h)
  | eptr b sz i off g n cap h => simp only [V.refsIn] at hr; exact .eptr b sz i off g n cap (by unfold Ev.only; rw [if_pos hr]; exact h)
  | vec b sv h h1 => simp only [V.refsIn] at hr; exact .vec b sv (by unfold Ev.only; rw [if_pos hr]; exact h) h1
  | sub b sz lo k g n cap c ad h hx => simp only [V.refsIn] at hr; exact .sub b sz lo k g n cap c ad (by unfold Ev.only; rw [if_pos hr]; exact h) hx
  | agg cs vs hl h1 _ ih => rw [V.refsIn, refsInL_iff] at hr; exact .agg cs vs hl h1 fun j c v hc hv => ih j c v hc hv (hr c (List.mem_of_getElem? hc))
  | tup cs vs hl _ ih => rw [V.refsIn, refsInL_iff] at hr; exact .tup cs vs hl fun j c v hc hv => ih j c v hc hv (hr c (List.mem_of_getElem? hc))
  | fn f cs vs hl _ ih => rw [V.refsIn, refsInL_iff] at hr; exact .fn f cs vs hl fun j c v hc hv => ih j c v hc hv (hr c (List.mem_of_getElem? hc))
theorem okAt_only {B : Nat} {bs : List Nat} {g : Nat} (h : okAt ok B ρ w g) : okAt ok B (Ev.only bs ρ) w g := by
  rcases h with h | ⟨h1, h2, h3⟩
  · exact .inl h
  · refine .inr ⟨h1, h2, fun b sv hr => ?_⟩
    unfold Ev.only at hr
    split at hr
    · exact h3 b sv hr
    · cases hr
theorem look_mem {α : Type} {x : Nat} {v : α} : ∀ {l : List (Nat × α)}, look x l = some v → (x, v) ∈ l
  | [], h => by simp [look] at h
  | (t', v') :: l, h => by
    unfold look at h
    split at h
    · rename_i hx; simp at h; subst h; subst hx; simp
    · exact List.mem_cons_of_mem _ (look_mem h)
theorem Sim.keep {ts bs : List Nat} (h : Sim J ok w0 F n σ a w ρ) (hc : (σ.keep ts bs).closed bs = true) : Sim J ok w0 F n (σ.keep ts bs) a w (only bs ρ) := by
  unfold St.closed at hc
  simp only [Bool.and_eq_true, List.all_eq_true] at hc
  have he : ∀ t, (σ.keep ts bs).e t = if ts.contains t = true then σ.e t else .undef := by
    intro t
    simp only [St.e, St.keep]
    rw [look_filter (fun t => ts.contains t)]
    split <;> simp
  have hh : ∀ b, (σ.keep ts bs).h b = if bs.contains b = true then σ.h b else none := by
    intro b
    simp only [St.h, St.keep]
    rw [look_filter (fun t => bs.contains t)]
  refine ⟨h.j, h.below, ⟨h.inv.size, ?_, ?_, ?_⟩, fun t => ?_, h.size, h.defers, h.fr.sub fun b' sv hb' => (by unfold Ev.only at hb'; split at hb' <;> first | cases hb' | exact hb'), h.small⟩
  · intro b k hk
    have hkb := hk
    rw [hh] at hk
    split at hk
    · rename_i hin
      obtain ⟨sv, hr, hb⟩ := h.inv.blk b k hk
      refine ⟨sv, by unfold Ev.only; rw [if_pos hin]; exact hr, ?_⟩
      cases k with
      | box v =>
        obtain ⟨g, val, rfl, h1, h2, h3, h4, h5, h6⟩ := hb
        have hm := hc.2 (b, .box v) (look_mem hkb)
        exact ⟨g, val, rfl, h1, h2, h3, h4, h5, h6.only hm fun g hg => okAt_only hg⟩
      | vec T sz es => exact ⟨hb.1, hb.2.mono (fun g hg => ⟨okAt_only hg, rfl⟩) fun _ _ => rfl⟩
      | map kvs => exact hb
    · cases hk
  · intro b sv hr
    unfold Ev.only at hr
    split at hr
    · rename_i hin
      obtain ⟨k, hk⟩ := h.inv.dom b sv hr
      exact ⟨k, by rw [hh, if_pos hin]; exact hk⟩
    · cases hr
  · intro b b' sv sv' g h1 h2
    unfold Ev.only at h1 h2
    split at h1
    · split at h2
      · exact h.inv.inj b b' sv sv' g h1 h2
      · cases h2
    · cases h1
  · rw [he]
    split
    · rename_i hin
      by_cases hu : ∃ v, look t (σ.keep ts bs).env = some v
      · obtain ⟨v, hv⟩ := hu
        have hm := hc.1 (t, v) (look_mem hv)
        have : σ.e t = v := by have := he t; rw [if_pos hin] at this; rw [← this]; simp [St.e, hv]
        rw [this]
        have hr := h.rel t
        rw [this] at hr
        exact hr.only hm fun g hg => okAt_only hg
      · have hn : look t (σ.keep ts bs).env = none := by
          cases hl : look t (σ.keep ts bs).env with
          | none => rfl
          | some v => exact (hu ⟨v, hl⟩).elim
        have : σ.e t = .undef := by have := he t; rw [if_pos hin] at this; rw [← this]; simp [St.e, hn]
        rw [this]
        exact .ro (.undef _)
    · exact .ro (.undef _)
end
/-! ### Regions that draw their order -/
inductive Ref (b : Nat) : V → Prop
  | ptr (o : Nat) : Ref b (.ptr b o)
  | eptr (sz i o : Nat) : Ref b (.eptr b sz i o)
  | vec : Ref b (.vec b)
  | sub (sz lo k : Nat) : Ref b (.sub b sz lo k)
  | agg {cs : List V} {c : V} (hc : c ∈ cs) (h : Ref b c) : Ref b (.agg cs)
  | tup {cs : List V} {c : V} (hc : c ∈ cs) (h : Ref b c) : Ref b (.tup cs)
  | fn {f : FuncId} {cs : List V} {c : V} (hc : c ∈ cs) (h : Ref b c) : Ref b (.fn f cs)
theorem mem_get {α β : Type} {cs : List α} {vs : List β} {c : α} (hc : c ∈ cs) (hl : cs.length = vs.length) : ∃ (j : Nat) (v : β), cs[j]? = some c ∧ vs[j]? = some v := by
  obtain ⟨j, hj⟩ := List.getElem?_of_mem hc
  have hlt := (List.getElem?_eq_some_iff.1 hj).1
  exact ⟨j, vs[j]'(by omega), hj, List.getElem?_eq_getElem (by omega)⟩
theorem RelD.no_ref {w : World} {ok : Nat → Prop} {v : V} {val : Value} (h : RelD w ok v val) {b : Nat} (hb : Ref b v) : False := by
  induction h with
  | agg cs vs hl h1 _ ih =>
    cases hb with
    | agg hc hr => obtain ⟨j, v, h1, h2⟩ := mem_get hc hl; exact ih j _ v h1 h2 hr
  | tup cs vs hl _ ih =>
    cases hb with
    | tup hc hr => obtain ⟨j, v, h1, h2⟩ := mem_get hc hl; exact ih j _ v h1 h2 hr
  | fn f cs vs hl _ ih =>
    cases hb with
    | fn hc hr => obtain ⟨j, v, h1, h2⟩ := mem_get hc hl; exact ih j _ v h1 h2 hr
  | _ => cases hb
theorem Rel.ref {w : World} {ok : Nat → Prop} {ρ : Nat → Option Value} {v : V} {val : Value} (h : Rel w ok ρ v val) {b : Nat} (hb : Ref b v) : ∃ sv, ρ b = some sv := by
  induction h with
  | ro h => exact (h.no_ref hb).elim
  | ptr b' off g h => cases hb; exact ⟨_, h⟩
  | eptr b' sz i off g n cap h => cases hb; exact ⟨_, h⟩
  | vec b' sv h h1 => cases hb; exact ⟨_, h⟩
  | sub b' sz lo k g n cap c ad h hx => cases hb; exact ⟨_, h⟩
  | agg cs vs hl h1 _ ih =>
    cases hb with
    | agg hc hr => obtain ⟨j, v, h1, h2⟩ := mem_get hc hl; exact ih j _ v h1 h2 hr
  | tup cs vs hl _ ih =>
    cases hb with
    | tup hc hr => obtain ⟨j, v, h1, h2⟩ := mem_get hc hl; exact ih j _ v h1 h2 hr
  | fn f cs vs hl _ ih =>
    cases hb with
    | fn hc hr => obtain ⟨j, v, h1, h2⟩ := mem_get hc hl; exact ih j _ v h1 h2 hr
def Eff.has (b : Nat) : Eff → Bool
  | .new l => l.any fun p => p.1 == b
  | _ => false
def Up1 (h h' : Hp) (v : V) : Prop := ∀ b, Ref b v → ∀ k, h b = some k → h' b = some k
def Up (h h' : Hp) (v : V) : Prop := ∀ b, Ref b v → ∀ k, h b = some k → h' b = some k ∧ ∀ x, k = .box x → Up1 h h' x
theorem Up.up1 {h h' : Hp} {v : V} (hu : Up h h' v) : Up1 h h' v := fun b hb k hk => (hu b hb k hk).1
section
variable {X : Ctx} {e e' : Env} {h h' : Hp} {d : Nat}
theorem mapM_imp {α β : Type} {f g : α → Option β} : ∀ {l : List α} {r : List β}, l.mapM f = some r → (∀ c ∈ l, ∀ y, f c = some y → g c = some y) → l.mapM g = some r
  | [], r, hr, _ => by simpa using hr
  | c :: l, r, hr, hg => by
    rw [List.mapM_cons] at hr ⊢
    cases hf : f c with
    | none => simp [hf] at hr
    | some y =>
      rw [hg c (by simp) y hf]
      cases hl : l.mapM f with
      | none => simp [hf, hl] at hr
      | some ys =>
        rw [mapM_imp hl fun c hc => hg c (List.mem_cons_of_mem _ hc)]
        simpa [hf, hl] using hr
theorem lenV_up {v : V} {r : Nat} (hu : Up1 h h' v) (hr : lenV h v = some r) : lenV h' v = some r := by
  cases v <;> first | exact hr | skip
  rename_i b
  simp only [lenV] at hr ⊢
  cases hb : h b with
  | none => simp [hb] at hr
  | some k => rw [hb] at hr; rw [hu b .vec k hb]; exact hr
theorem mapsV_up {v : V} {r : List (V × V)} (hu : Up1 h h' v) (hr : mapsV h v = some r) : mapsV h' v = some r := by
  cases v <;> first | exact hr | skip
  rename_i b
  simp only [mapsV] at hr ⊢
  cases hb : h b with
  | none => simp [hb] at hr
  | some k => rw [hb] at hr; rw [hu b .vec k hb]; exact hr
theorem lenM_up {t : TypeId} {v : V} {r : Nat} (hu : Up1 h h' v) (hr : lenM X h t v = some r) : lenM X h' t v = some r := by
  unfold lenM at hr ⊢
  split at hr
  · cases hm : mapsV h v with
    | none => simp [hm] at hr
    | some q => rw [mapsV_up hu hm]; rw [hm] at hr; exact hr
  · cases hr
theorem lookV_up {T : TypeId} {x i r : V} {ok : Bool} (hu : Up1 h h' x) (hr : lookV X h T x i ok = some r) : lookV X h' T x i ok = some r := by
  unfold lookV at hr ⊢
  cases hm : mapsV h x with
  | none => rw [hm] at hr; split at hr <;> simp_all
  | some q => rw [mapsV_up hu hm]; rw [hm] at hr; exact hr
theorem updV_eff {T : TypeId} {x i y v : V} {eff : Eff} (hr : updV X h T x i y = some (v, eff)) : ∃ b kvs, eff = .write b (.map kvs) := by
  unfold updV at hr
  split at hr <;> first | (cases hr; done) | skip
  split at hr <;> first | (cases hr; done) | skip
  split at hr <;> first | (cases hr; done) | skip
  obtain ⟨rfl, rfl⟩ := some_pair hr
  exact ⟨_, _, rfl⟩
theorem subE_up {b sz m : Nat} {r : TypeId × List V} (hu : ∀ k, h b = some k → h' b = some k) (hr : subE h b sz m = some r) : subE h' b sz m = some r := by
  unfold subE at hr ⊢
  cases hb : h b with
  | none => simp [hb] at hr
  | some k => rw [hb] at hr; rw [hu k hb]; exact hr
theorem elemsV_up {v : V} {r : Nat × List V} (hu : Up1 h h' v) (hr : elemsV h v = some r) : elemsV h' v = some r := by
  cases v <;> first | exact hr | skip
  rename_i b
  simp only [elemsV] at hr ⊢
  cases hb : h b with
  | none => simp [hb] at hr
  | some k => rw [hb] at hr; rw [hu b .vec k hb]; exact hr
  rename_i b sz lo k
  simp only [elemsV, Option.map_eq_some_iff] at hr ⊢
  obtain ⟨p, hp, he⟩ := hr
  exact ⟨p, subE_up (fun k' hk => hu b (.sub sz lo k) k' hk) hp, he⟩
theorem ownP_up {v : V} {r : Nat × Nat × Nat × Nat} (hu : Up1 h h' v) (hr : ownP h v = some r) : ownP h' v = some r := by
  cases v <;> first | exact hr | skip
  rename_i b
  simp only [ownP] at hr ⊢
  cases hb : h b with
  | none => simp [hb] at hr
  | some k => rw [hb] at hr; rw [hu b .vec k hb]; exact hr
theorem sliceW_up {t : TypeId} {x r : V} {lo hi mx : Option V} (hu : Up1 h h' x) (hr : sliceW X h t x lo hi mx = some r) : sliceW X h' t x lo hi mx = some r := by
  unfold sliceW at hr ⊢
  cases ho : ownP h x with
  | some q => rw [ownP_up hu ho]; rw [ho] at hr; exact hr
  | none =>
    rw [ho] at hr
    simp only at hr
    have hx : ownP h' x = none := by
      cases x <;> first | rfl | (simp [ownP] at ho; done) | (exfalso; unfold sliceV at hr; split at hr <;> simp_all; done)
    rw [hx]
    exact hr
theorem copyV_eff {t : TypeId} {s x v : V} {eff : Eff} (hev : copyV X h t s x = some (v, eff)) : eff = .none ∨ ∃ b k, eff = .write b k := by
  unfold copyV at hev
  repeat' (first | (cases hev; done) | (obtain ⟨rfl, rfl⟩ := some_pair hev; first | exact .inl rfl | exact .inr ⟨_, _, rfl⟩) | split at hev)
theorem clearV_eff {t : TypeId} {s v : V} {eff : Eff} (hev : clearV X h t s = some (v, eff)) : eff = .none ∨ ∃ b k, eff = .write b k := by
  unfold clearV at hev
  repeat' (first | (cases hev; done) | (obtain ⟨rfl, rfl⟩ := some_pair hev; first | exact .inl rfl | exact .inr ⟨_, _, rfl⟩) | split at hev)
theorem copyV_up {t : TypeId} {s x v : V} {eff : Eff} (hs : Up1 h h' s) (hx : Up1 h h' x) (hev : copyV X h t s x = some (v, eff)) (hm : eff.mild = true) : copyV X h' t s x = some (v, eff) := by
  unfold copyV at hev ⊢
  split at hev <;> first | (cases hev; done) | skip
  rename_i e q1 q2 q3 hT
  try simp only [hT]
  split at hev <;> first | (cases hev; done) | skip
  rename_i i sz' xs sz0 l hi hxe hse
  simp only [hi, elemsV_up hx hxe, elemsV_up hs hse]
  split at hev
  · rename_i h0
    rw [if_pos h0]
    exact hev
  · exfalso
    split at hev <;> first | (cases hev; done) | skip
    split at hev <;> first | (cases hev; done) | skip
    split at hev <;> first | (cases hev; done) | skip
    obtain ⟨rfl, rfl⟩ := some_pair hev
    simp [Eff.mild] at hm
theorem copyV_up1 {t : TypeId} {s x v : V} {eff : Eff} (hs : Up1 h h' s) (hx : Up1 h h' x) (hev : copyV X h t s x = some (v, eff)) : copyV X h' t s x = some (v, eff) := by
  unfold copyV at hev ⊢
  split at hev <;> first | (cases hev; done) | skip
  rename_i e q1 q2 q3 hT
  try simp only [hT]
  split at hev <;> first | (cases hev; done) | skip
  rename_i i sz' xs sz0 l hi hxe hse
  simp only [hi, elemsV_up hx hxe, elemsV_up hs hse]
  split at hev
  · rename_i h0
    rw [if_pos h0]
    exact hev
  · rename_i h0
    rw [if_neg h0]
    split at hev <;> first | (cases hev; done) | skip
    rename_i b sz lo k hop
    rw [ownP_up hs hop]
    simp only
    split at hev <;> first | (cases hev; done) | skip
    rename_i T es hsub
    have hu : ∀ k', h b = some k' → h' b = some k' := fun k' hk => by
      refine hs b ?_ k' hk
      unfold ownP at hop
      split at hop
      · split at hop
        · split at hop
          · simp only [Option.some.injEq, Prod.mk.injEq] at hop
            rw [← hop.1]; exact .vec
          · cases hop
        · cases hop
      · simp only [Option.some.injEq, Prod.mk.injEq] at hop
        rw [← hop.1]; exact .sub _ _ _
      · cases hop
    rw [subE_up hu hsub]
    exact hev
theorem clearV_up {t : TypeId} {s v : V} {eff : Eff} (hs : Up1 h h' s) (hev : clearV X h t s = some (v, eff)) (hm : eff.mild = true) : clearV X h' t s = some (v, eff) := by
  unfold clearV at hev ⊢
  split at hev <;> first | (cases hev; done) | skip
  rename_i e q1 q2 q3 hT
  try simp only [hT]
  split at hev <;> first | (cases hev; done) | skip
  rename_i i sz0 l hi hse
  simp only [hi, elemsV_up hs hse]
  split at hev
  · rename_i h0
    rw [if_pos h0]
    exact hev
  · exfalso
    split at hev <;> first | (cases hev; done) | skip
    split at hev <;> first | (cases hev; done) | skip
    split at hev <;> first | (cases hev; done) | skip
    obtain ⟨rfl, rfl⟩ := some_pair hev
    simp [Eff.mild] at hm
theorem elemsZ_up {n : Nat} {v : V} {r : Nat × List V} (hu : Up1 h h' v) (hr : elemsZ n h v = some r) : elemsZ n h' v = some r := by
  cases v <;> first | exact hr | exact elemsV_up hu hr | skip
  rename_i v
  cases v <;> first | exact hr | skip
  rename_i a k c
  cases k <;> exact hr
theorem nonE_up {v : V} {b : Bool} (hu : Up1 h h' v) (hr : nonE h v = some b) : nonE h' v = some b := by
  cases v <;> first | exact hr | skip
  rotate_left
  · rename_i v
    cases v <;> first | exact hr | skip
    rename_i a k c
    cases a <;> exact hr
  rename_i b'
  simp only [nonE] at hr ⊢
  cases hb : h b' with
  | none => simp [hb] at hr
  | some k => rw [hb] at hr; rw [hu b' .vec k hb]; exact hr
theorem nilEq_up {T : TypeId} {x y : V} {b : Bool} (hx : Up1 h h' x) (hy : Up1 h h' y) (hr : nilEq X h T x y = some b) : nilEq X h' T x y = some b := by
  unfold nilEq at hr ⊢
  split at hr
  · split at hr
    · split at hr
      · exact hr
      · rename_i hne
        cases y <;> first | exact absurd rfl hne | exact nonE_up hy hr | skip
    · rename_i hne
      split at hr
      · cases x <;> first | exact absurd rfl hne | exact nonE_up hx hr | skip
      · cases hr
  · cases hr
theorem eqH_up {T : TypeId} {x y : V} {b : Bool} (hx : Up1 h h' x) (hy : Up1 h h' y) (hr : eqH X h T x y = some b) : eqH X h' T x y = some b := by
  unfold eqH at hr ⊢
  split at hr
  · exact hr
  · exact nilEq_up hx hy hr
theorem roC_up {v r : V} (hu : Up1 h h' v) (hr : roC h v = some r) : roC h' v = some r := by
  cases v <;> first | exact hr | skip
  rename_i b
  simp only [roC] at hr ⊢
  cases hb : h b with
  | none => simp [hb] at hr
  | some k => rw [hb] at hr; rw [hu b .vec k hb]; exact hr
  rename_i b sz lo k
  simp only [roC, partR, Option.map_eq_some_iff] at hr ⊢
  obtain ⟨p, hp, he⟩ := hr
  exact ⟨p, subE_up (fun k' hk => hu b (.sub sz lo k) k' hk) hp, he⟩
theorem ro0_up {v r : V} (hu : Up1 h h' v) (hr : ro0 h v = some r) : ro0 h' v = some r := by
  cases v <;> first | exact roC_up hu hr | skip
  rename_i cs
  simp only [ro0] at hr ⊢
  cases hm : cs.mapM (roC h) with
  | none => simp [hm] at hr
  | some ys =>
    rw [mapM_imp hm fun c hc y hy => roC_up (fun b hb k hk => hu b (.agg hc hb) k hk) hy]
    rw [hm] at hr
    exact hr
theorem ro1_up {v r : V} (hu : Up h h' v) (hr : ro1 h v = some r) : ro1 h' v = some r := by
  cases v <;> first | exact ro0_up hu.up1 hr | skip
  rename_i b off
  simp only [ro1] at hr ⊢
  cases hb : h b with
  | none => simp [hb] at hr
  | some k =>
    obtain ⟨hk, hx⟩ := hu b (.ptr off) k hb
    rw [hb] at hr
    rw [hk]
    cases k with
    | vec T sz es => exact hr
    | map kvs => exact hr
    | box v =>
      simp only at hr ⊢
      split at hr
      · rename_i hs
        rw [if_pos hs]
        cases h0 : ro0 h v with
        | none => simp [h0] at hr
        | some v' => rw [ro0_up (hx v rfl) h0]; rw [h0] at hr; exact hr
      · cases hr
theorem ro_up {v r : V} (hu : Up h h' v) (hr : ro h v = some r) : ro h' v = some r := by
  cases v <;> first | exact ro1_up hu hr | skip
  rename_i f cs
  simp only [ro] at hr ⊢
  cases hm : cs.mapM (ro1 h) with
  | none => simp [hm] at hr
  | some ys =>
    rw [mapM_imp hm fun c hc y hy => ro1_up (fun b hb k hk => hu b (.fn hc hb) k hk) hy]
    rw [hm] at hr
    exact hr
theorem fresh_up {l : List (Nat × Blk)} (hl : fresh h l = true) (hfr : ∀ b, (Eff.new l).has b = true → h' b = none) : fresh h' l = true := by
  simp only [fresh, List.all_eq_true] at hl ⊢
  intro p hp
  have := hl p hp
  simp only [Bool.and_eq_true] at this ⊢
  rw [hfr p.1 (by simp only [Eff.has, List.any_eq_true]; exact ⟨p, hp, by simp⟩)]
  exact ⟨rfl, this.2⟩
theorem new1_up {n : Nat} {k : Blk} (hfr : ∀ b, (Eff.new [(n, k)]).has b = true → h' b = none) : (h' n).isNone = true := by
  rw [hfr n (by simp [Eff.has])]; rfl
theorem callV_up {f : V} {args : List V} {v : V} {eff : Eff} (hf : Up h h' f) (ha : ∀ x ∈ args, Up h h' x) (hev : callV X h d f args = some (v, eff)) (hfr : ∀ b, eff.has b = true → h' b = none) : callV X h' d f args = some (v, eff) := by
  unfold callV at hev ⊢
  cases f <;> first | (cases hev; done) | skip
  rename_i g cs
  simp only at hev ⊢
  split at hev
  · rename_i hd
    rw [if_pos hd]
    cases hphi : X.Φ g (args ++ cs) with
    | none => simp [hphi] at hev
    | some p =>
      obtain ⟨r, bs⟩ := p
      simp only [hphi] at hev ⊢
      split at hev
      · rename_i hc
        simp only [Option.some.injEq, Prod.mk.injEq] at hev
        obtain ⟨rfl, rfl⟩ := hev
        simp only [Bool.and_eq_true] at hc
        rw [if_pos (by simp only [Bool.and_eq_true]; exact ⟨fresh_up hc.1 hfr, hc.2⟩)]
      · cases hev
  · rename_i hd
    rw [if_neg hd]
    cases hm : (args ++ cs).mapM (ro h) with
    | none => simp [hm] at hev
    | some as =>
      have hm' : (args ++ cs).mapM (ro h') = some as := mapM_imp hm fun c hc y hy => ro_up (by
        rcases List.mem_append.1 hc with hc | hc
        · exact ha c hc
        · exact fun b hb k hk => hf b (.fn hc hb) k hk) hy
      simp only [hm] at hev
      simp only [hm']
      cases hphi : X.Φ g as with
      | none => simp [hphi] at hev
      | some p =>
        obtain ⟨r, bs⟩ := p
        simp only [hphi] at hev ⊢
        split at hev
        · rename_i hc
          simp only [Option.some.injEq, Prod.mk.injEq] at hev
          obtain ⟨rfl, rfl⟩ := hev
          simp only [Bool.and_eq_true] at hc
          rw [if_pos (by simp only [Bool.and_eq_true]; exact ⟨⟨fresh_up hc.1.1 hfr, hc.1.2⟩, hc.2⟩)]
        · cases hev
theorem lendV_not {L : TypeId → Nat → List V → List V → Option (List V)} {args cs : List V} {v : V} {eff : Eff} (hev : lendV L h args cs = some (v, eff)) : ∃ b k, eff = .lend b k := by
  unfold lendV at hev
  split at hev <;> first | (cases hev; done) | skip
  split at hev <;> first | (cases hev; done) | skip
  split at hev <;> first | (cases hev; done) | skip
  split at hev <;> first | (cases hev; done) | skip
  split at hev <;> first | (cases hev; done) | skip
  obtain ⟨rfl, rfl⟩ := some_pair hev
  exact ⟨_, _, rfl⟩
theorem takeV_not {L : TypeId → Nat → List V → List V → Option (List V)} {args cs : List V} {v : V} {eff : Eff} (hev : takeV L h args cs = some (v, eff)) : ∃ b k, b < 1000000 ∧ eff = .change b k := by
  unfold takeV at hev
  split at hev <;> first | (cases hev; done) | skip
  split at hev <;> first | (cases hev; done) | skip
  split at hev <;> first | (cases hev; done) | skip
  split at hev <;> first | (cases hev; done) | skip
  split at hev <;> first | (cases hev; done) | skip
  rename_i hb
  obtain ⟨rfl, rfl⟩ := some_pair hev
  exact ⟨_, _, hb, rfl⟩
theorem callW_up {f : V} {args : List V} {v : V} {eff : Eff} (hf : Up h h' f) (ha : ∀ x ∈ args, Up h h' x) (hev : callW X h d f args = some (v, eff)) (hm : eff.mild = true) (hfr : ∀ b, eff.has b = true → h' b = none) : callW X h' d f args = some (v, eff) := by
  unfold callW at hev ⊢
  cases f <;> first | exact callV_up hf ha hev hfr | skip
  rename_i g cs
  simp only at hev ⊢
  cases hL : X.Λ g with
  | none => rw [hL] at hev; exact callV_up hf ha hev hfr
  | some L =>
    rw [hL] at hev
    obtain ⟨b0, L⟩ := L
    cases b0 with
    | false =>
      obtain ⟨b, k, rfl⟩ := lendV_not hev
      cases hm
    | true =>
      obtain ⟨b, k, _, rfl⟩ := takeV_not hev
      cases hm
theorem appendV_up {t t2 : TypeId} {s x v : V} {eff : Eff} (hx : Up h h' x) (hev : appendV X h d t t2 s x = some (v, eff)) (hm : eff.mild = true) (hfr : ∀ b, eff.has b = true → h' b = none) : appendV X h' d t t2 s x = some (v, eff) := by
  unfold appendV at hev ⊢
  split at hev <;> first | (cases hev; done) | skip
  split at hev <;> first | (cases hev; done) | skip
  split at hev <;> first | (cases hev; done) | skip
  rename_i hs
  simp only [*, if_true]
  cases s <;> first | (simp at hev; done) | skip
  · simp only at hev ⊢
    rename_i i0 _
    cases he : elemsZ i0.size h x with
    | none => simp [he] at hev
    | some p =>
      obtain ⟨sz, es⟩ := p
      rw [elemsZ_up hx.up1 he]
      simp only [he] at hev ⊢
      split at hev
      · rename_i hc
        simp only [Option.some.injEq, Prod.mk.injEq] at hev
        obtain ⟨rfl, rfl⟩ := hev
        rw [if_pos ⟨hc.1, hc.2.1, hc.2.2.1, hc.2.2.2.1, new1_up hfr⟩]
      · cases hev
  · simp only at hev
    split at hev
    · split at hev
      · simp only [Option.some.injEq, Prod.mk.injEq] at hev
        obtain ⟨rfl, rfl⟩ := hev
        simp [Eff.mild] at hm
      · cases hev
    · cases hev
theorem makeV_up {t : TypeId} {x y v : V} {eff : Eff} (hev : makeV X h d t x y = some (v, eff)) (hfr : ∀ b, eff.has b = true → h' b = none) : makeV X h' d t x y = some (v, eff) := by
  unfold makeV at hev ⊢
  split at hev <;> first | (cases hev; done) | skip
  split at hev <;> first | (cases hev; done) | skip
  split at hev <;> first | (cases hev; done) | skip
  split at hev <;> first | (cases hev; done) | skip
  rename_i hc
  simp only [Option.some.injEq, Prod.mk.injEq] at hev
  obtain ⟨rfl, rfl⟩ := hev
  try simp only []
  rw [if_pos ⟨hc.1, hc.2.1, hc.2.2.1, hc.2.2.2.1, hc.2.2.2.2.1, new1_up hfr, hc.2.2.2.2.2.2⟩]
end
section
variable {X : Ctx} {e e' : Env} {h h' : Hp} {d : Nat}
theorem mkMapV_up {T : TypeId} {r : Option V} {v : V} {eff : Eff} (hev : mkMapV X h d T r = some (v, eff)) (hfr : ∀ b, eff.has b = true → h' b = none) : mkMapV X h' d T r = some (v, eff) := by
  unfold mkMapV at hev ⊢
  split at hev <;> first | (cases hev; done) | skip
  rename_i p hp
  try simp only [hp]
  split at hev
  · rename_i hc
    obtain ⟨rfl, rfl⟩ := some_pair hev
    simp only [Bool.and_eq_true] at hc
    rw [if_pos (by rw [Bool.and_eq_true]; exact ⟨hc.1, new1_up hfr⟩)]
  · cases hev
end
section
variable {X : Ctx} {e e' : Env} {h h' : Hp} {d : Nat}
theorem evalOp_mono {op : Op} {v : V} {eff : Eff} (hev : evalOp X e h d op = some (v, eff)) (hm : eff.mild = true) (hup : ∀ x ∈ op.operands, Up h h' (opd e x)) (hfr : ∀ b, eff.has b = true → h' b = none) :
    evalOp X e h' d op = some (v, eff) := by
  cases op with
  | assign x =>
    simp only [evalOp] at hev ⊢
    split at hev
    · rename_i T sz hn
      try simp only [hn]
      split at hev
      · rename_i hz
        try simp only [hz]
        split at hev
        · rename_i hc
          simp only [Option.some.injEq, Prod.mk.injEq] at hev
          obtain ⟨rfl, rfl⟩ := hev
          rw [if_pos ⟨new1_up hfr, hc.2⟩]
        · cases hev
      · exact hev
    · rename_i hn
      try simp only [hn]
      exact hev
  | alloc T =>
    simp only [evalOp] at hev ⊢
    split at hev
    · rename_i i hi
      try simp only [hi]
      split at hev
      · rename_i hc
        simp only [Option.some.injEq, Prod.mk.injEq] at hev
        obtain ⟨rfl, rfl⟩ := hev
        rw [if_pos ⟨new1_up hfr, hc.2⟩]
      · cases hev
    · cases hev
  | box T x =>
    simp only [evalOp] at hev ⊢
    split at hev
    · rename_i hc
      simp only [Option.some.injEq, Prod.mk.injEq] at hev
      obtain ⟨rfl, rfl⟩ := hev
      rw [if_pos ⟨new1_up hfr, hc.2⟩]
    · cases hev
  | buildSlice T n ps =>
    simp only [evalOp] at hev ⊢
    split at hev
    · rename_i e1 s1 b1 z1 hT
      try simp only [hT]
      split at hev
      · rename_i i hi
        try simp only [hi]
        split at hev
        · rename_i hc
          simp only [Option.some.injEq, Prod.mk.injEq] at hev
          obtain ⟨rfl, rfl⟩ := hev
          rw [if_pos ⟨new1_up hfr, hc.2⟩]
        · cases hev
      · cases hev
    · cases hev
  | load T x =>
    have hux := hup x (by simp [Op.operands])
    simp only [evalOp] at hev ⊢
    split at hev
    · rename_i i hi
      try simp only [hi]
      split at hev
      · rename_i v1 off hv
        try simp only [hv]
        exact hev
      · rename_i b off hv
        try simp only [hv]
        cases hb : h b with
        | none => simp [hb] at hev
        | some k => rw [hb] at hev; rw [(hux b (by rw [hv]; exact .ptr off) k hb).1]; exact hev
      · rename_i b sz j off hv
        try simp only [hv]
        cases hb : h b with
        | none => simp [hb] at hev
        | some k => rw [hb] at hev; rw [(hux b (by rw [hv]; exact .eptr sz j off) k hb).1]; exact hev
      · cases hev
    · cases hev
  | store T a x =>
    exfalso
    simp only [evalOp] at hev
    split at hev <;> first | (cases hev; done) | skip
    split at hev <;> first | (cases hev; done) | skip
    split at hev <;> first | (cases hev; done) | skip
    · split at hev <;> first | (cases hev; done) | skip
      split at hev <;> first | (cases hev; done) | skip
      simp only [Option.some.injEq, Prod.mk.injEq] at hev
      obtain ⟨rfl, rfl⟩ := hev
      simp [Eff.mild] at hm
    · split at hev <;> first | (cases hev; done) | skip
      split at hev <;> first | (cases hev; done) | skip
      split at hev <;> first | (cases hev; done) | skip
      split at hev <;> first | (cases hev; done) | skip
      simp only [Option.some.injEq, Prod.mk.injEq] at hev
      obtain ⟨rfl, rfl⟩ := hev
      simp [Eff.mild] at hm
  | makeSlice T l c => simp only [evalOp] at hev ⊢; exact makeV_up hev hfr
  | makeMap T r => simp only [evalOp] at hev ⊢; exact mkMapV_up hev hfr
  | lookup T x i ok =>
    have hux := (hup x (by simp [Op.operands])).up1
    simp only [evalOp, Option.map_eq_some_iff] at hev ⊢
    obtain ⟨q, hq, he⟩ := hev
    exact ⟨q, lookV_up hux hq, he⟩
  | mapUpdate T m k v =>
    exfalso
    simp only [evalOp] at hev
    obtain ⟨b, kvs, rfl⟩ := updV_eff hev
    simp [Eff.mild] at hm
  | indexAddr T x i =>
    have hux := hup x (by simp [Op.operands])
    simp only [evalOp] at hev ⊢
    split at hev
    · rename_i e1 s1 b1 z1 ik n hT hi
      try simp only [hT, hi]
      split at hev
      · rename_i ie sz es hT2 hx
        try simp only [hT2, hx]
        exact hev
      · rename_i ie b hT2 hx
        try simp only [hT2, hx]
        cases hb : h b with
        | none => simp [hb] at hev
        | some k => rw [hb] at hev; rw [(hux b (by rw [hx]; exact .vec) k hb).1]; exact hev
      · rename_i ie b sz lo k hT2 hx
        try simp only [hT2, hx]
        exact hev
      · cases hev
    · rename_i m e1 s1 b1 z1 ik n hT hi
      try simp only [hT, hi]
      exact hev
    · cases hev
  | slice T x lo hi mx =>
    have hux := (hup x (by simp [Op.operands])).up1
    simp only [evalOp, Option.map_eq_some_iff] at hev ⊢
    obtain ⟨q, hq, he⟩ := hev
    exact ⟨q, sliceW_up hux hq, he⟩
  | call c =>
    obtain ⟨cal, args, tys⟩ := c
    cases cal with
    | value f =>
      simp only [evalOp] at hev ⊢
      refine callW_up (hup f (by simp [Op.operands, Call.operands])) (fun x hx => ?_) hev hm hfr
      obtain ⟨y, hy, rfl⟩ := List.mem_map.1 hx
      exact hup y (by simp [Op.operands, Call.operands]; simp at hy; exact .inr hy)
    | invoke r m => simp [evalOp] at hev
    | builtin b =>
      cases b <;> first | exact hev | skip
      · simp only [evalOp] at hev ⊢
        split at hev <;> first | (cases hev; done) | skip
        rename_i s x t t2 ha ht
        try simp only [ha, ht]
        exact appendV_up (hup x (by
          have : x ∈ args.toList := by rw [ha]; simp
          simp [Op.operands, Call.operands]; simpa using this)) hev hm hfr
      · simp only [evalOp] at hev ⊢
        split at hev <;> first | (cases hev; done) | skip
        rename_i s t ha ht
        try simp only [ha, ht]
        exact clearV_up (hup s (by
          have : s ∈ args.toList := by rw [ha]; simp
          simp [Op.operands, Call.operands]; simpa using this)).up1 hev hm
      · simp only [evalOp] at hev ⊢
        split at hev <;> first | (cases hev; done) | skip
        rename_i s x t t2 ha ht
        try simp only [ha, ht]
        exact copyV_up (hup s (by
          have : s ∈ args.toList := by rw [ha]; simp
          simp [Op.operands, Call.operands]; simpa using this)).up1 (hup x (by
          have : x ∈ args.toList := by rw [ha]; simp
          simp [Op.operands, Call.operands]; simpa using this)).up1 hev hm
      · simp only [evalOp] at hev ⊢
        split at hev <;> first | (cases hev; done) | skip
        rename_i x t ha ht
        try simp only [ha, ht]
        have hux : Up1 h h' (opd e x) := (hup x (by
          have : x ∈ args.toList := by rw [ha]; simp
          simp [Op.operands, Call.operands]; simpa using this)).up1
        cases hmm : lenM X h t (opd e x) with
        | some n => rw [lenM_up hux hmm]; rw [hmm] at hev; exact hev
        | none =>
          rw [hmm] at hev
          simp only at hev
          cases hl : lenV h (opd e x) with
          | none => simp [hl] at hev
          | some r =>
            rw [lenV_up hux hl]
            rw [hl] at hev
            split at hev
            · rename_i hT hn
              simp only [lenM, hT]
              exact hev
            · rename_i hT hn
              simp only [lenM, hT]
              exact hev
            · cases hev
  | makeFunc f first cs => cases f <;> exact hev
  | binOp op T x y U =>
    have hx := (hup x (by simp [Op.operands])).up1
    have hy := (hup y (by simp [Op.operands])).up1
    simp only [evalOp] at hev ⊢
    cases hb : binV op (opd e x) (opd e y) with
    | some v => rw [hb] at hev; exact hev
    | none =>
      rw [hb] at hev
      simp only at hev ⊢
      cases op <;> first | exact hev | skip
      all_goals
        simp only [Option.map_eq_some_iff] at hev ⊢
        obtain ⟨q, hq, he⟩ := hev
        exact ⟨q, eqH_up hx hy hq, he⟩
  | _ => exact hev
theorem evalOp_env {op : Op} (ho : ∀ x ∈ op.operands, opd e' x = opd e x) : evalOp X e' h d op = evalOp X e h d op := by
  have pairs : ∀ ps : Array (Nat × Operand), (∀ x ∈ (ps.toList.map (·.2)).toArray, opd e' x = opd e x) → (ps.toList.map fun p => (p.1, opd e' p.2)) = (ps.toList.map fun p => (p.1, opd e p.2)) := fun ps hp =>
    List.map_congr_left fun p hm => by rw [hp p.2 (by simp; exact ⟨p.1, by simpa using hm⟩)]
  cases op <;> simp only [Op.operands] at ho <;> simp only [evalOp]
  case build t ps => rw [pairs ps ho]
  case buildSlice t n ps =>
    have p2 : (ps.toList.zipIdx.all fun (p, j) => p.1 == j && V.data (opd e' p.2) && stor (opd e' p.2) && (opd e' p.2).cells.length == (match X.T t with | some ⟨.slice el, _, _, _⟩ => (match X.T el with | some i => i.size | none => 0) | _ => 0)) = (ps.toList.zipIdx.all fun (p, j) => p.1 == j && V.data (opd e p.2) && stor (opd e p.2) && (opd e p.2).cells.length == (match X.T t with | some ⟨.slice el, _, _, _⟩ => (match X.T el with | some i => i.size | none => 0) | _ => 0)) := by
      rw [Bool.eq_iff_iff, List.all_eq_true, List.all_eq_true]
      have key : ∀ q ∈ ps.toList.zipIdx, opd e' q.1.2 = opd e q.1.2 := fun q hq => ho q.1.2 (by
        have := (List.mem_zipIdx hq).2.2
        simp only [List.mem_toArray, List.mem_map]
        exact ⟨q.1, by rw [this]; exact List.getElem_mem _, rfl⟩)
      constructor
      · intro hall q hq
        have := hall q hq
        simp only [key q hq] at this
        exact this
      · intro hall q hq
        have := hall q hq
        simp only [← key q hq] at this
        exact this
    have p3 : (ps.toList.map fun p => opd e' p.2) = (ps.toList.map fun p => opd e p.2) := List.map_congr_left fun p hm => ho p.2 (by simp; exact ⟨p.1, by simpa using hm⟩)
    split
    · rename_i el s1 b1 z1 hT
      simp only [hT] at p2
      split
      · rename_i i hi
        simp only [hi] at p2
        rw [p3]
        split
        · rename_i hc
          rw [p2] at hc
          rw [if_pos hc]
        · rename_i hc
          rw [p2] at hc
          rw [if_neg hc]
      · rfl
    · rfl
  case makeFunc f first captured =>
    cases f <;> first | rfl | skip
    simp only []
    have : captured.toList.map (opd e') = captured.toList.map (opd e) := List.map_congr_left fun x hx => ho x (by simp; exact .inr (by simpa using hx))
    rw [this]
  case call c =>
    obtain ⟨cal, args, tys⟩ := c
    cases cal with
    | value f =>
      have h1 := ho f (by simp [Call.operands])
      have h2 : args.toList.map (opd e') = args.toList.map (opd e) := List.map_congr_left fun x hx => ho x (by simp [Call.operands]; exact .inr (by simpa using hx))
      simp only [h1, h2]
    | invoke r m => rfl
    | builtin b =>
      have h2 : ∀ x ∈ args.toList, opd e' x = opd e x := fun x hx => ho x (by simp [Call.operands]; simpa using hx)
      cases b <;> simp only []
      all_goals first
        | rfl
        | (split <;> first | rfl | (rename_i ha; rw [ha] at h2; simp only [List.mem_cons, List.not_mem_nil, or_false, forall_eq_or_imp, forall_eq] at h2; simp only [h2]) | (rename_i ha _; rw [ha] at h2; simp only [List.mem_cons, List.not_mem_nil, or_false, forall_eq_or_imp, forall_eq] at h2; simp only [h2]))
  case makeMap t r =>
    cases r with
    | none => rfl
    | some x => simp only [Option.map_some]; rw [ho x (by simp)]
  case slice t x lo hi mx => cases lo <;> cases hi <;> cases mx <;> simp_all
  all_goals (first | rfl | (simp_all; done))
end
section
variable {X : Ctx} {e : Env} {h : Hp} {d : Nat}
theorem has1 {n b : Nat} {k : Blk} (hb : (Eff.new [(n, k)]).has b = true) : b = n := by simp [Eff.has] at hb; exact hb.symm
theorem isNone_eq {n : Nat} (hn : (h n).isNone = true) : h n = none := by simpa using hn
theorem callV_new {f : V} {args : List V} {v : V} {eff : Eff} {b : Nat} (hev : callV X h d f args = some (v, eff)) (hb : eff.has b = true) : h b = none := by
  have key : ∀ l, fresh h l = true → (Eff.new l).has b = true → h b = none := by
    intro l hl hb
    simp only [fresh, List.all_eq_true] at hl
    simp only [Eff.has, List.any_eq_true] at hb
    obtain ⟨p, hp, he⟩ := hb
    have := hl p hp
    simp at he
    subst he
    simp only [Bool.and_eq_true] at this
    simpa using this.1
  unfold callV at hev
  split at hev <;> first | (cases hev; done) | skip
  split at hev
  · split at hev <;> first | (cases hev; done) | skip
    split at hev <;> first | (cases hev; done) | skip
    rename_i hc
    obtain ⟨rfl, rfl⟩ := some_pair hev
    simp only [Bool.and_eq_true] at hc
    exact key _ hc.1 hb
  · split at hev <;> first | (cases hev; done) | skip
    split at hev <;> first | (cases hev; done) | skip
    split at hev <;> first | (cases hev; done) | skip
    rename_i hc
    obtain ⟨rfl, rfl⟩ := some_pair hev
    simp only [Bool.and_eq_true] at hc
    exact key _ hc.1.1 hb
theorem callW_new {f : V} {args : List V} {v : V} {eff : Eff} {b : Nat} (hev : callW X h d f args = some (v, eff)) (hb : eff.has b = true) : h b = none := by
  unfold callW at hev
  split at hev
  · split at hev
    · obtain ⟨b, k, _, rfl⟩ := takeV_not hev; cases hb
    · obtain ⟨b, k, rfl⟩ := lendV_not hev; cases hb
    · exact callV_new hev hb
  · exact callV_new hev hb
theorem evalOp_new {op : Op} {v : V} {eff : Eff} {b : Nat} (hev : evalOp X e h d op = some (v, eff)) (hb : eff.has b = true) : h b = none := by
  cases op with
  | assign x =>
    simp only [evalOp] at hev
    split at hev
    · split at hev
      · split at hev
        · rename_i hc
          obtain ⟨rfl, rfl⟩ := some_pair hev
          rw [has1 hb]; exact isNone_eq hc.1
        · cases hev
      · obtain ⟨rfl, rfl⟩ := some_pair hev; simp [Eff.has] at hb
    · obtain ⟨rfl, rfl⟩ := some_pair hev; simp [Eff.has] at hb
  | alloc T =>
    simp only [evalOp] at hev
    split at hev <;> first | (cases hev; done) | skip
    split at hev <;> first | (cases hev; done) | skip
    rename_i hc
    obtain ⟨rfl, rfl⟩ := some_pair hev
    rw [has1 hb]; exact isNone_eq hc.1
  | box T x =>
    simp only [evalOp] at hev
    split at hev <;> first | (cases hev; done) | skip
    rename_i hc
    obtain ⟨rfl, rfl⟩ := some_pair hev
    rw [has1 hb]; exact isNone_eq hc.1
  | buildSlice T n ps =>
    simp only [evalOp] at hev
    split at hev <;> first | (cases hev; done) | skip
    split at hev <;> first | (cases hev; done) | skip
    split at hev <;> first | (cases hev; done) | skip
    rename_i hc
    obtain ⟨rfl, rfl⟩ := some_pair hev
    rw [has1 hb]; exact isNone_eq hc.1
  | makeSlice T l c =>
    simp only [evalOp] at hev
    unfold makeV at hev
    split at hev <;> first | (cases hev; done) | skip
    split at hev <;> first | (cases hev; done) | skip
    split at hev <;> first | (cases hev; done) | skip
    split at hev <;> first | (cases hev; done) | skip
    rename_i hc
    obtain ⟨rfl, rfl⟩ := some_pair hev
    rw [has1 hb]; exact isNone_eq hc.2.2.2.2.2.1
  | call c =>
    obtain ⟨cal, args, tys⟩ := c
    cases cal with
    | value f => simp only [evalOp] at hev; exact callW_new hev hb
    | invoke r m => simp [evalOp] at hev
    | builtin bi =>
      cases bi <;> simp only [evalOp] at hev <;> first | (cases hev; done) | skip
      case copy =>
        split at hev <;> first | (cases hev; done) | skip
        rcases copyV_eff hev with rfl | ⟨b', k', rfl⟩ <;> simp [Eff.has] at hb
      case clear =>
        split at hev <;> first | (cases hev; done) | skip
        rcases clearV_eff hev with rfl | ⟨b', k', rfl⟩ <;> simp [Eff.has] at hb
      case append =>
        split at hev <;> first | (cases hev; done) | skip
        unfold appendV at hev
        split at hev <;> first | (cases hev; done) | skip
        split at hev <;> first | (cases hev; done) | skip
        split at hev <;> first | (cases hev; done) | skip
        split at hev <;> first | (cases hev; done) | skip
        · split at hev <;> first | (cases hev; done) | skip
          split at hev <;> first | (cases hev; done) | skip
          rename_i hc
          obtain ⟨rfl, rfl⟩ := some_pair hev
          rw [has1 hb]; exact isNone_eq hc.2.2.2.2
        · split at hev <;> first | (cases hev; done) | skip
          split at hev <;> first | (cases hev; done) | skip
          obtain ⟨rfl, rfl⟩ := some_pair hev
          simp [Eff.has] at hb
      all_goals (repeat' (first | (cases hev; done) | (obtain ⟨rfl, rfl⟩ := some_pair hev; simp [Eff.has] at hb; done) | split at hev))
  | binOp op T x y U =>
    simp only [evalOp] at hev
    split at hev
    · obtain ⟨rfl, rfl⟩ := some_pair hev; simp [Eff.has] at hb
    · cases op <;> simp only [Option.map_eq_some_iff, reduceCtorEq] at hev <;> (obtain ⟨u, _, hu⟩ := hev; simp at hu; obtain ⟨_, rfl⟩ := hu; simp [Eff.has] at hb)
  | unOp op T x => simp only [evalOp, Option.map_eq_some_iff] at hev; obtain ⟨u, _, hu⟩ := hev; simp at hu; obtain ⟨_, rfl⟩ := hu; simp [Eff.has] at hb
  | slice T x lo hi mx => simp only [evalOp, Option.map_eq_some_iff] at hev; obtain ⟨u, _, hu⟩ := hev; simp at hu; obtain ⟨_, rfl⟩ := hu; simp [Eff.has] at hb
  | makeFunc f first cs =>
    cases f <;> simp only [evalOp] at hev <;> first | (cases hev; done) | skip
    split at hev <;> first | (cases hev; done) | skip
    obtain ⟨rfl, rfl⟩ := some_pair hev; simp [Eff.has] at hb
  | makeMap T r =>
    simp only [evalOp] at hev
    unfold mkMapV at hev
    split at hev <;> first | (cases hev; done) | skip
    split at hev <;> first | (cases hev; done) | skip
    rename_i hc
    obtain ⟨rfl, rfl⟩ := some_pair hev
    simp only [Bool.and_eq_true] at hc
    rw [has1 hb]; exact isNone_eq hc.2
  | lookup T x i ok => simp only [evalOp, Option.map_eq_some_iff] at hev; obtain ⟨u, _, hu⟩ := hev; simp at hu; obtain ⟨_, rfl⟩ := hu; simp [Eff.has] at hb
  | mapUpdate T m k y =>
    simp only [evalOp] at hev
    obtain ⟨b', kvs, rfl⟩ := updV_eff hev
    simp [Eff.has] at hb
  | _ => simp only [evalOp] at hev; (repeat' (first | (cases hev; done) | (obtain ⟨rfl, rfl⟩ := some_pair hev; simp [Eff.has] at hb; done) | split at hev))
end
section
variable {X : Ctx} {e : Env} {h : Hp} {d : Nat}
theorem tc1 {n b : Nat} {k : Blk} (hn : n < 1000000) (hb : 1000000 ≤ b) : (Eff.new [(n, k)]).tc b = false := by
  simp [Eff.tc]; omega
theorem fresh_tc {l : List (Nat × Blk)} (hl : fresh h l = true) {b : Nat} (hb : 1000000 ≤ b) : (Eff.new l).tc b = false := by
  simp only [fresh, List.all_eq_true] at hl
  simp only [Eff.tc]
  rw [List.any_eq_false]
  intro p hp
  have := hl p hp
  simp only [Bool.and_eq_true, decide_eq_true_eq] at this
  simp; omega
theorem callV_tc {f : V} {args : List V} {v : V} {eff : Eff} {b : Nat} (hev : callV X h d f args = some (v, eff)) (hb : 1000000 ≤ b) : eff.tc b = false := by
  unfold callV at hev
  split at hev <;> first | (cases hev; done) | skip
  split at hev
  · split at hev <;> first | (cases hev; done) | skip
    split at hev <;> first | (cases hev; done) | skip
    rename_i hc
    obtain ⟨rfl, rfl⟩ := some_pair hev
    simp only [Bool.and_eq_true] at hc
    exact fresh_tc hc.1 hb
  · split at hev <;> first | (cases hev; done) | skip
    split at hev <;> first | (cases hev; done) | skip
    split at hev <;> first | (cases hev; done) | skip
    rename_i hc
    obtain ⟨rfl, rfl⟩ := some_pair hev
    simp only [Bool.and_eq_true] at hc
    exact fresh_tc hc.1.1 hb
theorem callW_tc {f : V} {args : List V} {v : V} {eff : Eff} {b : Nat} (hev : callW X h d f args = some (v, eff)) (hb : 1000000 ≤ b) : eff.tc b = false := by
  unfold callW at hev
  split at hev
  · split at hev
    · obtain ⟨b', k, hlt, rfl⟩ := takeV_not hev; simp only [Eff.tc, beq_eq_false_iff_ne]; omega
    · obtain ⟨b, k, rfl⟩ := lendV_not hev; rfl
    · exact callV_tc hev hb
  · exact callV_tc hev hb
theorem evalOp_tc {op : Op} {v : V} {eff : Eff} {b : Nat} (hev : evalOp X e h d op = some (v, eff)) (hd : d < 100000) (hb : 1000000 ≤ b) : eff.tc b = false := by
  have h8 : 8 * d < 1000000 := by omega
  cases op with
  | call c =>
    obtain ⟨cal, args, tys⟩ := c
    cases cal with
    | value f => simp only [evalOp] at hev; exact callW_tc hev hb
    | invoke r m => simp [evalOp] at hev
    | builtin bi =>
      cases bi <;> simp only [evalOp] at hev <;> first | (cases hev; done) | skip
      case copy =>
        split at hev <;> first | (cases hev; done) | skip
        rcases copyV_eff hev with rfl | ⟨b', k', rfl⟩ <;> rfl
      case clear =>
        split at hev <;> first | (cases hev; done) | skip
        rcases clearV_eff hev with rfl | ⟨b', k', rfl⟩ <;> rfl
      case append =>
        split at hev <;> first | (cases hev; done) | skip
        unfold appendV at hev
        split at hev <;> first | (cases hev; done) | skip
        split at hev <;> first | (cases hev; done) | skip
        split at hev <;> first | (cases hev; done) | skip
        split at hev <;> first | (cases hev; done) | skip
        · split at hev <;> first | (cases hev; done) | skip
          split at hev <;> first | (cases hev; done) | skip
          obtain ⟨rfl, rfl⟩ := some_pair hev
          exact tc1 h8 hb
        · split at hev <;> first | (cases hev; done) | skip
          split at hev <;> first | (cases hev; done) | skip
          rename_i hc
          obtain ⟨rfl, rfl⟩ := some_pair hev
          simp [Eff.tc]; omega
      all_goals (repeat' (first | (cases hev; done) | (obtain ⟨rfl, rfl⟩ := some_pair hev; rfl) | split at hev))
  | binOp op T x y U =>
    simp only [evalOp] at hev
    split at hev
    · obtain ⟨rfl, rfl⟩ := some_pair hev; rfl
    · cases op <;> simp only [Option.map_eq_some_iff, reduceCtorEq] at hev <;> (obtain ⟨u, _, hu⟩ := hev; simp at hu; obtain ⟨_, rfl⟩ := hu; rfl)
  | unOp op T x => simp only [evalOp, Option.map_eq_some_iff] at hev; obtain ⟨u, _, hu⟩ := hev; simp at hu; obtain ⟨_, rfl⟩ := hu; rfl
  | slice T x lo hi mx => simp only [evalOp, Option.map_eq_some_iff] at hev; obtain ⟨u, _, hu⟩ := hev; simp at hu; obtain ⟨_, rfl⟩ := hu; rfl
  | makeSlice T l c =>
    simp only [evalOp] at hev
    unfold makeV at hev
    split at hev <;> first | (cases hev; done) | skip
    split at hev <;> first | (cases hev; done) | skip
    split at hev <;> first | (cases hev; done) | skip
    split at hev <;> first | (cases hev; done) | skip
    obtain ⟨rfl, rfl⟩ := some_pair hev
    exact tc1 h8 hb
  | makeFunc f first cs =>
    cases f <;> simp only [evalOp] at hev <;> first | (cases hev; done) | skip
    split at hev <;> first | (cases hev; done) | skip
    obtain ⟨rfl, rfl⟩ := some_pair hev; rfl
  | makeMap T r =>
    simp only [evalOp] at hev
    unfold mkMapV at hev
    split at hev <;> first | (cases hev; done) | skip
    split at hev <;> first | (cases hev; done) | skip
    obtain ⟨rfl, rfl⟩ := some_pair hev
    exact tc1 h8 hb
  | lookup T x i ok => simp only [evalOp, Option.map_eq_some_iff] at hev; obtain ⟨u, _, hu⟩ := hev; simp at hu; obtain ⟨_, rfl⟩ := hu; rfl
  | mapUpdate T m k y =>
    simp only [evalOp] at hev
    obtain ⟨b', kvs, rfl⟩ := updV_eff hev
    rfl
  | _ => simp only [evalOp] at hev; (repeat' (first | (cases hev; done) | (obtain ⟨rfl, rfl⟩ := some_pair hev; first | rfl | exact tc1 h8 hb) | split at hev))
theorem dst_small {n : Nat} {dst : Option Nat} (hd : dstOk n dst) (hn : n ≤ 100000) : dst.getD 0 < 100000 ∨ (n = 0 ∧ dst = none) ∨ dst = none := by
  cases dst with
  | none => exact .inr (.inr rfl)
  | some t => simp only [dstOk] at hd; left; simp; omega
theorem dst_small' {n : Nat} {dst : Option Nat} (hd : dstOk n dst) (hn : n ≤ 100000) : dst.getD 0 < 100000 := by
  cases dst with
  | none => simp
  | some t => simp only [dstOk] at hd; simp; omega
end
section
variable {P : Program} {X : Ctx} {J : World → Prop} {ok : Nat → Prop} {w0 w : World} {F : Fr} {n : Nat} {a : Act} {ρ : Nat → Option Value}
/-- a state by its functions alone -/
structure FS where
  e : Env
  h : Hp
def FS.put (s : FS) (dst : Option Nat) (v : V) (eff : Eff) : FS := ⟨fun t => if dst = some t then v else s.e t, eff.hp s.h⟩
def St.fs (σ : St) : FS := ⟨σ.e, σ.h⟩
structure SimF (J : World → Prop) (ok : Nat → Prop) (w0 : World) (F : Fr) (n : Nat) (s : FS) (a : Act) (w : World) (ρ : Nat → Option Value) : Prop where
  j : ∀ w', Below F.B F.w w' → J w'
  below : Below F.B F.w w
  inv : Inv ok F.B w ρ s.h
  rel : ∀ t, Rel w (okAt ok F.B ρ w) ρ (s.e t) (a.tmps.getD t Go.undef)
  size : a.tmps.size = n
  defers : a.defers = []
  fr : FrOk F w ρ
  small : n ≤ 100000
theorem Sim.toF {σ : St} (h : Sim J ok w0 F n σ a w ρ) : SimF J ok w0 F n σ.fs a w ρ := ⟨h.j, h.below, h.inv, h.rel, h.size, h.defers, h.fr, h.small⟩
theorem SimF.to {σ : St} {s : FS} (h : SimF J ok w0 F n s a w ρ) (hs : s = σ.fs) : Sim J ok w0 F n σ a w ρ := by subst hs; exact ⟨h.j, h.below, h.inv, h.rel, h.size, h.defers, h.fr, h.small⟩
theorem SimF.opd {s : FS} (h : SimF J ok w0 F n s a w ρ) (x : Operand) : Rel w (okAt ok F.B ρ w) ρ (Ev.opd s.e x) (a.eval x) := by
  cases x with
  | tmp t => exact h.rel t
  | const v => exact .ro (ofC_rel v)
  | global g => exact .ro (.undef _)
  | func f => exact .fn f [] [] rfl (by simp)
theorem mild_tr {eff : Eff} (hm : eff.mild = true) : eff.tr = id := by cases eff <;> first | rfl | cases hm
theorem SimF.step {s : FS} {w' : World} {dst : Option Nat} {v : V} {eff : Eff} {val : Value} {ρ' : Nat → Option Value} (h : SimF J ok w0 F n s a w ρ) (hd : dstOk n dst) (hm : eff.mild = true) (ht : ∀ b, 1000000 ≤ b → eff.tc b = false)
    (hs : Step ok F.B w ρ w' ρ' (eff.hp s.h) eff.tr eff.tc) (hv : Rel w' (okAt ok F.B ρ' w') ρ' v val) : SimF J ok w0 F n (s.put dst v eff) (a.put dst val) w' ρ' := by
  refine ⟨h.j, h.below.trans hs.below, hs.inv, fun t => ?_, by rw [put_size]; exact h.size, by rw [Ev.put_defers]; exact h.defers, h.fr.step hs ht, h.small⟩
  rw [put_getD a dst val t (by rw [h.size]; exact hd)]
  simp only [FS.put]
  split
  · exact hv
  · have := hs.rel _ _ (h.rel t)
    rw [mild_tr hm] at this
    exact this
theorem app_fs (σ : St) {eff : Eff} (hm : eff.mild = true) (dst : Option Nat) (v : V) : (σ.app eff dst v).fs = σ.fs.put dst v eff := by
  cases eff with
  | none => simp only [St.fs, FS.put, FS.mk.injEq]; exact ⟨by funext t; simp only [St.app, St.e, e_put], rfl⟩
  | new l =>
    simp only [St.fs, FS.put, FS.mk.injEq]
    refine ⟨by funext t; simp only [St.app, St.e, e_put], ?_⟩
    funext b
    simp only [St.app, St.h, Eff.hp, either, look_append, look_lookup] <;> (try (cases look b σ.hp <;> rfl))
  | write b k => cases hm
  | change b k => cases hm
  | lend b k => cases hm
structure Closed (s : FS) : Prop where
  env : ∀ t b, Ref b (s.e t) → ∃ k, s.h b = some k
  box : ∀ b x, s.h b = some (.box x) → ∀ b', Ref b' x → ∃ k, s.h b' = some k
theorem SimF.closed {s : FS} (h : SimF J ok w0 F n s a w ρ) : Closed s := by
  refine ⟨fun t b hb => ?_, fun b x hx b' hb' => ?_⟩
  · obtain ⟨sv, hr⟩ := (h.rel t).ref hb
    exact h.inv.dom b sv hr
  · obtain ⟨sv, hr, g, val, rfl, h1, h2, h3, h4, h5, h6⟩ := h.inv.blk b _ hx
    obtain ⟨sv', hr'⟩ := h6.ref hb'
    exact h.inv.dom b' sv' hr'
theorem Closed.opd {s : FS} (h : Closed s) {x : Operand} {b : Nat} (hb : Ref b (Ev.opd s.e x)) : ∃ k, s.h b = some k := by
  cases x with
  | tmp t => exact h.env t b hb
  | const v =>
    exfalso
    simp only [Ev.opd] at hb
    unfold ofC at hb
    split at hb <;> cases hb
  | global g => cases hb
  | func f => cases hb with | fn hc _ => cases hc
/-- what an operation of the head yields -/
def Yd (X : Ctx) (ops : List Oper) (o : Oper) (s : FS) (v : V) (eff : Eff) : Prop :=
  eff.mild = true ∧ match o.guard with
  | none => evalOp X s.e s.h (o.dst.getD 0) o.op = some (v, eff)
  | some (j, want) => ∃ t b, guardT ops j = some t ∧ gOf (s.e t) = some b ∧ if b == some want then evalOp X s.e s.h (o.dst.getD 0) o.op = some (v, eff) else v = .raw Go.undef ∧ eff = .none
theorem Yd.new {ops : List Oper} {o : Oper} {s : FS} {v : V} {eff : Eff} (hy : Yd X ops o s v eff) {b : Nat} (hb : eff.has b = true) : s.h b = none := by
  obtain ⟨hm, hy⟩ := hy
  split at hy
  · exact evalOp_new hy hb
  · obtain ⟨t, b', _, _, hy⟩ := hy
    split at hy
    · exact evalOp_new hy hb
    · obtain ⟨_, rfl⟩ := hy; simp [Eff.has] at hb
theorem Yd.move {ops : Array Oper} {o : Oper} {s τ : FS} {v : V} {eff : Eff} (hy : Yd X ops.toList o τ v eff) (he : ∀ t ∈ o.looksAt ops, s.e t = τ.e t) (hu : ∀ x ∈ o.op.operands, Up τ.h s.h (Ev.opd τ.e x))
    (hf : ∀ b, eff.has b = true → s.h b = none) : Yd X ops.toList o s v eff := by
  obtain ⟨hm, hy⟩ := hy
  have hop : ∀ x ∈ o.op.operands, Ev.opd s.e x = Ev.opd τ.e x := by
    intro x hx
    cases x with
    | tmp t => exact he t (List.mem_append_left _ (List.mem_filterMap.2 ⟨.tmp t, by simpa using hx, rfl⟩))
    | _ => rfl
  have key : evalOp X τ.e τ.h (o.dst.getD 0) o.op = some (v, eff) → evalOp X s.e s.h (o.dst.getD 0) o.op = some (v, eff) := fun h => by
    rw [evalOp_env hop]
    exact evalOp_mono h hm hu hf
  refine ⟨hm, ?_⟩
  cases hg : o.guard with
  | none => simp only [hg] at hy ⊢; exact key hy
  | some p =>
    obtain ⟨j, want⟩ := p
    simp only [hg] at hy ⊢
    obtain ⟨t, b, h1, h2, h3⟩ := hy
    refine ⟨t, b, h1, ?_, ?_⟩
    · rw [he t (List.mem_append_right _ (by
        rw [hg]
        have : (ops[j]?).bind (·.dst) = some t := by unfold guardT at h1; simpa using h1
        simp [this]))]
      exact h2
    · split at h3
      · rename_i hc; rw [if_pos hc]; exact key h3
      · rename_i hc; rw [if_neg hc]; exact h3
def Rn (X : Ctx) (n : Nat) (ops : Array Oper) : List Nat → FS → FS → Prop
  | [], s, s' => s = s'
  | i :: is, s, s' => ∃ o v eff, ops[i]? = some o ∧ Yd X ops.toList o s v eff ∧ dstOk n o.dst ∧ Rn X n ops is (s.put o.dst v eff) s'
theorem evHead_run {ops : Array Oper} {K : St → Prop} : ∀ (l : List Oper) (k : Nat) (σ : St), (∀ j, j < l.length → l[j]? = ops[k + j]?) → evHead X n ops.toList l σ K → ∃ σ', K σ' ∧ Rn X n ops (List.range' k l.length) σ.fs σ'.fs
  | [], k, σ, _, h => ⟨σ, h, rfl⟩
  | o :: l, k, σ, hl, h => by
    have h0 : ops[k]? = some o := by have := hl 0 (by simp); simpa using this.symm
    have hl' : ∀ j, j < l.length → l[j]? = ops[k + 1 + j]? := fun j hj => by have := hl (j + 1) (by simp; omega); rw [show k + 1 + j = k + (j + 1) by omega]; simpa using this
    obtain ⟨dst, op, ty, pos, after, guard⟩ := o
    rw [List.length_cons, List.range'_succ]
    cases guard with
    | none =>
      simp only [evHead] at h
      unfold onSome at h
      split at h
      · rename_i p hp
        obtain ⟨⟨hd, hm⟩, h⟩ := h
        obtain ⟨σ', hK, hr⟩ := evHead_run l (k + 1) _ hl' h
        rw [app_fs σ hm] at hr
        exact ⟨σ', hK, ⟨dst, op, ty, pos, after, none⟩, p.1, p.2, h0, ⟨hm, hp⟩, hd, hr⟩
      · exact h.elim
    | some g =>
      obtain ⟨j, want⟩ := g
      simp only [evHead] at h
      unfold onSome at h
      split at h
      · rename_i t ht
        split at h
        · rename_i b hb
          unfold onIf at h
          split at h
          · rename_i hc
            split at h
            · rename_i p hp
              obtain ⟨⟨hd, hm⟩, h⟩ := h
              obtain ⟨σ', hK, hr⟩ := evHead_run l (k + 1) _ hl' h
              rw [app_fs σ hm] at hr
              exact ⟨σ', hK, ⟨dst, op, ty, pos, after, some (j, want)⟩, p.1, p.2, h0, ⟨hm, t, b, ht, hb, by rw [if_pos hc]; exact hp⟩, hd, hr⟩
            · exact h.elim
          · rename_i hc
            obtain ⟨hd, h⟩ := h
            obtain ⟨σ', hK, hr⟩ := evHead_run l (k + 1) _ hl' h
            rw [app_fs σ (eff := .none) rfl] at hr
            exact ⟨σ', hK, ⟨dst, op, ty, pos, after, some (j, want)⟩, .raw Go.undef, .none, h0, ⟨rfl, t, b, ht, hb, by rw [if_neg hc]; exact ⟨rfl, rfl⟩⟩, hd, hr⟩
        · exact h.elim
      · exact h.elim
theorem hp_ge (eff : Eff) (hm : eff.mild = true) (h : Hp) {b : Nat} {k : Blk} (hb : h b = some k) : eff.hp h b = some k := by
  cases eff with
  | none => exact hb
  | new l => simp [Eff.hp, either, hb]
  | write _ _ => cases hm
  | change _ _ => cases hm
  | lend _ _ => cases hm
theorem lookup_has {l : List (Nat × Blk)} {b : Nat} : (Eff.new l).has b = true ↔ l.lookup b ≠ none := by
  simp only [Eff.has]
  induction l with
  | nil => simp
  | cons p l ih =>
    obtain ⟨x, k⟩ := p
    rw [List.lookup_cons]
    by_cases hb : b = x
    · subst hb; simp
    · have h1 : (b == x) = false := by simpa using hb
      have h2 : (x == b) = false := by simpa using fun e => hb e.symm
      simp only [h1, List.any_cons, h2, Bool.false_or]
      exact ih
theorem hp_has (eff : Eff) (hm : eff.mild = true) (h : Hp) (b : Nat) : eff.hp h b = none ↔ h b = none ∧ eff.has b = false := by
  cases eff with
  | none => simp [Eff.hp, Eff.has]
  | new l =>
    have := lookup_has (l := l) (b := b)
    simp only [Eff.hp, either]
    cases hb : h b with
    | some k => simp
    | none =>
      simp only [true_and]
      constructor
      · intro hl
        cases hh : (Eff.new l).has b with
        | false => rfl
        | true => exact ((this.1 hh) hl).elim
      · intro hh
        cases hl : l.lookup b with
        | none => rfl
        | some k => rw [this.2 (by simp [hl])] at hh; cases hh
  | write _ _ => cases hm
  | change _ _ => cases hm
  | lend _ _ => cases hm
theorem FS.put_comm (s : FS) {x y : Option Nat} {v u : V} {f g : Eff} (hf : f.mild = true) (hg : g.mild = true) (hxy : ∀ d, x = some d → y ≠ some d) (hd : ∀ b, f.has b = true → g.has b = false) :
    (s.put x v f).put y u g = (s.put y u g).put x v f := by
  simp only [FS.put, FS.mk.injEq]
  refine ⟨?_, ?_⟩
  · funext t
    by_cases h1 : x = some t
    · have := hxy t h1; simp [h1, this]
    · simp [h1]
  · funext b
    cases f with
    | none => rfl
    | new l =>
      cases g with
      | none => rfl
      | new m =>
        simp only [Eff.hp, either]
        cases s.h b with
        | some k => rfl
        | none =>
          cases hl : l.lookup b with
          | none => cases m.lookup b <;> rfl
          | some k =>
            have h1 := hd b (lookup_has.2 (by simp [hl]))
            have h2 : m.lookup b = none := by
              cases hm : m.lookup b with
              | none => rfl
              | some k' => rw [lookup_has.2 (by simp [hm])] at h1; cases h1
            simp [h2]
      | write _ _ => cases hg
      | change _ _ => cases hg
      | lend _ _ => cases hg
    | write _ _ => cases hf
    | change _ _ => cases hf
    | lend _ _ => cases hf
theorem pull {ops : Array Oper} {j : Nat} {oj : Oper} {s s' : FS} (hj : ops[j]? = some oj) (hc : Closed s) : ∀ (rem : List Nat) (τ : FS), Rn X n ops rem τ s' → j ∈ rem → rem.Nodup →
    (∀ i ∈ rem, ∀ oi, ops[i]? = some oi → i ≠ j → (∀ l, rem = l → True) → (rem.takeWhile (· != j)).contains i = true → oi.apart ops oj = true) →
    (∀ b k, s.h b = some k → τ.h b = some k) → (∀ t ∈ oj.looksAt ops, τ.e t = s.e t) →
    ∃ v eff, Yd X ops.toList oj s v eff ∧ dstOk n oj.dst ∧ (∀ b, eff.has b = true → τ.h b = none) ∧ Rn X n ops (rem.erase j) (τ.put oj.dst v eff) s'
  | [], τ, _, hm, _, _, _, _ => by cases hm
  | i :: rem, τ, hr, hm, hn, hap, hle, hlk => by
    obtain ⟨o, v, eff, hi, hy, hd, hr⟩ := hr
    by_cases hij : i = j
    · subst hij
      have : o = oj := Option.some.inj (hi.symm.trans hj)
      subst this
      refine ⟨v, eff, hy.move (fun t ht => (hlk t ht).symm) (fun x hx => ?_) (fun b hb => ?_), hd, fun b hb => hy.new hb, by simpa using hr⟩
      · have ho : Ev.opd τ.e x = Ev.opd s.e x := by
          cases x with
          | tmp t => exact hlk t (List.mem_append_left _ (List.mem_filterMap.2 ⟨.tmp t, by simpa using hx, rfl⟩))
          | _ => rfl
        rw [ho]
        intro b hb k hk
        obtain ⟨k0, hk0⟩ := hc.opd hb
        have : k = k0 := by have := hle b k0 hk0; rw [hk] at this; exact Option.some.inj this
        subst this
        refine ⟨hk0, fun y hy b' hb' k' hk' => ?_⟩
        subst hy
        obtain ⟨k1, hk1⟩ := hc.box b y hk0 b' hb'
        have : k' = k1 := by have := hle b' k1 hk1; rw [hk'] at this; exact Option.some.inj this
        subst this
        exact hk1
      · cases hs : s.h b with
        | none => rfl
        | some k => have := hle b k hs; rw [hy.new hb] at this; cases this
    · have hjr : j ∈ rem := by simpa [Ne.symm hij] using hm
      have hne : (i != j) = true := by simpa using hij
      have hapi := hap i (by simp) o hi hij (fun _ _ => trivial) (by rw [List.takeWhile_cons, hne]; simp)
      obtain ⟨h1, h2, h3⟩ := Oper.apart_spec hapi
      have hnd := List.nodup_cons.1 hn
      obtain ⟨u, g, hyj, hdj, hfr, hr'⟩ := pull hj hc rem (τ.put o.dst v eff) hr hjr hnd.2 (fun i' hi' oi' ho' hne' _ hcon => hap i' (by simp [hi']) oi' ho' hne' (fun _ _ => trivial) (by
          rw [List.takeWhile_cons, hne]; simp only [if_true, List.contains_cons, hcon, Bool.or_true])) (fun b k hk => hp_ge eff hy.1 τ.h (hle b k hk)) (fun t ht => by
          simp only [FS.put]
          rw [if_neg (fun he => h1 t he ht)]
          exact hlk t ht)
      have hfr' : ∀ b, g.has b = true → τ.h b = none ∧ eff.has b = false := fun b hb => (hp_has eff hy.1 τ.h b).1 (hfr b hb)
      refine ⟨u, g, hyj, hdj, fun b hb => (hfr' b hb).1, ?_⟩
      rw [List.erase_cons_tail (by simpa using hij)]
      refine ⟨o, v, eff, hi, hy.move (fun t ht => ?_) (fun x hx b hb k hk => ⟨hp_ge g hyj.1 τ.h hk, fun y _ b' _ k' hk' => hp_ge g hyj.1 τ.h hk'⟩) (fun b hb => ?_), hd, ?_⟩
      · simp only [FS.put]
        rw [if_neg (fun he => h3 t he ht)]
      · refine (hp_has g hyj.1 τ.h b).2 ⟨hy.new hb, ?_⟩
        cases hg : g.has b with
        | false => rfl
        | true => have := (hfr' b hg).2; rw [hb] at this; cases this
      · rw [← FS.put_comm τ hy.1 hyj.1 h2 (fun b hb => by
          cases hg : g.has b with
          | false => rfl
          | true => have := (hfr' b hg).2; rw [hb] at this; cases this)]
        exact hr'
end
section
variable {P : Program} {X : Ctx} {J : World → Prop} {ok : Nat → Prop} {w0 : World} {F : Fr} {n : Nat}
def Sims (J : World → Prop) (ok : Nat → Prop) (w0 : World) (F : Fr) (n : Nat) (σ : St) (a : Act) (w : World) : Prop := ∃ ρ, Sim J ok w0 F n σ a w ρ
theorem op_wp (hT : TOkX P X) (hΛ : ∀ g L T sz es as es', X.Λ g = some L → L.2 T sz es as = some es' → LentAt P J L.1 g T sz es as es') (hΦ : ∀ g args r bs, X.Φ g args = some (r, bs) → SoundAt P J g args r bs) (hJJ : Stable J) {σ : St} {a : Act} {w : World} {ρ : Nat → Option Value} (hs : Sim J ok w0 F n σ a w ρ) {o : Oper}
    {K : V × Eff → Prop} (h : onSome (evalOp X σ.e σ.h (o.dst.getD 0) o.op) K) {KW : Act → World → Prop} {Q : Exit → Act → World → Prop}
    (hK : ∀ v eff w' ρ' val, K (v, eff) → evalOp X σ.e σ.h (o.dst.getD 0) o.op = some (v, eff) → Step ok F.B w ρ w' ρ' (eff.hp σ.h) eff.tr eff.tc → Rel w' (okAt ok F.B ρ' w') ρ' v val → KW (a.put o.dst val) w') : o.wp P a w KW Q := by
  unfold onSome at h
  split at h
  · rename_i p hp
    obtain ⟨v, eff⟩ := p
    exact op_sound hT hΛ hΦ (fun w' hb => hs.j w' (hs.below.trans hb)) hs.inv hs.opd hp KW Q fun w' ρ' val hst hr => hK v eff w' ρ' val h hp hst hr
  · exact h.elim
theorem wanted_of {w : World} {ok' : Nat → Prop} {ρ : Nat → Option Value} {ops : Array Oper} {a : Act} {dst : Option Nat} {op : Op} {ty : TypeId} {pos : String} {after : Array Edge} {j t : Nat} {want : Bool} {x : V} {g : Option Bool} (ht : guardT ops.toList j = some t) (hg : gOf x = some g) (hr : Rel w ok' ρ x (a.tmps.getD t Go.undef)) :
    Region.wanted ⟨dst, op, ty, pos, after, some (j, want)⟩ (yielded ops a.tmps) = (g == some want) := by
  have hy : yielded ops a.tmps j = g := by
    unfold yielded
    have : ((ops[j]?).bind (·.dst)) = some t := by unfold guardT at ht; simpa using ht
    rw [this]
    simp only [Option.bind_some]
    unfold gOf at hg
    split at hg
    · rename_i b
      have hval := hr.bool_inv
      simp only [Option.some.injEq] at hg
      subst hg
      have hlt : t < a.tmps.size := by
        rcases Nat.lt_or_ge t a.tmps.size with hlt | hge
        · exact hlt
        · simp [Array.getD_eq_getD_getElem?, Array.getElem?_eq_none hge, Go.undef] at hval
      rw [Array.getElem?_eq_getElem hlt]
      have : a.tmps[t] = .bool b := by simpa [Array.getD_eq_getD_getElem?, Array.getElem?_eq_getElem hlt] using hval
      rw [this]
    · rename_i v
      have hval : a.tmps.getD t Go.undef = v := by
        cases hr with
        | ro h => cases h; rfl
      split at hg
      · cases hg
      · rename_i hnb
        simp only [Option.some.injEq] at hg
        subst hg
        cases hq : a.tmps[t]? with
        | none => rfl
        | some y =>
          have : y = v := by rw [← hval]; simp [Array.getD_eq_getD_getElem?, hq]
          subst this
          cases y <;> first | rfl | exact absurd rfl (hnb _)
    · cases hg
  simp only [Region.wanted, hy]
theorem evOps_sound (hT : TOkX P X) (hΛ : ∀ g L T sz es as es', X.Λ g = some L → L.2 T sz es as = some es' → LentAt P J L.1 g T sz es as es') (hΦ : ∀ g args r bs, X.Φ g args = some (r, bs) → SoundAt P J g args r bs) (hJJ : Stable J) (ops : Array Oper) {Q : Exit → Act → World → Prop} {K : St → Prop}
    (hQ : ∀ σ a w, K σ → Sims J ok w0 F n σ a w → Q .normal a w) : ∀ (os : List Oper) (k : Nat) (σ : St) (a : Act) (w : World), (∀ (j : Nat), os[j]? = ops[k + j]?) → evOps X n ops.toList os σ K → Sims J ok w0 F n σ a w →
      wpOps P ops Q (List.range' k os.length) a w
  | [], k, σ, a, w, _, h, hs => hQ σ a w h hs
  | o :: os, k, σ, a, w, hops, h, hs => by
    have hk : ops[k]? = some o := by have := hops 0; simpa using this.symm
    have hrest : ∀ (j : Nat), os[j]? = ops[k + 1 + j]? := fun j => by have := hops (j + 1); rw [show k + 1 + j = k + (j + 1) by omega]; simpa using this
    rw [List.length_cons, List.range'_succ]
    unfold wpOps
    rw [hk]
    simp only
    obtain ⟨dst, op, ty, pos, after, guard⟩ := o
    obtain ⟨ρ, hs⟩ := hs
    cases guard with
    | none =>
      have hw : Region.wanted ⟨dst, op, ty, pos, after, none⟩ (yielded ops a.tmps) = true := rfl
      rw [if_pos hw]
      left
      simp only [evOps] at h
      unfold onSome at h
      split at h
      · rename_i σ1 hf
        obtain ⟨ρ1, hs1⟩ := hs.freezeL hf
        refine op_wp hT hΛ hΦ hJJ hs1 (o := ⟨dst, op, ty, pos, after, none⟩) h fun v eff w' ρ' val hk2 hev hst hr => ?_
        exact evOps_sound hT hΛ hΦ hJJ ops hQ os (k + 1) _ _ _ hrest hk2.2 ⟨ρ', hs1.step hk2.1 (fun b hb => evalOp_tc hev (dst_small' hk2.1 hs.small) hb) hst hr⟩
      · exact h.elim
    | some g =>
      obtain ⟨j, want⟩ := g
      simp only [evOps] at h
      unfold onSome at h
      split at h
      · rename_i t ht
        split at h
        · rename_i b hb
          rw [wanted_of ht hb (hs.rel t)]
          unfold onIf at h
          split at h
          · rename_i hbw
            rw [if_pos hbw]
            left
            refine op_wp hT hΛ hΦ hJJ hs (o := ⟨dst, op, ty, pos, after, some (j, want)⟩) h fun v eff w' ρ' val hk2 hev hst hr => ?_
            exact evOps_sound hT hΛ hΦ hJJ ops hQ os (k + 1) _ _ _ hrest hk2.2 ⟨ρ', hs.step hk2.1 (fun b hb => evalOp_tc hev (dst_small' hk2.1 hs.small) hb) hst hr⟩
          · rename_i hbw
            rw [if_neg hbw]
            exact evOps_sound hT hΛ hΦ hJJ ops hQ os (k + 1) _ _ _ hrest h.2 ⟨ρ, hs.skip h.1⟩
        · exact h.elim
      · exact h.elim
end
section
variable {P : Program} {X : Ctx} {J : World → Prop} {ok : Nat → Prop} {w0 : World} {F : Fr} {n : Nat} {ops : Array Oper} {m : Nat}
theorem drB_edges (hB : drB ops m = true) {i : Nat} {o : Oper} (hi : ops[i]? = some o) : ∀ e ∈ o.after, Region.binds .any e = true → e.on < i := by
  unfold drB at hB
  simp only [Bool.and_eq_true] at hB
  have h1 := List.all_eq_true.1 hB.1.1 i (List.mem_range.2 (Array.getElem?_eq_some_iff.1 hi).1)
  simp only [hi] at h1
  intro e he hb
  have := Array.all_eq_true_iff_forall_mem.1 h1 e he
  simp only [Bool.or_eq_true, hb, Bool.not_true, Bool.false_eq_true, false_or, decide_eq_true_eq] at this
  exact this
theorem drB_pair (hB : drB ops m = true) {i j : Nat} {oi oj : Oper} (hi : ops[i]? = some oi) (hj : ops[j]? = some oj) (him : i < m) (hjm : j < m) (hij : i < j) (hw : Region.waitsFor .any ops j i = false) : oi.apart ops oj = true := by
  unfold drB at hB
  simp only [Bool.and_eq_true] at hB
  have h1 := List.all_eq_true.1 (List.all_eq_true.1 hB.1.2 i (List.mem_range.2 him)) j (List.mem_range.2 hjm)
  simp only [hi, hj, hw, Bool.or_false, Bool.or_eq_true, decide_eq_true_eq] at h1
  rcases h1 with h1 | h1
  · omega
  · exact h1
theorem drB_tail (hB : drB ops m = true) : m = ops.size ∨ (m < ops.size ∧ Region.sinkB .any ops m = true ∧ Region.chainB .any ops m = true) := by
  unfold drB at hB
  simp only [Bool.and_eq_true, Bool.or_eq_true, beq_iff_eq, decide_eq_true_eq] at hB
  rcases hB.2 with h | h
  · exact .inl h
  · exact .inr ⟨h.1.1, h.1.2, h.2⟩
theorem ready_not_waits {listed : Array Bool} {i j : Nat} (hj : j ∈ Region.ready .any ops listed) (hi : listed.getD i true = false) : Region.waitsFor .any ops j i = false := by
  cases hw : Region.waitsFor .any ops j i with
  | false => rfl
  | true =>
    exfalso
    obtain ⟨oj, hoj, e, he, hb, hon⟩ := Region.waitsFor_spec hw
    obtain ⟨_, o, ho, hall⟩ := mem_ready.1 hj
    have : o = oj := Option.some.inj (ho.symm.trans hoj)
    subst this
    have h2 := hall e he hb
    rw [hon, getD_both hi] at h2
    cases h2
theorem tail_not (hB : drB ops m = true) {listed : Array Bool} (inv : HeadInv .any ops m listed) {i : Nat} (hi : i < m) (hun : listed.getD i true = false) {j : Nat} (hj : j ∈ Region.ready .any ops listed) : j < m := by
  rcases Nat.lt_or_ge j m with h | h
  · exact h
  · exfalso
    rcases drB_tail hB with rfl | ⟨hlt, hs, hc⟩
    · obtain ⟨_, o, ho, _⟩ := mem_ready.1 hj
      have := (Array.getElem?_eq_some_iff.1 ho).1
      omega
    · exact tail_waits hs hc hlt inv _ i rfl hi hun j h hj
theorem op_wpF (hT : TOkX P X) (hΛ : ∀ g L T sz es as es', X.Λ g = some L → L.2 T sz es as = some es' → LentAt P J L.1 g T sz es as es') (hΦ : ∀ g args r bs, X.Φ g args = some (r, bs) → SoundAt P J g args r bs) (hJJ : Stable J) {s : FS} {a : Act} {w : World} {ρ : Nat → Option Value} (hs : SimF J ok w0 F n s a w ρ) {o : Oper} {v : V} {eff : Eff}
    (h : evalOp X s.e s.h (o.dst.getD 0) o.op = some (v, eff)) {KW : Act → World → Prop} {Q : Exit → Act → World → Prop}
    (hK : ∀ w' ρ' val, Step ok F.B w ρ w' ρ' (eff.hp s.h) eff.tr eff.tc → Rel w' (okAt ok F.B ρ' w') ρ' v val → KW (a.put o.dst val) w') : o.wp P a w KW Q :=
  op_sound hT hΛ hΦ (fun w' hb => hs.j w' (hs.below.trans hb)) hs.inv hs.opd h KW Q fun w' ρ' val hst hr => hK w' ρ' val hst hr
theorem yd_wp (hT : TOkX P X) (hΛ : ∀ g L T sz es as es', X.Λ g = some L → L.2 T sz es as = some es' → LentAt P J L.1 g T sz es as es') (hΦ : ∀ g args r bs, X.Φ g args = some (r, bs) → SoundAt P J g args r bs) (hJJ : Stable J) {s : FS} {a : Act} {w : World} {ρ : Nat → Option Value} (hs : SimF J ok w0 F n s a w ρ) {j : Nat} {o : Oper} (hj : ops[j]? = some o) {v : V} {eff : Eff}
    (hy : Yd X ops.toList o s v eff) (hd : dstOk n o.dst) {KW : Act → World → Prop} {Q : Exit → Act → World → Prop} (hK : ∀ a' w' ρ', SimF J ok w0 F n (s.put o.dst v eff) a' w' ρ' → KW a' w') : wpOp P ops Q j KW a w := by
  obtain ⟨hm, hy⟩ := hy
  unfold wpOp
  simp only [hj]
  obtain ⟨dst, op, ty, pos, after, guard⟩ := o
  have run : evalOp X s.e s.h (dst.getD 0) op = some (v, eff) → Oper.wp P ⟨dst, op, ty, pos, after, guard⟩ a w KW Q := fun h => op_wpF hT hΛ hΦ hJJ hs (o := ⟨dst, op, ty, pos, after, guard⟩) h fun w' ρ' val hst hr => hK _ _ _ (hs.step hd hm (fun b hb => evalOp_tc h (dst_small' hd hs.small) hb) hst hr)
  cases guard with
  | none => exact .inl (run hy)
  | some g =>
    obtain ⟨k, want⟩ := g
    obtain ⟨t, b, ht, hb, h⟩ := hy
    rw [wanted_of ht hb (hs.rel t)]
    split at h
    · rename_i hc
      rw [if_pos hc]
      exact .inl (run h)
    · rename_i hc
      rw [if_neg hc]
      obtain ⟨rfl, rfl⟩ := h
      exact hK _ _ _ (hs.step hd rfl (fun _ _ => rfl) (Step.refl hs.inv) (.ro (.raw _)))
theorem head_sound (hT : TOkX P X) (hΛ : ∀ g L T sz es as es', X.Λ g = some L → L.2 T sz es as = some es' → LentAt P J L.1 g T sz es as es') (hΦ : ∀ g args r bs, X.Φ g args = some (r, bs) → SoundAt P J g args r bs) (hJJ : Stable J) (hB : drB ops m = true) (hm : m ≤ ops.size) {Q : Exit → Act → World → Prop} (g : Nat) {s' : FS}
    (hend : ∀ listed a w ρ, SimF J ok w0 F n s' a w ρ → HeadInv .any ops m listed → (∀ i, i < m → listed.getD i true = true) → wpAny P .any ops Q g listed a w) :
    ∀ (f : Nat) (rem : List Nat), rem.length = f → ∀ (listed : Array Bool) (s : FS) (a : Act) (w : World) (ρ : Nat → Option Value), SimF J ok w0 F n s a w ρ → Rn X n ops rem s s' → rem.Pairwise (· < ·) → (∀ i, i ∈ rem ↔ i < m ∧ listed.getD i true = false) → HeadInv .any ops m listed →
      wpAny P .any ops Q (f + g) listed a w
  | 0, rem, hl, listed, s, a, w, ρ, hs, hr, hp, hin, inv => by
    have : rem = [] := List.eq_nil_of_length_eq_zero hl
    subst this
    have hr : s = s' := hr
    subst hr
    rw [Nat.zero_add]
    refine hend listed a w ρ hs inv fun i hi => ?_
    cases hc : listed.getD i true with
    | true => rfl
    | false => exact absurd ((hin i).2 ⟨hi, hc⟩) (by simp)
  | f + 1, rem, hl, listed, s, a, w, ρ, hs, hr, hp, hin, inv => by
    have hnd : rem.Nodup := hp.imp fun h => by omega
    -- the first of those that are left is ready
    have hfirst : ∃ i, i ∈ rem ∧ i ∈ Region.ready .any ops listed := by
      match rem, hl with
      | i :: rem', _ =>
        refine ⟨i, by simp, ?_⟩
        obtain ⟨him, hun⟩ := (hin i).1 (by simp)
        refine mem_ready.2 ⟨hun, ops[i], Array.getElem?_eq_getElem (by omega), fun e he hb => ?_⟩
        have hlt := drB_edges hB (Array.getElem?_eq_getElem (show i < ops.size by omega)) e he hb
        cases hc : listed.getD e.on false with
        | true => rfl
        | false =>
          exfalso
          have hon := (hin e.on).2 ⟨by omega, getD_in (by rw [inv.size]; omega) hc⟩
          rcases List.mem_cons.1 hon with h | h
          · omega
          · have := (List.pairwise_cons.1 hp).1 _ h; omega
    obtain ⟨i0, hi0, hr0⟩ := hfirst
    rw [show f + 1 + g = (f + g) + 1 by omega]
    refine ⟨fun h0 => (by rw [h0] at hr0; cases hr0), fun j hj => ?_⟩
    obtain ⟨hi0m, hun0⟩ := (hin i0).1 hi0
    have hjm := tail_not hB inv hi0m hun0 hj
    obtain ⟨hjun, oj, hoj, _⟩ := mem_ready.1 hj
    have hjrem := (hin j).2 ⟨hjm, hjun⟩
    obtain ⟨v, eff, hy, hd, _, hr'⟩ := pull hoj hs.closed rem s hr hjrem hnd (fun i hi oi hoi hne _ hcon => by
        obtain ⟨him, hun⟩ := (hin i).1 hi
        refine drB_pair hB hoi hoj him hjm ?_ (ready_not_waits hj hun)
        have hsub : ∀ (l : List Nat), l.Pairwise (· < ·) → j ∈ l → (l.takeWhile (· != j)).contains i = true → i < j := by
          intro l
          induction l with
          | nil => intro _ h; cases h
          | cons x l ih =>
            intro hp hjl hc
            rw [List.takeWhile_cons] at hc
            by_cases hx : x = j
            · subst hx; simp at hc
            · have hx' : (x != j) = true := by simpa using hx
              rw [hx'] at hc
              simp only [if_true, List.contains_cons, Bool.or_eq_true, beq_iff_eq] at hc
              have hjl' : j ∈ l := by simpa [Ne.symm hx] using hjl
              rcases hc with hc | hc
              · subst hc; exact (List.pairwise_cons.1 hp).1 j hjl'
              · exact ih (List.pairwise_cons.1 hp).2 hjl' hc
        exact hsub rem hp hjrem hcon) (fun _ _ h => h) (fun _ _ => rfl)
    refine yd_wp hT hΛ hΦ hJJ hs hoj hy hd fun a' w' ρ' hs2 => ?_
    refine head_sound hT hΛ hΦ hJJ hB hm g hend f (rem.erase j) (by rw [List.length_erase_of_mem hjrem]; omega) _ _ a' w' ρ' hs2 hr' (hp.sublist List.erase_sublist) (fun i => ?_) (inv.set hj hjm)
    rw [hnd.mem_erase_iff, hin]
    by_cases hij : j = i
    · subst hij
      have : j < listed.size := by rw [inv.size]; omega
      simp [this]
    · rw [getD_set_ne true hij]
      constructor
      · exact fun h => h.2
      · exact fun h => ⟨fun he => hij he.symm, h⟩
theorem evOps_step (hT : TOkX P X) (hΛ : ∀ g L T sz es as es', X.Λ g = some L → L.2 T sz es as = some es' → LentAt P J L.1 g T sz es as es') (hΦ : ∀ g args r bs, X.Φ g args = some (r, bs) → SoundAt P J g args r bs) (hJJ : Stable J) {Q : Exit → Act → World → Prop} {K : St → Prop} {o : Oper} {os : List Oper} {k : Nat} {σ : St} {a : Act} {w : World} {KW : Act → World → Prop}
    (hk : ops[k]? = some o) (h : evOps X n ops.toList (o :: os) σ K) (hs : Sims J ok w0 F n σ a w) (hK : ∀ σ a w, evOps X n ops.toList os σ K → Sims J ok w0 F n σ a w → KW a w) : wpOp P ops Q k KW a w := by
  unfold wpOp
  simp only [hk]
  obtain ⟨dst, op, ty, pos, after, guard⟩ := o
  obtain ⟨ρ, hs⟩ := hs
  cases guard with
  | none =>
    have hw : Region.wanted ⟨dst, op, ty, pos, after, none⟩ (yielded ops a.tmps) = true := rfl
    rw [if_pos hw]
    left
    simp only [evOps] at h
    unfold onSome at h
    split at h
    · rename_i σ1 hf
      obtain ⟨ρ1, hs1⟩ := hs.freezeL hf
      refine op_wp hT hΛ hΦ hJJ hs1 (o := ⟨dst, op, ty, pos, after, none⟩) h fun v eff w' ρ' val hk2 hev hst hr => ?_
      exact hK _ _ _ hk2.2 ⟨ρ', hs1.step hk2.1 (fun b hb => evalOp_tc hev (dst_small' hk2.1 hs.small) hb) hst hr⟩
    · exact h.elim
  | some g =>
    obtain ⟨j, want⟩ := g
    simp only [evOps] at h
    unfold onSome at h
    split at h
    · rename_i t ht
      split at h
      · rename_i b hb
        rw [wanted_of ht hb (hs.rel t)]
        unfold onIf at h
        split at h
        · rename_i hbw
          rw [if_pos hbw]
          left
          refine op_wp hT hΛ hΦ hJJ hs (o := ⟨dst, op, ty, pos, after, some (j, want)⟩) h fun v eff w' ρ' val hk2 hev hst hr => ?_
          exact hK _ _ _ hk2.2 ⟨ρ', hs.step hk2.1 (fun b hb => evalOp_tc hev (dst_small' hk2.1 hs.small) hb) hst hr⟩
        · rename_i hbw
          rw [if_neg hbw]
          exact hK _ _ _ h.2 ⟨ρ, hs.skip h.1⟩
      · exact h.elim
    · exact h.elim
theorem tail_sound (hT : TOkX P X) (hΛ : ∀ g L T sz es as es', X.Λ g = some L → L.2 T sz es as = some es' → LentAt P J L.1 g T sz es as es') (hΦ : ∀ g args r bs, X.Φ g args = some (r, bs) → SoundAt P J g args r bs) (hJJ : Stable J) (hB : drB ops m = true) {Q : Exit → Act → World → Prop} {K : St → Prop}
    (hQ : ∀ σ a w, K σ → Sims J ok w0 F n σ a w → Q .normal a w) : ∀ (os : List Oper) (k : Nat) (listed : Array Bool) (σ : St) (a : Act) (w : World), m ≤ k → k + os.length = ops.size → listed.size = ops.size → (∀ (j : Nat), os[j]? = ops[k + j]?) →
      (∀ i, i < ops.size → (listed.getD i true = false ↔ k ≤ i)) → evOps X n ops.toList os σ K → Sims J ok w0 F n σ a w → wpAny P .any ops Q os.length listed a w
  | [], k, listed, σ, a, w, hmk, hlen, hsz, hops, hli, h, hs => by
    have hnil : Region.ready .any ops listed = [] := by
      rw [List.eq_nil_iff_forall_not_mem]
      intro i hi
      obtain ⟨hun, o, ho, _⟩ := mem_ready.1 hi
      have hlt := (Array.getElem?_eq_some_iff.1 ho).1
      have := (hli i hlt).1 hun
      simp at hlen
      omega
    exact ⟨hnil, hQ σ a w h hs⟩
  | o :: os, k, listed, σ, a, w, hmk, hlen, hsz, hops, hli, h, hs => by
    have hk : ops[k]? = some o := by have := hops 0; simpa using this.symm
    have hklt := (Array.getElem?_eq_some_iff.1 hk).1
    have hrest : ∀ (j : Nat), os[j]? = ops[k + 1 + j]? := fun j => by have := hops (j + 1); rw [show k + 1 + j = k + (j + 1) by omega]; simpa using this
    have hrk : k ∈ Region.ready .any ops listed := by
      refine mem_ready.2 ⟨(hli k hklt).2 (Nat.le_refl _), o, hk, fun e he hb => ?_⟩
      have hlt := drB_edges hB hk e he hb
      cases hc : listed.getD e.on false with
      | true => rfl
      | false =>
        have := (hli e.on (by omega)).1 (getD_in (by omega) hc)
        omega
    rw [List.length_cons]
    refine ⟨fun h0 => (by rw [h0] at hrk; cases hrk), fun j hj => ?_⟩
    have hjk : j = k := by
      obtain ⟨hun, oj, hoj, _⟩ := mem_ready.1 hj
      have hjlt := (Array.getElem?_eq_some_iff.1 hoj).1
      have hge := (hli j hjlt).1 hun
      rcases Nat.lt_or_ge k j with hlt | hle
      · exfalso
        rcases drB_tail hB with rfl | ⟨_, _, hc⟩
        · omega
        · have h1 := List.all_eq_true.1 hc j (List.mem_range.2 hjlt)
          simp only [Bool.or_eq_true, decide_eq_true_eq] at h1
          rcases h1 with h1 | h1
          · omega
          · have h2 := ready_not_waits hj ((hli (j - 1) (by omega)).2 (by omega))
            rw [h1] at h2
            cases h2
      · omega
    subst hjk
    refine evOps_step hT hΛ hΦ hJJ hk h hs fun σ' a' w' h' hs' => ?_
    refine tail_sound hT hΛ hΦ hJJ hB hQ os (j + 1) _ σ' a' w' (by omega) (by simp at hlen ⊢; omega) (by simpa using hsz) hrest (fun i hi => ?_) h' hs'
    by_cases hij : j = i
    · subst hij
      have : j < listed.size := by omega
      simp [this]
    · rw [getD_set_ne true hij, hli i hi]
      omega
theorem dr_sound (hmix : P.follows .mixedOrders = true) (hT : TOkX P X) (hΛ : ∀ g L T sz es as es', X.Λ g = some L → L.2 T sz es as = some es' → LentAt P J L.1 g T sz es as es') (hΦ : ∀ g args r bs, X.Φ g args = some (r, bs) → SoundAt P J g args r bs) (hJJ : Stable J) (hB : drB ops m = true) {id : Nat} {σ : St} {a : Act} {w : World} {Q : Exit → Act → World → Prop} {K : St → Prop}
    (h : evHead X n ops.toList (ops.toList.take m) σ fun σ1 => evOps X n ops.toList (ops.toList.drop m) σ1 K) (hs : Sims J ok w0 F n σ a w) (hQ : ∀ σ a w, K σ → Sims J ok w0 F n σ a w → Q .normal a w) : (Code.region id ops true).wp P Q a w := by
  have hm : m ≤ ops.size := by rcases drB_tail hB with rfl | ⟨h, _⟩ <;> omega
  obtain ⟨σ1, hK, hr⟩ := evHead_run (ops.toList.take m) 0 σ (fun j hj => by
    rw [List.length_take] at hj
    rw [List.getElem?_take_of_lt (by omega), Nat.zero_add]; simp) h
  obtain ⟨ρ, hs⟩ := hs
  refine wp_region_any hmix ?_
  have hdr : SimF J ok w0 F n σ.fs a { w with drawn := w.drawn + 1 } ρ := by
    have hb : Below w.heap.size w { w with drawn := w.drawn + 1 } := ⟨rfl, rfl, rfl, Nat.le_refl _, fun _ _ => rfl⟩
    have hmono : ∀ g, okAt ok F.B ρ w g → okAt ok F.B ρ { w with drawn := w.drawn + 1 } g ∧ (World.heap { w with drawn := w.drawn + 1 })[g]? = w.heap[g]? := fun g hg => ⟨hg, rfl⟩
    refine ⟨hs.j, hs.below.trans (hb.mono hs.inv.size), ⟨hs.inv.size, fun b k hk => ?_, hs.inv.dom, hs.inv.inj⟩, fun t => (hs.rel t).mono hmono fun _ _ h => h, hs.size, hs.defers, ⟨hs.fr.keep, hs.fr.fresh, hs.fr.hdr, hs.fr.grow⟩, hs.small⟩
    obtain ⟨sv, hr, hb⟩ := hs.inv.blk b k hk
    exact ⟨sv, hr, hb.mono' hmono (Nat.le_refl _) (fun _ _ => rfl) fun _ _ h => h⟩
  have hlen : (List.range' 0 (ops.toList.take m).length).length = m := by simp; omega
  have := head_sound (Q := Q) hT hΛ hΦ hJJ hB hm (ops.size - m) (s' := σ1.fs) (fun listed a w ρ hs1 inv hall => by
    have hl : (ops.toList.drop m).length = ops.size - m := by simp
    rw [← hl]
    refine tail_sound hT hΛ hΦ hJJ hB hQ (ops.toList.drop m) m listed σ1 a w (Nat.le_refl _) (by rw [hl]; omega) inv.size (fun j => by simp) (fun i hi => ?_) hK ⟨ρ, hs1.to rfl⟩
    rcases Nat.lt_or_ge i m with hlt | hge
    · rw [hall i hlt]; simp; omega
    · rw [inv.tail i hge hi]; simp; omega) m _ hlen (Array.replicate ops.size false) σ.fs a _ ρ hdr hr (by
      exact List.pairwise_lt_range') (fun i => by
      simp only [List.mem_range'_1, Nat.zero_le, Nat.zero_add, true_and, List.length_take, Array.length_toList]
      constructor
      · intro hi; refine ⟨by omega, ?_⟩; rw [Array.getD_eq_getD_getElem?, Array.getElem?_replicate, if_pos (by omega)]; rfl
      · intro hi; omega) ⟨by simp, (fun j oj hj hl => by rw [getD_replicate_false] at hl; exact absurd hl (by simp)), fun t ht ht' => by rw [Array.getD_eq_getD_getElem?, Array.getElem?_replicate, if_pos ht']; rfl⟩
  rwa [show m + (ops.size - m) = ops.size by omega] at this
end
/-! ### Heads that write -/
section
variable {X : Ctx} {e e' : Env} {h h' : Hp} {d n : Nat}
theorem noRefL_mem {b : Nat} {c : V} : ∀ {cs : List V}, c ∈ cs → V.noRef b c = false → V.noRefL b cs = false
  | x :: cs, hc, hr => by
    rcases List.mem_cons.1 hc with rfl | hc
    · simp [V.noRefL, hr]
    · simp [V.noRefL, noRefL_mem hc hr]
theorem ref_noRef {b : Nat} {v : V} (hr : Ref b v) : V.noRef b v = false := by
  induction hr with
  | ptr o => simp [V.noRef]
  | eptr sz i o => simp [V.noRef]
  | vec => simp [V.noRef]
  | sub sz lo k => simp [V.noRef]
  | agg hc _ ih => simp only [V.noRef]; exact noRefL_mem hc ih
  | tup hc _ ih => simp only [V.noRef]; exact noRefL_mem hc ih
  | fn hc _ ih => simp only [V.noRef]; exact noRefL_mem hc ih
theorem off_not {b : Nat} {l : List V} (ho : offW (some b) (some l) = true) {x : V} (hx : x ∈ l) : ¬ Ref b x := fun hr => by
  have := List.all_eq_true.1 ho x hx
  rw [ref_noRef hr] at this
  cases this
theorem touch_call {c : Call} {l : List V} (ht : touchOf e (.call c) = some l) : c.callee = .builtin .copy ∧ l = c.args.toList.map (opd e) := by
  obtain ⟨cal, args, tys⟩ := c
  cases cal with
  | value f => simp [touchOf] at ht
  | invoke r m => simp [touchOf] at ht
  | builtin b => cases b <;> simp [touchOf] at ht ⊢; exact ht.symm
theorem touch_env {op : Op} (ho : ∀ x ∈ op.operands, opd e' x = opd e x) : touchOf e' op = touchOf e op := by
  by_cases hc : ∃ c, op = .call c
  · obtain ⟨⟨cal, args, tys⟩, rfl⟩ := hc
    cases cal with
    | value f => rfl
    | invoke r m => rfl
    | builtin b =>
      cases b <;> first | rfl | skip
      simp only [touchOf]
      exact congrArg some (List.map_congr_left fun x hx => ho x (by simp [Op.operands, Call.operands]; simpa using hx))
  cases op <;> simp only [Op.operands] at ho <;> simp only [touchOf] <;> simp_all
theorem touch_opd {op : Op} {l : List V} (ht : touchOf e op = some l) {x : V} (hx : x ∈ l) : ∃ y ∈ op.operands, x = opd e y := by
  by_cases hc : ∃ c, op = .call c
  · obtain ⟨c, rfl⟩ := hc
    obtain ⟨h1, rfl⟩ := touch_call ht
    obtain ⟨y, hy, rfl⟩ := List.mem_map.1 hx
    exact ⟨y, by simp [Op.operands, Call.operands, h1]; simpa using hy, rfl⟩
  cases op <;> first | exact absurd ⟨_, rfl⟩ hc | skip
  all_goals simp only [touchOf, Option.some.injEq, reduceCtorEq] at ht <;> subst ht <;> simp [Op.operands] at hx ⊢ <;> first | exact hx | (subst hx; simp) | skip
theorem store_write {op : Op} {v : V} {b : Nat} {k : Blk} {l : List V} (hev : evalOp X e h d op = some (v, .write b k)) (ht : touchOf e op = some l) : (∃ x ∈ l, Ref b x) ∧ ∃ k0, h b = some k0 := by
  by_cases hc : ∃ c, op = .call c
  · obtain ⟨⟨cal, args, tys⟩, rfl⟩ := hc
    obtain ⟨h1, rfl⟩ := touch_call ht
    simp only at h1
    subst h1
    simp only [evalOp] at hev
    split at hev <;> first | (cases hev; done) | skip
    rename_i s x t t2 ha hty
    unfold copyV at hev
    split at hev <;> first | (cases hev; done) | skip
    split at hev <;> first | (cases hev; done) | skip
    split at hev <;> first | (cases hev; done) | skip
    split at hev <;> first | (cases hev; done) | skip
    rename_i b' sz lo k' hop
    split at hev <;> first | (cases hev; done) | skip
    rename_i T es hsub
    split at hev <;> first | (cases hev; done) | skip
    simp only [Option.some.injEq, Prod.mk.injEq, Eff.write.injEq] at hev
    obtain ⟨_, rfl, _⟩ := hev
    refine ⟨⟨opd e s, by simp [ha], ?_⟩, ?_⟩
    · unfold ownP at hop
      split at hop
      · rename_i b2 hq
        split at hop
        · split at hop
          · simp only [Option.some.injEq, Prod.mk.injEq] at hop
            rw [← hop.1, hq]; exact .vec
          · cases hop
        · cases hop
      · rename_i b2 sz2 lo2 k2 hq
        simp only [Option.some.injEq, Prod.mk.injEq] at hop
        rw [← hop.1, hq]; exact .sub _ _ _
      · cases hop
    · unfold subE at hsub
      cases hb : h b' with
      | none => simp [hb] at hsub
      | some k0 => exact ⟨k0, rfl⟩
  cases op <;> first | exact absurd ⟨_, rfl⟩ hc | skip
  all_goals simp only [touchOf, Option.some.injEq, reduceCtorEq] at ht
  case store T a x =>
    subst ht
    simp only [evalOp] at hev
    split at hev <;> first | (cases hev; done) | skip
    split at hev <;> first | (cases hev; done) | skip
    split at hev <;> first | (cases hev; done) | skip
    · rename_i b' off ha
      split at hev <;> first | (cases hev; done) | skip
      rename_i v0 hb
      split at hev <;> first | (cases hev; done) | skip
      cases hev
      exact ⟨⟨opd e a, by simp, by rw [ha]; exact .ptr off⟩, _, hb⟩
    · rename_i b' sz j off ha
      split at hev <;> first | (cases hev; done) | skip
      rename_i Te sz' es hb
      split at hev <;> first | (cases hev; done) | skip
      split at hev <;> first | (cases hev; done) | skip
      split at hev <;> first | (cases hev; done) | skip
      cases hev
      exact ⟨⟨opd e a, by simp, by rw [ha]; exact .eptr sz j off⟩, _, hb⟩
  all_goals
    exfalso
    simp only [evalOp, Option.map_eq_some_iff] at hev
    first
      | (obtain ⟨u, _, hu⟩ := hev; cases hu; done)
      | (repeat' (first | (cases hev; done) | (obtain ⟨u, _, hu⟩ := hev; cases hu; done) | split at hev))
      | skip
    all_goals (first | (obtain ⟨u, _, hu⟩ := (Option.map_eq_some_iff.1 hev); cases hu; done) | skip)
theorem evalOp_mono1 {op : Op} {v : V} {eff : Eff} {l : List V} (hev : evalOp X e h d op = some (v, eff)) (ht : touchOf e op = some l) (hup : ∀ x ∈ l, Up1 h h' x) (hfr : ∀ b, eff.has b = true → h' b = none) :
    evalOp X e h' d op = some (v, eff) := by
  by_cases hc : ∃ c, op = .call c
  · obtain ⟨⟨cal, args, tys⟩, rfl⟩ := hc
    obtain ⟨h1, rfl⟩ := touch_call ht
    simp only at h1
    subst h1
    simp only [evalOp] at hev ⊢
    split at hev <;> first | (cases hev; done) | skip
    rename_i s x t t2 ha hty
    exact copyV_up1 (hup _ (by simp [ha])) (hup _ (by simp [ha])) hev
  cases op <;> first | exact absurd ⟨_, rfl⟩ hc | skip
  all_goals simp only [touchOf, Option.some.injEq, reduceCtorEq] at ht
  case assign x =>
    simp only [evalOp] at hev ⊢
    split at hev
    · rename_i T sz hn
      try simp only [hn]
      split at hev
      · rename_i hz
        try simp only [hz]
        split at hev
        · rename_i hc
          simp only [Option.some.injEq, Prod.mk.injEq] at hev
          obtain ⟨rfl, rfl⟩ := hev
          rw [if_pos ⟨new1_up hfr, hc.2⟩]
        · cases hev
      · exact hev
    · rename_i hn
      try simp only [hn]
      exact hev
  case alloc T =>
    simp only [evalOp] at hev ⊢
    split at hev
    · rename_i i hi
      try simp only [hi]
      split at hev
      · rename_i hc
        simp only [Option.some.injEq, Prod.mk.injEq] at hev
        obtain ⟨rfl, rfl⟩ := hev
        rw [if_pos ⟨new1_up hfr, hc.2⟩]
      · cases hev
    · cases hev
  case box T x =>
    simp only [evalOp] at hev ⊢
    split at hev
    · rename_i hc
      simp only [Option.some.injEq, Prod.mk.injEq] at hev
      obtain ⟨rfl, rfl⟩ := hev
      rw [if_pos ⟨new1_up hfr, hc.2⟩]
    · cases hev
  case load T x =>
    subst ht
    have hux := hup (opd e x) (by simp)
    simp only [evalOp] at hev ⊢
    split at hev
    · rename_i i hi
      try simp only [hi]
      split at hev
      · rename_i v1 off hv
        try simp only [hv]
        exact hev
      · rename_i b off hv
        try simp only [hv]
        cases hb : h b with
        | none => simp [hb] at hev
        | some k => rw [hb] at hev; rw [hux b (by rw [hv]; exact .ptr off) k hb]; exact hev
      · rename_i b sz j off hv
        try simp only [hv]
        cases hb : h b with
        | none => simp [hb] at hev
        | some k => rw [hb] at hev; rw [hux b (by rw [hv]; exact .eptr sz j off) k hb]; exact hev
      · cases hev
    · cases hev
  case store T a x =>
    subst ht
    have hux := hup (opd e a) (by simp)
    simp only [evalOp] at hev ⊢
    split at hev
    · rename_i i hi
      try simp only [hi]
      split at hev
      · rename_i hc
        rw [if_pos hc]
        split at hev
        · rename_i b off hv
          try simp only [hv]
          cases hb : h b with
          | none => simp [hb] at hev
          | some k => rw [hb] at hev; rw [hux b (by rw [hv]; exact .ptr off) k hb]; exact hev
        · rename_i b sz j off hv
          try simp only [hv]
          cases hb : h b with
          | none => simp [hb] at hev
          | some k => rw [hb] at hev; rw [hux b (by rw [hv]; exact .eptr sz j off) k hb]; exact hev
        · cases hev
      · cases hev
    · cases hev
  case indexAddr T x i =>
    subst ht
    have hux := hup (opd e x) (by simp)
    simp only [evalOp] at hev ⊢
    split at hev
    · rename_i e1 s1 b1 z1 ik n hT hi
      try simp only [hT, hi]
      split at hev
      · rename_i ie sz es hT2 hx
        try simp only [hT2, hx]
        exact hev
      · rename_i ie b hT2 hx
        try simp only [hT2, hx]
        cases hb : h b with
        | none => simp [hb] at hev
        | some k => rw [hb] at hev; rw [hux b (by rw [hx]; exact .vec) k hb]; exact hev
      · rename_i ie b sz lo k hT2 hx
        try simp only [hT2, hx]
        exact hev
      · cases hev
    · rename_i m e1 s1 b1 z1 ik n hT hi
      try simp only [hT, hi]
      exact hev
    · cases hev
  case binOp op T x y U =>
    subst ht
    have hx := hup (opd e x) (by simp)
    have hy := hup (opd e y) (by simp)
    simp only [evalOp] at hev ⊢
    cases hb : binV op (opd e x) (opd e y) with
    | some v => rw [hb] at hev; exact hev
    | none =>
      rw [hb] at hev
      simp only at hev ⊢
      cases op <;> first | exact hev | skip
      all_goals
        simp only [Option.map_eq_some_iff] at hev ⊢
        obtain ⟨q, hq, he⟩ := hev
        exact ⟨q, eqH_up hx hy hq, he⟩
  all_goals exact hev
theorem tame_tr {eff : Eff} (hm : eff.tame = true) : eff.tr = id := by cases eff <;> first | rfl | cases hm
theorem tame_mild {eff : Eff} (hm : eff.tame = true) (hw : eff.wb = none) : eff.mild = true := by cases eff <;> first | rfl | (cases hm; done) | (simp [Eff.wb] at hw; done)
theorem app_fsW (σ : St) {eff : Eff} (hm : eff.tame = true) (dst : Option Nat) (v : V) : (σ.app eff dst v).fs = σ.fs.put dst v eff := by
  cases eff with
  | write b k =>
    simp only [St.fs, FS.put, FS.mk.injEq]
    refine ⟨by funext t; simp only [St.app, St.e, e_put], ?_⟩
    funext b'
    simp only [St.app, St.h, Eff.hp, upd, look_setH]
  | none => exact app_fs σ rfl dst v
  | new l => exact app_fs σ rfl dst v
  | change b k => cases hm
  | lend b k => cases hm
theorem hpW_dom (eff : Eff) (hm : eff.tame = true) (h : Hp) {b : Nat} (hb : h b ≠ none) : eff.hp h b ≠ none := by
  cases eff with
  | none => exact hb
  | new l =>
    simp only [Eff.hp, either]
    cases hh : h b with
    | none => exact (hb hh).elim
    | some k => simp
  | write b' k => simp only [Eff.hp, upd]; split <;> simp_all
  | change b k => cases hm
  | lend b k => cases hm
theorem hpW_keep (eff : Eff) (hm : eff.tame = true) (h : Hp) {b : Nat} {k : Blk} (hb : h b = some k) (hw : eff.wb ≠ some b) : eff.hp h b = some k := by
  cases eff with
  | write b' k' =>
    have : b ≠ b' := fun he => hw (by rw [he]; rfl)
    simp only [Eff.hp, upd, if_neg this]; exact hb
  | none => exact hb
  | new l => exact hp_ge (.new l) rfl h hb
  | change b k => cases hm
  | lend b k => cases hm
theorem hpW_none (eff : Eff) (hm : eff.tame = true) (h : Hp) {b : Nat} (hb : eff.hp h b = none) : h b = none ∧ eff.has b = false := by
  cases eff with
  | write b' k' =>
    simp only [Eff.hp, upd] at hb
    split at hb
    · cases hb
    · exact ⟨hb, rfl⟩
  | none => exact ⟨hb, rfl⟩
  | new l => exact (hp_has (.new l) rfl h b).1 hb
  | change b k => cases hm
  | lend b k => cases hm
theorem hpW_some (eff : Eff) (hm : eff.tame = true) (h : Hp) {b : Nat} (hb : h b = none) (hh : eff.has b = false) (hw : eff.wb ≠ some b) : eff.hp h b = none := by
  cases eff with
  | write b' k' =>
    have : b ≠ b' := fun he => hw (by rw [he]; rfl)
    simp only [Eff.hp, upd, if_neg this]; exact hb
  | none => exact hb
  | new l => exact (hp_has (.new l) rfl h b).2 ⟨hb, hh⟩
  | change b k => cases hm
  | lend b k => cases hm
theorem FS.put_commW (s : FS) {x y : Option Nat} {v u : V} {f g : Eff} (hf : f.tame = true) (hg : g.tame = true) (hxy : ∀ d, x = some d → y ≠ some d) (hd : ∀ b, f.has b = true → g.has b = false) (hw : ∀ b, f.wb = some b → g.wb ≠ some b) :
    (s.put x v f).put y u g = (s.put y u g).put x v f := by
  by_cases hfm : f.mild = true
  · by_cases hgm : g.mild = true
    · exact FS.put_comm s hfm hgm hxy hd
    · cases g <;> first | exact (hgm rfl).elim | (cases hg; done) | skip
      rename_i b k
      simp only [FS.put, FS.mk.injEq]
      refine ⟨?_, ?_⟩
      · funext t
        by_cases h1 : x = some t
        · have := hxy t h1; simp [h1, this]
        · simp [h1]
      · funext c
        cases f with
        | none => rfl
        | new l => simp only [Eff.hp, upd, either]; by_cases hc : c = b <;> simp [hc]
        | write _ _ => cases hfm
        | change _ _ => cases hfm
        | lend _ _ => cases hfm
  · cases f <;> first | exact (hfm rfl).elim | (cases hf; done) | skip
    rename_i b k
    simp only [FS.put, FS.mk.injEq]
    refine ⟨?_, ?_⟩
    · funext t
      by_cases h1 : x = some t
      · have := hxy t h1; simp [h1, this]
      · simp [h1]
    · funext c
      cases g with
      | none => rfl
      | new l => simp only [Eff.hp, upd, either]; by_cases hc : c = b <;> simp [hc]
      | write b' k' =>
        have hne : b ≠ b' := fun he => hw b rfl (by rw [he]; rfl)
        simp only [Eff.hp, upd]
        by_cases hc : c = b
        · subst hc; simp [hne]
        · simp [hc]
      | change _ _ => cases hg
      | lend _ _ => cases hg
/-- what an operation of such a head yields -/
def RunW (X : Ctx) (o : Oper) (s : FS) (v : V) (eff : Eff) (en : Ent) : Prop :=
  evalOp X s.e s.h (o.dst.getD 0) o.op = some (v, eff) ∧ en = ⟨touchOf s.e o.op, eff.wb⟩ ∧ eff.tame = true ∧ (en.us.isSome || en.w.isNone) = true
def YdW (X : Ctx) (ops : List Oper) (o : Oper) (s : FS) (v : V) (eff : Eff) (en : Ent) : Prop :=
  match o.guard with
  | none => RunW X o s v eff en
  | some (j, want) => ∃ t b, guardT ops j = some t ∧ gOf (s.e t) = some b ∧ if b == some want then RunW X o s v eff en else v = .raw Go.undef ∧ eff = .none ∧ en = ⟨some [], none⟩
theorem YdW.ind {ops : List Oper} {o : Oper} {s : FS} {v : V} {eff : Eff} {en : Ent} (hy : YdW X ops o s v eff en) {G : Prop} (h1 : RunW X o s v eff en → G) (h2 : eff = .none → en = ⟨some [], none⟩ → G) : G := by
  unfold YdW at hy
  split at hy
  · exact h1 hy
  · obtain ⟨t, b', _, _, hy⟩ := hy
    split at hy
    · exact h1 hy
    · exact h2 hy.2.1 hy.2.2
theorem YdW.new {ops : List Oper} {o : Oper} {s : FS} {v : V} {eff : Eff} {en : Ent} (hy : YdW X ops o s v eff en) {b : Nat} (hb : eff.has b = true) : s.h b = none :=
  hy.ind (fun h => evalOp_new h.1 hb) fun he _ => by subst he; cases hb
theorem YdW.tame {ops : List Oper} {o : Oper} {s : FS} {v : V} {eff : Eff} {en : Ent} (hy : YdW X ops o s v eff en) : eff.tame = true :=
  hy.ind (fun h => h.2.2.1) fun he _ => by subst he; rfl
theorem YdW.wb {ops : List Oper} {o : Oper} {s : FS} {v : V} {eff : Eff} {en : Ent} (hy : YdW X ops o s v eff en) : eff.wb = en.w :=
  hy.ind (fun h => by rw [h.2.1]) fun he hn => by subst he; subst hn; rfl
theorem YdW.write {ops : List Oper} {o : Oper} {s : FS} {v : V} {eff : Eff} {en : Ent} (hy : YdW X ops o s v eff en) {b : Nat} (hb : en.w = some b) : ∃ l, en.us = some l ∧ (∃ x ∈ l, Ref b x) ∧ ∃ k0, s.h b = some k0 :=
  hy.ind (fun h => by
    obtain ⟨hev, rfl, hm, hs⟩ := h
    simp only at hb hs ⊢
    cases eff <;> first | (cases hb; done) | skip
    rename_i b' k
    simp only [Eff.wb, Option.some.injEq] at hb
    subst hb
    cases ht : touchOf s.e o.op with
    | none => rw [ht] at hs; cases hs
    | some l => exact ⟨l, rfl, store_write hev ht⟩) fun he hn => by subst hn; cases hb
theorem YdW.touch {ops : List Oper} {o : Oper} {s : FS} {v : V} {eff : Eff} {en : Ent} (hy : YdW X ops o s v eff en) {l : List V} (hl : en.us = some l) {x : V} (hx : x ∈ l) : ∃ y ∈ o.op.operands, x = Ev.opd s.e y :=
  hy.ind (fun h => by
    obtain ⟨hev, rfl, hm, hs⟩ := h
    exact touch_opd hl hx) fun he hn => by subst hn; simp only [Option.some.injEq] at hl; subst hl; cases hx
theorem YdW.move {ops : Array Oper} {o : Oper} {s τ : FS} {v : V} {eff : Eff} {en : Ent} (hy : YdW X ops.toList o τ v eff en) (he : ∀ t ∈ o.looksAt ops, s.e t = τ.e t)
    (hu : ∀ l, en.us = some l → ∀ x ∈ l, Up1 τ.h s.h x) (hu2 : en.us = none → ∀ x ∈ o.op.operands, Up τ.h s.h (Ev.opd τ.e x))
    (hf : ∀ b, eff.has b = true → s.h b = none) : YdW X ops.toList o s v eff en := by
  have hop : ∀ x ∈ o.op.operands, Ev.opd s.e x = Ev.opd τ.e x := by
    intro x hx
    cases x with
    | tmp t => exact he t (List.mem_append_left _ (List.mem_filterMap.2 ⟨.tmp t, by simpa using hx, rfl⟩))
    | _ => rfl
  have key : RunW X o τ v eff en → RunW X o s v eff en := fun h => by
    obtain ⟨hev, rfl, hm, hs⟩ := h
    refine ⟨?_, by rw [touch_env hop], hm, hs⟩
    rw [evalOp_env hop]
    cases ht : touchOf τ.e o.op with
    | some l => exact evalOp_mono1 hev ht (hu l ht) hf
    | none =>
      refine evalOp_mono hev (tame_mild hm ?_) (hu2 ht) hf
      simp only [ht] at hs
      simpa using hs
  unfold YdW at hy ⊢
  cases hg : o.guard with
  | none => simp only [hg] at hy ⊢; exact key hy
  | some p =>
    obtain ⟨j, want⟩ := p
    simp only [hg] at hy ⊢
    obtain ⟨t, b, h1, h2, h3⟩ := hy
    refine ⟨t, b, h1, ?_, ?_⟩
    · rw [he t (List.mem_append_right _ (by
        rw [hg]
        have : (ops[j]?).bind (·.dst) = some t := by unfold guardT at h1; simpa using h1
        simp [this]))]
      exact h2
    · split at h3
      · rename_i hc; rw [if_pos hc]; exact key h3
      · rename_i hc; rw [if_neg hc]; exact h3
def RnW (X : Ctx) (n : Nat) (ops : Array Oper) (E : Nat → Ent) : List Nat → FS → FS → Prop
  | [], s, s' => s = s'
  | i :: is, s, s' => ∃ o v eff, ops[i]? = some o ∧ YdW X ops.toList o s v eff (E i) ∧ dstOk n o.dst ∧ RnW X n ops E is (s.put o.dst v eff) s'
theorem apart_skip (x : Ent) : apartE x ⟨some [], none⟩ = true := by
  obtain ⟨us, w⟩ := x
  cases w <;> rfl
theorem okU_spec {x : Option Ent} {y : Ent} (h : okU x y = true) : ∃ z, x = some z ∧ apartE z y = true := by
  cases x with
  | none => cases h
  | some z => exact ⟨z, rfl, h⟩
theorem evHeadW_run {ops : Array Oper} {K : St → Prop} : ∀ (l : List (Oper × List Nat)) (k : Nat) (L : List (Nat × Ent)) (E0 : Nat → Ent) (σ : St), (∀ j, j < l.length → (l[j]?).map (·.1) = ops[k + j]?) → (∀ i x, look i L = some x → i < k ∧ E0 i = x) → evHeadW X n ops.toList l k L σ K →
    ∃ σ' E, K σ' ∧ (∀ i, i < k → E i = E0 i) ∧ RnW X n ops E (List.range' k l.length) σ.fs σ'.fs ∧ ∀ j p, l[j]? = some p → ∀ i ∈ p.2, apartE (E i) (E (k + j)) = true
  | [], k, L, E0, σ, _, _, h => ⟨σ, E0, h, fun _ _ => rfl, rfl, fun j p hp => by simp at hp⟩
  | (o, un) :: l, k, L, E0, σ, hl, hL, h => by
    have h0 : ops[k]? = some o := by have := hl 0 (by simp); simpa using this.symm
    have hl' : ∀ j, j < l.length → (l[j]?).map (·.1) = ops[k + 1 + j]? := fun j hj => by have := hl (j + 1) (by simp; omega); rw [show k + 1 + j = k + (j + 1) by omega]; simpa using this
    have go : ∀ (v : V) (eff : Eff) (en : Ent), YdW X ops.toList o σ.fs v eff en → dstOk n o.dst → (∀ i ∈ un, okU (look i L) en = true ∨ en = ⟨some [], none⟩) → evHeadW X n ops.toList l (k + 1) ((k, en) :: L) (σ.app eff o.dst v) K →
        ∃ σ' E, K σ' ∧ (∀ i, i < k → E i = E0 i) ∧ RnW X n ops E (List.range' k ((o, un) :: l).length) σ.fs σ'.fs ∧ ∀ j p, ((o, un) :: l)[j]? = some p → ∀ i ∈ p.2, apartE (E i) (E (k + j)) = true := by
      intro v eff en hy hd hun hrest
      obtain ⟨σ', E, hK, hE, hr, hp⟩ := evHeadW_run l (k + 1) _ (fun i => if i = k then en else E0 i) _ hl' (fun i x hx => by
        rw [look] at hx
        split at hx
        · rename_i hik; subst hik; simp only [Option.some.injEq] at hx; exact ⟨by omega, by simp [hx]⟩
        · rename_i hik
          obtain ⟨h1, h2⟩ := hL i x hx
          exact ⟨by omega, by simp only [if_neg hik]; exact h2⟩) hrest
      have hEk : E k = en := by rw [hE k (by omega)]; simp
      have hEi : ∀ i, i < k → E i = E0 i := fun i hi => by rw [hE i (by omega)]; simp; omega
      refine ⟨σ', E, hK, hEi, ?_, ?_⟩
      · rw [List.length_cons, List.range'_succ]
        refine ⟨o, v, eff, h0, by rw [hEk]; exact hy, hd, ?_⟩
        rw [← app_fsW σ hy.tame]
        exact hr
      · intro j p hj i hi
        cases j with
        | zero =>
          simp only [List.getElem?_cons_zero, Option.some.injEq] at hj
          subst hj
          rw [Nat.add_zero, hEk]
          rcases hun i hi with hu | hu
          · obtain ⟨z, hz, ha⟩ := okU_spec hu
            obtain ⟨h1, h2⟩ := hL i z hz
            rw [hEi i h1, h2]
            exact ha
          · rw [hu]; exact apart_skip _
        | succ j =>
          simp only [List.getElem?_cons_succ] at hj
          rw [show k + (j + 1) = k + 1 + j by omega]
          exact hp j p hj i hi
    obtain ⟨dst, op, ty, pos, after, guard⟩ := o
    have run : ∀ (p : V × Eff), evalOp X σ.e σ.h (dst.getD 0) op = some p → okW L un (touchOf σ.e op) p.2 = true → RunW X ⟨dst, op, ty, pos, after, guard⟩ σ.fs p.1 p.2 ⟨touchOf σ.e op, p.2.wb⟩ ∧ ∀ i ∈ un, okU (look i L) ⟨touchOf σ.e op, p.2.wb⟩ = true := fun p hp hok => by
      unfold okW at hok
      simp only [Bool.and_eq_true, List.all_eq_true] at hok
      exact ⟨⟨hp, rfl, hok.1.1, hok.1.2⟩, hok.2⟩
    cases guard with
    | none =>
      simp only [evHeadW] at h
      unfold onSome at h
      split at h
      · rename_i p hp
        obtain ⟨⟨hd, hm⟩, h⟩ := h
        obtain ⟨h1, h2⟩ := run p hp hm
        exact go p.1 p.2 _ h1 hd (fun i hi => .inl (h2 i hi)) h
      · exact h.elim
    | some g =>
      obtain ⟨j, want⟩ := g
      simp only [evHeadW] at h
      unfold onSome at h
      split at h
      · rename_i t ht
        split at h
        · rename_i b hb
          unfold onIf at h
          split at h
          · rename_i hc
            split at h
            · rename_i p hp
              obtain ⟨⟨hd, hm⟩, h⟩ := h
              obtain ⟨h1, h2⟩ := run p hp hm
              exact go p.1 p.2 _ ⟨t, b, ht, hb, by rw [if_pos hc]; exact h1⟩ hd (fun i hi => .inl (h2 i hi)) h
            · exact h.elim
          · rename_i hc
            obtain ⟨hd, h⟩ := h
            exact go (.raw Go.undef) .none ⟨some [], none⟩ ⟨t, b, ht, hb, by rw [if_neg hc]; exact ⟨rfl, rfl, rfl⟩⟩ hd (fun _ _ => .inr rfl) h
        · exact h.elim
      · exact h.elim
theorem pullW {ops : Array Oper} {E : Nat → Ent} {j : Nat} {oj : Oper} {s s' : FS} (hj : ops[j]? = some oj) (hc : Closed s) : ∀ (rem : List Nat) (τ : FS), RnW X n ops E rem τ s' → j ∈ rem → rem.Nodup →
    (∀ i ∈ rem, ∀ oi, ops[i]? = some oi → i ≠ j → (rem.takeWhile (· != j)).contains i = true → oi.apart ops oj = true ∧ apartE (E i) (E j) = true) →
    (∀ b, s.h b ≠ none → τ.h b ≠ none) → (∀ l, (E j).us = some l → ∀ x ∈ l, ∀ b, Ref b x → ∀ k, s.h b = some k → τ.h b = some k) → ((E j).us = none → ∀ b k, s.h b = some k → τ.h b = some k) → (∀ t ∈ oj.looksAt ops, τ.e t = s.e t) →
    ∃ v eff, YdW X ops.toList oj s v eff (E j) ∧ dstOk n oj.dst ∧ (∀ b, eff.has b = true → τ.h b = none) ∧ RnW X n ops E (rem.erase j) (τ.put oj.dst v eff) s'
  | [], τ, _, hm, _, _, _, _, _, _ => by cases hm
  | i :: rem, τ, hr, hm, hn, hap, hdom, hag, hag2, hlk => by
    obtain ⟨o, v, eff, hi, hy, hd, hr⟩ := hr
    by_cases hij : i = j
    · subst hij
      have : o = oj := Option.some.inj (hi.symm.trans hj)
      subst this
      have hopd : ∀ x ∈ o.op.operands, Ev.opd τ.e x = Ev.opd s.e x := fun x hx => by
        cases x with
        | tmp t => exact hlk t (List.mem_append_left _ (List.mem_filterMap.2 ⟨.tmp t, by simpa using hx, rfl⟩))
        | _ => rfl
      refine ⟨v, eff, hy.move (fun t ht => (hlk t ht).symm) (fun l hl x hx => ?_) (fun hne x hx => ?_) (fun b hb => ?_), hd, fun b hb => hy.new hb, by simpa using hr⟩
      · intro b hb k hk
        obtain ⟨y, hyo, rfl⟩ := hy.touch hl hx
        rw [hopd y hyo] at hb
        obtain ⟨k0, hk0⟩ := hc.opd hb
        have : k = k0 := by
          have := hag l hl _ hx b (by rw [hopd y hyo]; exact hb) k0 hk0
          rw [hk] at this; exact Option.some.inj this
        subst this
        exact hk0
      · rw [hopd x hx]
        intro b hb k hk
        obtain ⟨k0, hk0⟩ := hc.opd hb
        have : k = k0 := by have := hag2 hne b k0 hk0; rw [hk] at this; exact Option.some.inj this
        subst this
        refine ⟨hk0, fun y hy b' hb' k' hk' => ?_⟩
        subst hy
        obtain ⟨k1, hk1⟩ := hc.box b y hk0 b' hb'
        have : k' = k1 := by have := hag2 hne b' k1 hk1; rw [hk'] at this; exact Option.some.inj this
        subst this
        exact hk1
      · cases hs : s.h b with
        | none => rfl
        | some k => exact (hdom b (by rw [hs]; simp) (hy.new hb)).elim
    · have hjr : j ∈ rem := by simpa [Ne.symm hij] using hm
      have hne : (i != j) = true := by simpa using hij
      obtain ⟨hapi, hae⟩ := hap i (by simp) o hi hij (by rw [List.takeWhile_cons, hne]; simp)
      obtain ⟨h1, h2, h3⟩ := Oper.apart_spec hapi
      unfold apartE at hae
      simp only [Bool.and_eq_true] at hae
      have hnd := List.nodup_cons.1 hn
      have htm := hy.tame
      obtain ⟨u, g, hyj, hdj, hfr, hr'⟩ := pullW hj hc rem (τ.put o.dst v eff) hr hjr hnd.2 (fun i' hi' oi' ho' hne' hcon => hap i' (by simp [hi']) oi' ho' hne' (by
          rw [List.takeWhile_cons, hne]; simp only [if_true, List.contains_cons, hcon, Bool.or_true])) (fun b hb => hpW_dom eff htm τ.h (hdom b hb)) (fun l hl x hx b hb k hk => by
          refine hpW_keep eff htm τ.h (hag l hl x hx b hb k hk) fun hw => ?_
          have h4 := hae.1
          rw [← hy.wb, hw, hl] at h4
          exact off_not h4 hx hb) (fun hl b k hk => by
          refine hpW_keep eff htm τ.h (hag2 hl b k hk) fun hw => ?_
          have h4 := hae.1
          rw [← hy.wb, hw, hl] at h4
          cases h4) (fun t ht => by
          simp only [FS.put]
          rw [if_neg (fun he => h1 t he ht)]
          exact hlk t ht)
      have hgm := hyj.tame
      have hfr' : ∀ b, g.has b = true → τ.h b = none ∧ eff.has b = false := fun b hb => hpW_none eff htm τ.h (hfr b hb)
      refine ⟨u, g, hyj, hdj, fun b hb => (hfr' b hb).1, ?_⟩
      rw [List.erase_cons_tail (by simpa using hij)]
      refine ⟨o, v, eff, hi, hy.move (fun t ht => ?_) (fun l hl x hx b hb k hk => ?_) (fun hl x hx b hb k hk => ?_) (fun b hb => ?_), hd, ?_⟩
      · simp only [FS.put]
        rw [if_neg (fun he => h3 t he ht)]
      · refine hpW_keep g hgm τ.h hk fun hw => ?_
        have h4 := hae.2
        rw [← hyj.wb, hw, hl] at h4
        exact off_not h4 hx hb
      · have hgw : g.wb = none := by
          cases hw : g.wb with
          | none => rfl
          | some b' =>
            have h4 := hae.2
            rw [← hyj.wb, hw, hl] at h4
            cases h4
        exact ⟨hpW_keep g hgm τ.h hk (by rw [hgw]; simp), fun y _ b' _ k' hk' => hpW_keep g hgm τ.h hk' (by rw [hgw]; simp)⟩
      · refine hpW_some g hgm τ.h (hy.new hb) ?_ fun hw => ?_
        · cases hg : g.has b with
          | false => rfl
          | true => have := (hfr' b hg).2; rw [hb] at this; cases this
        · obtain ⟨_, _, _, k0, hk0⟩ := hyj.write (b := b) (by rw [← hyj.wb, hw])
          exact hdom b (by rw [hk0]; simp) (hy.new hb)
      · rw [← FS.put_commW τ htm hgm h2 (fun b hb => by
          cases hg : g.has b with
          | false => rfl
          | true => have := (hfr' b hg).2; rw [hb] at this; cases this) (fun b hb hgb => by
          obtain ⟨l, hl, ⟨x, hx, hrx⟩, _⟩ := hy.write (b := b) (by rw [← hy.wb, hb])
          have h4 := hae.2
          rw [← hyj.wb, hgb, hl] at h4
          exact off_not h4 hx hrx)]
        exact hr'
end
section
variable {P : Program} {X : Ctx} {J : World → Prop} {ok : Nat → Prop} {w0 : World} {F : Fr} {n : Nat} {ops : Array Oper} {m : Nat}
theorem SimF.stepW {a : Act} {w : World} {ρ : Nat → Option Value} {s : FS} {w' : World} {dst : Option Nat} {v : V} {eff : Eff} {val : Value} {ρ' : Nat → Option Value} (h : SimF J ok w0 F n s a w ρ) (hd : dstOk n dst) (hm : eff.tame = true) (ht : ∀ b, 1000000 ≤ b → eff.tc b = false)
    (hs : Step ok F.B w ρ w' ρ' (eff.hp s.h) eff.tr eff.tc) (hv : Rel w' (okAt ok F.B ρ' w') ρ' v val) : SimF J ok w0 F n (s.put dst v eff) (a.put dst val) w' ρ' := by
  refine ⟨h.j, h.below.trans hs.below, hs.inv, fun t => ?_, by rw [put_size]; exact h.size, by rw [Ev.put_defers]; exact h.defers, h.fr.step hs ht, h.small⟩
  rw [put_getD a dst val t (by rw [h.size]; exact hd)]
  simp only [FS.put]
  split
  · exact hv
  · have := hs.rel _ _ (h.rel t)
    rw [tame_tr hm] at this
    exact this
theorem ydW_wp (hT : TOkX P X) (hΛ : ∀ g L T sz es as es', X.Λ g = some L → L.2 T sz es as = some es' → LentAt P J L.1 g T sz es as es') (hΦ : ∀ g args r bs, X.Φ g args = some (r, bs) → SoundAt P J g args r bs) (hJJ : Stable J) {s : FS} {a : Act} {w : World} {ρ : Nat → Option Value} (hs : SimF J ok w0 F n s a w ρ) {j : Nat} {o : Oper} (hj : ops[j]? = some o) {v : V} {eff : Eff} {en : Ent}
    (hy : YdW X ops.toList o s v eff en) (hd : dstOk n o.dst) {KW : Act → World → Prop} {Q : Exit → Act → World → Prop} (hK : ∀ a' w' ρ', SimF J ok w0 F n (s.put o.dst v eff) a' w' ρ' → KW a' w') : wpOp P ops Q j KW a w := by
  have hm := hy.tame
  unfold wpOp
  simp only [hj]
  obtain ⟨dst, op, ty, pos, after, guard⟩ := o
  have run : evalOp X s.e s.h (dst.getD 0) op = some (v, eff) → Oper.wp P ⟨dst, op, ty, pos, after, guard⟩ a w KW Q := fun h => op_wpF hT hΛ hΦ hJJ hs (o := ⟨dst, op, ty, pos, after, guard⟩) h fun w' ρ' val hst hr => hK _ _ _ (hs.stepW hd hm (fun b hb => evalOp_tc h (dst_small' hd hs.small) hb) hst hr)
  unfold YdW at hy
  cases guard with
  | none => exact .inl (run hy.1)
  | some g =>
    obtain ⟨k, want⟩ := g
    obtain ⟨t, b, ht, hb, h⟩ := hy
    rw [wanted_of ht hb (hs.rel t)]
    split at h
    · rename_i hc
      rw [if_pos hc]
      exact .inl (run h.1)
    · rename_i hc
      rw [if_neg hc]
      obtain ⟨rfl, rfl, _⟩ := h
      exact hK _ _ _ (hs.stepW hd rfl (fun _ _ => rfl) (Step.refl hs.inv) (.ro (.raw _)))
theorem ready_not_waits2 {listed : Array Bool} (inv : HeadInv .any ops m listed) {i j : Nat} (hj : j ∈ Region.ready .any ops listed) (hi : listed.getD i true = false) : waits2 ops j i = false := by
  unfold waits2
  rw [ready_not_waits hj hi, Bool.false_or, List.any_eq_false]
  intro k _ hc
  simp only [Bool.and_eq_true] at hc
  obtain ⟨oj, hoj, e, he, hb, hon⟩ := Region.waitsFor_spec hc.1
  obtain ⟨ok, hok, e2, he2, hb2, hon2⟩ := Region.waitsFor_spec hc.2
  obtain ⟨_, o, ho, hall⟩ := mem_ready.1 hj
  have : o = oj := Option.some.inj (ho.symm.trans hoj)
  subst this
  have h2 := hall e he hb
  rw [hon] at h2
  have h3 := inv.closed k ok hok h2 e2 he2 hb2
  rw [hon2, getD_both hi] at h3
  cases h3
theorem head_soundW (hT : TOkX P X) (hΛ : ∀ g L T sz es as es', X.Λ g = some L → L.2 T sz es as = some es' → LentAt P J L.1 g T sz es as es') (hΦ : ∀ g args r bs, X.Φ g args = some (r, bs) → SoundAt P J g args r bs) (hJJ : Stable J) (hB : drB ops m = true) (hm : m ≤ ops.size) {E : Nat → Ent} (hE : ∀ i j, i < j → j < m → waits2 ops j i = false → apartE (E i) (E j) = true) {Q : Exit → Act → World → Prop} (g : Nat) {s' : FS}
    (hend : ∀ listed a w ρ, SimF J ok w0 F n s' a w ρ → HeadInv .any ops m listed → (∀ i, i < m → listed.getD i true = true) → wpAny P .any ops Q g listed a w) :
    ∀ (f : Nat) (rem : List Nat), rem.length = f → ∀ (listed : Array Bool) (s : FS) (a : Act) (w : World) (ρ : Nat → Option Value), SimF J ok w0 F n s a w ρ → RnW X n ops E rem s s' → rem.Pairwise (· < ·) → (∀ i, i ∈ rem ↔ i < m ∧ listed.getD i true = false) → HeadInv .any ops m listed →
      wpAny P .any ops Q (f + g) listed a w
  | 0, rem, hl, listed, s, a, w, ρ, hs, hr, hp, hin, inv => by
    have : rem = [] := List.eq_nil_of_length_eq_zero hl
    subst this
    have hr : s = s' := hr
    subst hr
    rw [Nat.zero_add]
    refine hend listed a w ρ hs inv fun i hi => ?_
    cases hc : listed.getD i true with
    | true => rfl
    | false => exact absurd ((hin i).2 ⟨hi, hc⟩) (by simp)
  | f + 1, rem, hl, listed, s, a, w, ρ, hs, hr, hp, hin, inv => by
    have hnd : rem.Nodup := hp.imp fun h => by omega
    -- the first of those that are left is ready
    have hfirst : ∃ i, i ∈ rem ∧ i ∈ Region.ready .any ops listed := by
      match rem, hl with
      | i :: rem', _ =>
        refine ⟨i, by simp, ?_⟩
        obtain ⟨him, hun⟩ := (hin i).1 (by simp)
        refine mem_ready.2 ⟨hun, ops[i], Array.getElem?_eq_getElem (by omega), fun e he hb => ?_⟩
        have hlt := drB_edges hB (Array.getElem?_eq_getElem (show i < ops.size by omega)) e he hb
        cases hc : listed.getD e.on false with
        | true => rfl
        | false =>
          exfalso
          have hon := (hin e.on).2 ⟨by omega, getD_in (by rw [inv.size]; omega) hc⟩
          rcases List.mem_cons.1 hon with h | h
          · omega
          · have := (List.pairwise_cons.1 hp).1 _ h; omega
    obtain ⟨i0, hi0, hr0⟩ := hfirst
    rw [show f + 1 + g = (f + g) + 1 by omega]
    refine ⟨fun h0 => (by rw [h0] at hr0; cases hr0), fun j hj => ?_⟩
    obtain ⟨hi0m, hun0⟩ := (hin i0).1 hi0
    have hjm := tail_not hB inv hi0m hun0 hj
    obtain ⟨hjun, oj, hoj, _⟩ := mem_ready.1 hj
    have hjrem := (hin j).2 ⟨hjm, hjun⟩
    obtain ⟨v, eff, hy, hd, _, hr'⟩ := pullW hoj hs.closed rem s hr hjrem hnd (fun i hi oi hoi hne hcon => by
        obtain ⟨him, hun⟩ := (hin i).1 hi
        have hsub : ∀ (l : List Nat), l.Pairwise (· < ·) → j ∈ l → (l.takeWhile (· != j)).contains i = true → i < j := by
          intro l
          induction l with
          | nil => intro _ h; cases h
          | cons x l ih =>
            intro hp hjl hc
            rw [List.takeWhile_cons] at hc
            by_cases hx : x = j
            · subst hx; simp at hc
            · have hx' : (x != j) = true := by simpa using hx
              rw [hx'] at hc
              simp only [if_true, List.contains_cons, Bool.or_eq_true, beq_iff_eq] at hc
              have hjl' : j ∈ l := by simpa [Ne.symm hx] using hjl
              rcases hc with hc | hc
              · subst hc; exact (List.pairwise_cons.1 hp).1 j hjl'
              · exact ih (List.pairwise_cons.1 hp).2 hjl' hc
        have hij := hsub rem hp hjrem hcon
        have hnw := ready_not_waits hj hun
        exact ⟨drB_pair hB hoi hoj him hjm hij hnw, hE i j hij hjm (ready_not_waits2 inv hj hun)⟩) (fun _ h => h) (fun _ _ _ _ _ _ _ h => h) (fun _ _ _ h => h) (fun _ _ => rfl)
    refine ydW_wp hT hΛ hΦ hJJ hs hoj hy hd fun a' w' ρ' hs2 => ?_
    refine head_soundW hT hΛ hΦ hJJ hB hm hE g hend f (rem.erase j) (by rw [List.length_erase_of_mem hjrem]; omega) _ _ a' w' ρ' hs2 hr' (hp.sublist List.erase_sublist) (fun i => ?_) (inv.set hj hjm)
    rw [hnd.mem_erase_iff, hin]
    by_cases hij : j = i
    · subst hij
      have : j < listed.size := by rw [inv.size]; omega
      simp [this]
    · rw [getD_set_ne true hij]
      constructor
      · exact fun h => h.2
      · exact fun h => ⟨fun he => hij he.symm, h⟩
theorem dr_soundW (hmix : P.follows .mixedOrders = true) (hT : TOkX P X) (hΛ : ∀ g L T sz es as es', X.Λ g = some L → L.2 T sz es as = some es' → LentAt P J L.1 g T sz es as es') (hΦ : ∀ g args r bs, X.Φ g args = some (r, bs) → SoundAt P J g args r bs) (hJJ : Stable J) {u : List Nat} {uns : List (List Nat)} (hBW : drBW ops (u :: uns) = true) {id : Nat} {σ : St} {a : Act} {w : World} {Q : Exit → Act → World → Prop} {K : St → Prop} {m0 : Nat}
    (h : evDr X n ops.toList (m0, u :: uns) σ K) (hs : Sims J ok w0 F n σ a w) (hQ : ∀ σ a w, K σ → Sims J ok w0 F n σ a w → Q .normal a w) : (Code.region id ops true).wp P Q a w := by
  simp only [evDr] at h
  generalize u :: uns = un at h hBW
  unfold drBW at hBW
  simp only [Bool.and_eq_true] at hBW
  obtain ⟨hB, hun⟩ := hBW
  generalize hmm : un.length = m at h hB hun
  have hm : m ≤ ops.size := by rcases drB_tail hB with rfl | ⟨h, _⟩ <;> omega
  have htl : ∀ j (hj : j < m), (ops.toList.take m)[j]? = some (ops[j]'(by omega)) := fun j hj => by
    rw [List.getElem?_take_of_lt hj, Array.getElem?_toList]
    exact Array.getElem?_eq_getElem (by omega)
  have hzl : ((ops.toList.take m).zip un).length = m := by rw [List.length_zip, List.length_take, Array.length_toList, hmm]; omega
  obtain ⟨σ1, E, hK, _, hr, hap⟩ := evHeadW_run ((ops.toList.take m).zip un) 0 [] (fun _ => ⟨none, none⟩) σ (fun j hj => by
    rw [hzl] at hj
    have hz : ((ops.toList.take m).zip un)[j]? = some (ops[j]'(by omega), un[j]'(by omega)) := List.getElem?_zip_eq_some.2 ⟨htl j hj, List.getElem?_eq_getElem (by omega)⟩
    rw [hz, Nat.zero_add, Option.map_some]
    exact (Array.getElem?_eq_getElem (by omega)).symm) (fun i x hx => by cases hx) h
  rw [hzl] at hr
  have hE : ∀ i j, i < j → j < m → waits2 ops j i = false → apartE (E i) (E j) = true := fun i j hij hj hw => by
    have h1 := List.all_eq_true.1 (List.all_eq_true.1 hun j (List.mem_range.2 hj)) i (List.mem_range.2 hij)
    rw [hw, Bool.or_false] at h1
    have hj' : un[j]? = some (un[j]'(by omega)) := List.getElem?_eq_getElem (by omega)
    rw [hj'] at h1
    have := hap j (ops[j]'(by omega), un[j]'(by omega)) (List.getElem?_zip_eq_some.2 ⟨htl j hj, hj'⟩) i (by simpa using h1)
    rwa [Nat.zero_add] at this
  obtain ⟨ρ, hs⟩ := hs
  refine wp_region_any hmix ?_
  have hdr : SimF J ok w0 F n σ.fs a { w with drawn := w.drawn + 1 } ρ := by
    have hb : Below w.heap.size w { w with drawn := w.drawn + 1 } := ⟨rfl, rfl, rfl, Nat.le_refl _, fun _ _ => rfl⟩
    have hmono : ∀ g, okAt ok F.B ρ w g → okAt ok F.B ρ { w with drawn := w.drawn + 1 } g ∧ (World.heap { w with drawn := w.drawn + 1 })[g]? = w.heap[g]? := fun g hg => ⟨hg, rfl⟩
    refine ⟨hs.j, hs.below.trans (hb.mono hs.inv.size), ⟨hs.inv.size, fun b k hk => ?_, hs.inv.dom, hs.inv.inj⟩, fun t => (hs.rel t).mono hmono fun _ _ h => h, hs.size, hs.defers, ⟨hs.fr.keep, hs.fr.fresh, hs.fr.hdr, hs.fr.grow⟩, hs.small⟩
    obtain ⟨sv, hr, hb⟩ := hs.inv.blk b k hk
    exact ⟨sv, hr, hb.mono' hmono (Nat.le_refl _) (fun _ _ => rfl) fun _ _ h => h⟩
  have hlen : (List.range' 0 m).length = m := by simp
  have := head_soundW (Q := Q) hT hΛ hΦ hJJ hB hm hE (ops.size - m) (s' := σ1.fs) (fun listed a w ρ hs1 inv hall => by
    have hl : (ops.toList.drop m).length = ops.size - m := by simp
    rw [← hl]
    refine tail_sound hT hΛ hΦ hJJ hB hQ (ops.toList.drop m) m listed σ1 a w (Nat.le_refl _) (by rw [hl]; omega) inv.size (fun j => by simp) (fun i hi => ?_) hK ⟨ρ, hs1.to rfl⟩
    rcases Nat.lt_or_ge i m with hlt | hge
    · rw [hall i hlt]; simp; omega
    · rw [inv.tail i hge hi]; simp; omega) m _ hlen (Array.replicate ops.size false) σ.fs a _ ρ hdr hr (by
      exact List.pairwise_lt_range') (fun i => by
      simp only [List.mem_range'_1, Nat.zero_le, Nat.zero_add, true_and]
      constructor
      · intro hi; refine ⟨by omega, ?_⟩; rw [Array.getD_eq_getD_getElem?, Array.getElem?_replicate, if_pos (by omega)]; rfl
      · intro hi; omega) ⟨by simp, (fun j oj hj hl => by rw [getD_replicate_false] at hl; exact absurd hl (by simp)), fun t ht ht' => by rw [Array.getD_eq_getD_getElem?, Array.getElem?_replicate, if_pos ht']; rfl⟩
  rwa [show m + (ops.size - m) = ops.size by omega] at this
end
section
variable {P : Program} {X : Ctx} {J : World → Prop} {ok : Nat → Prop} {w0 : World} {F : Fr} {n : Nat}
def Ex.to : Ex → Exit
  | .normal => .normal
  | .exit id => .exit id
  | .ret => .ret
theorem exists_least {p : Nat → Prop} : ∀ m, p m → ∃ k, p k ∧ ∀ j, p j → k ≤ j := by
  intro m
  induction m using Nat.strongRecOn with
  | _ m ih =>
    intro hm
    by_cases h : ∃ j, j < m ∧ p j
    · obtain ⟨j, hj, hpj⟩ := h
      exact ih j hj hpj
    · exact ⟨m, hm, fun j hpj => by
        rcases Nat.lt_or_ge j m with hlt | hge
        · exact (h ⟨j, hlt, hpj⟩).elim
        · exact hge⟩
open Classical in
noncomputable def least (p : Nat → Prop) : Nat := if h : ∃ k, p k ∧ ∀ j, p j → k ≤ j then Classical.choose h else 0
theorem least_spec {p : Nat → Prop} (h : ∃ n, p n) : p (least p) := by
  obtain ⟨m, hm⟩ := h
  have h' := exists_least m hm
  unfold least
  rw [dif_pos h']
  exact (Classical.choose_spec h').1
theorem least_le {p : Nat → Prop} {m : Nat} (h : p m) : least p ≤ m := by
  have h' := exists_least m h
  unfold least
  rw [dif_pos h']
  exact (Classical.choose_spec h').2 m h
theorem ev_sound (hmix : P.follows .mixedOrders = true) (hT : TOkX P X) (hΛ : ∀ g L T sz es as es', X.Λ g = some L → L.2 T sz es as = some es' → LentAt P J L.1 g T sz es as es') (hΦ : ∀ g args r bs, X.Φ g args = some (r, bs) → SoundAt P J g args r bs) (hJJ : Stable J) : ∀ (c : Code) (Q : Ex → St → Prop) (σ : St) (a : Act) (w : World) (QW : Exit → Act → World → Prop),
    drAll X.dr c = true → ev X n c σ Q → Sims J ok w0 F n σ a w → (∀ e σ a w, Q e σ → Sims J ok w0 F n σ a w → QW e.to a w) → c.wp P QW a w := by
  intro c
  induction c with
  | skip => intro Q σ a w QW hdr h hs hQ; exact wp_skip (hQ .normal σ a w h hs)
  | region id ops draw =>
    intro Q σ a w QW hdr h hs hQ
    cases draw with
    | false =>
      simp only [ev] at h
      refine wp_region ?_
      have := evOps_sound hT hΛ hΦ hJJ ops (Q := QW) (K := fun σ' => Q .normal (σ'.drop (X.dead id))) (fun σ a w hk hs => by
        obtain ⟨ρ, hs⟩ := hs
        exact hQ .normal _ a w hk ⟨ρ, hs.drop _⟩) ops.toList 0 σ a w (fun j => by simp) h hs
      rw [Array.length_toList, ← List.range_eq_range'] at this
      exact this
    | true =>
      simp only [ev] at h
      simp only [drAll] at hdr
      unfold onSome at h
      split at h
      · rename_i m hm
        rw [hm] at hdr
        have hfin : ∀ σ a w, Q .normal (σ.drop (X.dead id)) → Sims J ok w0 F n σ a w → QW .normal a w := fun σ a w hk hs => by
          obtain ⟨ρ, hs⟩ := hs
          exact hQ .normal _ a w hk ⟨ρ, hs.drop _⟩
        obtain ⟨m, un⟩ := m
        cases un with
        | nil => exact dr_sound hmix hT hΛ hΦ hJJ hdr h hs hfin
        | cons u un => exact dr_soundW hmix hT hΛ hΦ hJJ hdr h hs hfin
      · exact h.elim
  | seq x y ihx ihy =>
    intro Q σ a w QW hdr h hs hQ
    simp only [ev] at h
    simp only [drAll, Bool.and_eq_true] at hdr
    refine wp_seq (ihx _ σ a w _ hdr.1 h hs fun e σ' a' w' hq hs' => ?_)
    cases e with
    | normal => exact ihy _ σ' a' w' QW hdr.2 hq hs' hQ
    | exit id => exact hQ (.exit id) σ' a' w' hq hs'
    | ret => exact hQ .ret σ' a' w' hq hs'
  | cond c x y ihx ihy =>
    intro Q σ a w QW hdr h hs hQ
    simp only [drAll, Bool.and_eq_true] at hdr
    simp only [ev] at h
    unfold onBool at h
    split at h
    · rename_i b hb
      have hs' := hs
      obtain ⟨ρ, hs'⟩ := hs'
      have hrel := hs'.opd c
      rw [hb] at hrel
      refine wp_cond hrel.bool_inv ?_
      unfold onIf at h
      cases b with
      | true => exact ihx Q σ a w QW hdr.1 (by simpa using h) hs hQ
      | false => exact ihy Q σ a w QW hdr.2 (by simpa using h) hs hQ
    · exact h.elim
  | block id x ih =>
    intro Q σ a w QW hdr h hs hQ
    simp only [ev] at h
    simp only [drAll] at hdr
    refine wp_block (ih _ σ a w _ hdr h hs fun e σ' a' w' hq hs' => ?_)
    cases e with
    | normal => exact hQ .normal σ' a' w' hq hs'
    | ret => exact hQ .ret σ' a' w' hq hs'
    | exit i =>
      simp only [Ex.to, Exit.inBlock] at hq ⊢
      split
      · rename_i hi; rw [if_pos hi] at hq; exact hQ .normal σ' a' w' hq hs'
      · rename_i hi; rw [if_neg hi] at hq; exact hQ (.exit i) σ' a' w' hq hs'
  | loop x ih =>
    intro Q σ a w QW hdr h hs hQ
    simp only [drAll] at hdr
    simp only [ev] at h
    obtain ⟨ts, bs, I, μ, ⟨hcl, hI⟩, hround⟩ := h
    obtain ⟨ρ, hs⟩ := hs
    let p : Act → World → Nat → Prop := fun a w m => ∃ σ, I σ ∧ Sims J ok w0 F n σ a w ∧ μ σ = m
    refine wp_loop (fun a w => ∃ m, p a w m) (fun a w => least (p a w)) ⟨_, _, hI, ⟨_, hs.keep hcl⟩, rfl⟩ fun a1 w1 hex => ?_
    obtain ⟨σ1, hI1, hs1, hm⟩ := least_spec hex
    refine ih _ σ1 a1 w1 _ hdr (hround σ1 hI1) hs1 fun e σ' a' w' hq hs' => ?_
    cases e with
    | normal =>
      obtain ⟨hc', hI', hlt⟩ := hq
      obtain ⟨ρ', hs'⟩ := hs'
      have hp : p a' w' (μ (σ'.keep ts bs)) := ⟨_, hI', ⟨_, hs'.keep hc'⟩, rfl⟩
      refine ⟨⟨_, hp⟩, ?_⟩
      have h1 := least_le hp
      show least (p a' w') < least (p a1 w1)
      omega
    | exit id => exact hQ (.exit id) σ' a' w' hq hs'
    | ret => exact hQ .ret σ' a' w' hq hs'
  | exit id => intro Q σ a w QW hdr h hs hQ; exact wp_exit (hQ (.exit id) σ a w h hs)
  | ret => intro Q σ a w QW hdr h hs hQ; exact wp_ret (hQ .ret σ a w h hs)
  | _ => intro Q σ a w QW hdr h hs hQ; exact h.elim
end
/-! ### A function -/
def packC (ns : List Nat) : V → Option (V × List Nat)
  | .vec b => if ns.contains b = true then none else some (.vec ns.length, ns ++ [b])
  | v => if V.data v = true then some (v, ns) else none
def packL (f : List Nat → V → Option (V × List Nat)) (ns : List Nat) : List V → Option (List V × List Nat)
  | [] => some ([], ns)
  | v :: vs => match f ns v with
    | some (v', ns1) => match packL f ns1 vs with
      | some (vs', ns2) => some (v' :: vs', ns2)
      | none => none
    | none => none
def packV (ns : List Nat) : V → Option (V × List Nat)
  | .agg cs => match packL packC ns cs with
    | some (cs', ns') => some (.agg cs', ns')
    | none => none
  | v => packC ns v
def getBlks (hp : Hp) : List Nat → Option (List Blk)
  | [] => some []
  | b :: bs => match hp b, getBlks hp bs with
    | some (.vec T sz es), some ks => some (.vec T sz es :: ks)
    | some (.map kvs), some ks => some (.map kvs :: ks)
    | _, _ => none
def resV (X : Ctx) (σ : St) : List ResultVar → Option (List V)
  | [] => some []
  | .tmp t :: rs => match resV X σ rs with
    | some vs => some (σ.e t :: vs)
    | none => none
  | .cell t T :: rs => match evalOp X σ.e σ.h 0 (.load T (.tmp t)), resV X σ rs with
    | some (v, _), some vs => some (v :: vs)
    | _, _ => none
def wrapR : List V → V
  | [v] => v
  | vs => .tup vs
def retV (X : Ctx) (σ : St) (rs : List ResultVar) : Option (V × List Blk) :=
  match resV X σ rs with
  | some vs => match packL packV [] vs with
    | some (vs', ns) => match getBlks σ.h ns with
      | some bs => some (wrapR vs', bs)
      | none => none
    | none => none
  | none => none
def St.init (args : List V) : St := ⟨args.zipIdx.map fun p => (p.2, p.1), []⟩
def post (X : Ctx) (rs : List ResultVar) (r : V) (bs : List Blk) : Ex → St → Prop
  | .exit _, _ => False
  | _, σ => retV X σ rs = some (r, bs)
section
variable {P : Program} {X : Ctx} {J : World → Prop} {ok : Nat → Prop} {w0 w : World} {F : Fr} {n : Nat} {ρ : Nat → Option Value}
def packρ (ρ : Nat → Option Value) (ns : List Nat) : Nat → Option Value := fun j => (ns[j]?).bind ρ
theorem packC_spec {ok ok' : Nat → Prop} {ns ns' : List Nat} {v v' : V} {val : Value} (h : packC ns v = some (v', ns')) (hn : ns.Nodup) (hv : Rel w ok ρ v val) (hk : ∀ g, ok g → ok' g) :
    ns'.Nodup ∧ (∃ m, ns' = ns ++ m) ∧ ∀ m, Rel w ok' (packρ ρ (ns' ++ m)) v' val := by
  unfold packC at h
  split at h
  · rename_i b
    split at h
    · cases h
    · rename_i hb
      simp at h
      obtain ⟨rfl, rfl⟩ := h
      simp at hb
      refine ⟨?_, ⟨[b], rfl⟩, fun m => ?_⟩
      · rw [List.nodup_append]
        refine ⟨hn, by simp, ?_⟩
        intro x hx y hy e
        simp at hy
        subst e; subst hy
        exact hb hx
      · have hr := hv.vec_inv
        have h1 : val.oneCell' = true := by
          cases hv with
          | ro h => cases h
          | vec _ _ _ h1 => exact h1
        exact .vec _ _ (by simp [packρ, hr]) h1
  · split at h
    · rename_i hd
      simp at h
      obtain ⟨rfl, rfl⟩ := h
      exact ⟨hn, ⟨[], by simp⟩, fun m => .ro ((hv.toD hd).mono fun g hg => ⟨hk g hg, rfl⟩)⟩
    · cases h
theorem packL_spec {ok ok' : Nat → Prop} {f : List Nat → V → Option (V × List Nat)} (hf : ∀ {ns ns' : List Nat} {v v' : V} {val : Value}, f ns v = some (v', ns') → ns.Nodup → Rel w ok ρ v val → ns'.Nodup ∧ (∃ m, ns' = ns ++ m) ∧ ∀ m, Rel w ok' (packρ ρ (ns' ++ m)) v' val) :
    ∀ (vs : List V) (us : List Value) (ns ns' : List Nat) (vs' : List V), packL f ns vs = some (vs', ns') → ns.Nodup → vs.length = us.length → (∀ (j : Nat) c u, vs[j]? = some c → us[j]? = some u → Rel w ok ρ c u) →
      ns'.Nodup ∧ (∃ m, ns' = ns ++ m) ∧ vs'.length = us.length ∧ ∀ m (j : Nat) c u, vs'[j]? = some c → us[j]? = some u → Rel w ok' (packρ ρ (ns' ++ m)) c u
  | [], us, ns, ns', vs', h, hn, hl, hr => by
    simp [packL] at h
    obtain ⟨rfl, rfl⟩ := h
    exact ⟨hn, ⟨[], by simp⟩, hl, fun m j c u hc => by simp at hc⟩
  | v :: vs, [], ns, ns', vs', h, hn, hl, hr => by simp at hl
  | v :: vs, u :: us, ns, ns', vs', h, hn, hl, hr => by
    unfold packL at h
    split at h
    · rename_i v1 ns1 h1
      split at h
      · rename_i vs2 ns2 h2
        simp at h
        obtain ⟨rfl, rfl⟩ := h
        obtain ⟨n1, ⟨m1, e1⟩, r1⟩ := hf h1 hn (hr 0 v u rfl rfl)
        obtain ⟨n2, ⟨m2, e2⟩, l2, r2⟩ := packL_spec hf vs us ns1 ns2 vs2 h2 n1 (by simpa using hl) (fun j c x hc hx => hr (j + 1) c x (by simpa using hc) (by simpa using hx))
        refine ⟨n2, ⟨m1 ++ m2, by rw [e2, e1, List.append_assoc]⟩, by simpa using l2, fun m j c x hc hx => ?_⟩
        cases j with
        | zero =>
          simp at hc hx
          subst hc; subst hx
          have := r1 (m2 ++ m)
          rwa [← List.append_assoc, ← e2] at this
        | succ j => exact r2 m j c x (by simpa using hc) (by simpa using hx)
      · cases h
    · cases h
theorem packV_spec {ok ok' : Nat → Prop} {ns ns' : List Nat} {v v' : V} {val : Value} (hk : ∀ g, ok g → ok' g) (h : packV ns v = some (v', ns')) (hn : ns.Nodup) (hv : Rel w ok ρ v val) :
    ns'.Nodup ∧ (∃ m, ns' = ns ++ m) ∧ ∀ m, Rel w ok' (packρ ρ (ns' ++ m)) v' val := by
  unfold packV at h
  split at h
  · rename_i cs
    split at h
    · rename_i cs' ns1 h1
      simp at h
      obtain ⟨rfl, rfl⟩ := h
      obtain ⟨vs, rfl, hl, ho, hr⟩ := hv.agg_inv
      obtain ⟨n1, m1, l1, r1⟩ := packL_spec (ok := ok) (ok' := ok') (f := packC) (fun h hn hv => packC_spec h hn hv hk) cs vs ns ns1 cs' h1 hn hl hr
      exact ⟨n1, m1, fun m => .agg _ _ l1 ho (r1 m)⟩
    · cases h
  · exact packC_spec h hn hv hk
theorem getBlks_spec {hp : Hp} : ∀ {ns : List Nat} {bs : List Blk}, getBlks hp ns = some bs → bs.length = ns.length ∧ ∀ (j : Nat) k, bs[j]? = some k → ∃ b, ns[j]? = some b ∧ hp b = some k ∧ noBox k = true
  | [], bs, h => by simp [getBlks] at h; subst h; simp
  | b :: ns, bs, h => by
    unfold getBlks at h
    split at h
    · rename_i T sz es ks h1 h2
      simp at h
      subst h
      obtain ⟨l, g⟩ := getBlks_spec h2
      refine ⟨by simp [l], fun j k hk => ?_⟩
      cases j with
      | zero => simp at hk; subst hk; exact ⟨b, rfl, h1, rfl⟩
      | succ j => simpa using g j k (by simpa using hk)
    · rename_i kvs ks h1 h2
      simp at h
      subst h
      obtain ⟨l, g⟩ := getBlks_spec h2
      refine ⟨by simp [l], fun j k hk => ?_⟩
      cases j with
      | zero => simp at hk; subst hk; exact ⟨b, rfl, h1, rfl⟩
      | succ j => simpa using g j k (by simpa using hk)
    · cases h
theorem Inv.pack {B : Nat} {hp : Hp} {ns : List Nat} {bs : List Blk} (h : Inv ok B w ρ hp) (hn : ns.Nodup) (hb : getBlks hp ns = some bs) :
    Inv ok B w (packρ ρ ns) (fun j => bs[j]?) ∧ ∀ g, okAt ok B ρ w g → okAt ok B (packρ ρ ns) w g := by
  obtain ⟨hl, hg⟩ := getBlks_spec hb
  have hρ : ∀ j sv, packρ ρ ns j = some sv → ∃ b, ns[j]? = some b ∧ ρ b = some sv := by
    intro j sv hr
    unfold packρ at hr
    cases hj : ns[j]? with
    | none => simp [hj] at hr
    | some b => simp [hj] at hr; exact ⟨b, rfl, hr⟩
  have hok : ∀ g, okAt ok B ρ w g → okAt ok B (packρ ρ ns) w g := by
    intro g hg
    rcases hg with hg | ⟨h1, h2, h3⟩
    · exact .inl hg
    · exact .inr ⟨h1, h2, fun j sv hr => by obtain ⟨b, _, hr'⟩ := hρ j sv hr; exact h3 b sv hr'⟩
  refine ⟨⟨h.size, ?_, ?_, ?_⟩, hok⟩
  · intro j k hk
    obtain ⟨b, hb1, hb2, hb3⟩ := hg j k hk
    obtain ⟨sv, hr, hblk⟩ := h.blk b k hb2
    refine ⟨sv, by simp [packρ, hb1, hr], ?_⟩
    cases k with
    | box v => simp [noBox] at hb3
    | map kvs => exact hblk
    | vec T sz es => exact ⟨hblk.1, hblk.2.mono (fun g hg => ⟨hok g hg, rfl⟩) fun _ _ => rfl⟩
  · intro j sv hr
    obtain ⟨b, hb1, _⟩ := hρ j sv hr
    have hlt : j < bs.length := by have := (List.getElem?_eq_some_iff.1 hb1).1; omega
    exact ⟨_, List.getElem?_eq_getElem hlt⟩
  · intro j j' sv sv' g h1 h2 o1 o2
    obtain ⟨b, hb1, hr1⟩ := hρ j sv h1
    obtain ⟨b', hb2, hr2⟩ := hρ j' sv' h2
    have := h.inj b b' sv sv' g hr1 hr2 o1 o2
    subst this
    have l1 := (List.getElem?_eq_some_iff.1 hb1)
    have l2 := (List.getElem?_eq_some_iff.1 hb2)
    obtain ⟨l1, e1⟩ := l1
    obtain ⟨l2, e2⟩ := l2
    rcases Nat.lt_trichotomy j j' with hlt | he | hgt
    · exact ((List.pairwise_iff_getElem.1 hn) j j' l1 l2 hlt (e1.trans e2.symm)).elim
    · exact he
    · exact ((List.pairwise_iff_getElem.1 hn) j' j l2 l1 hgt (e2.trans e1.symm)).elim
theorem res_run (hT : TOkX P X) {σ : St} {a : Act} (hs : Sim J ok w0 F n σ a w ρ) : ∀ (rs : List ResultVar) (vs : List V), resV X σ rs = some vs →
    ∃ us : List Value, (rs.mapM fun (r : ResultVar) => match r with | .tmp t => (pure (a.tmps.getD t Go.undef) : Sem Value) | .cell b t => do loadVar t (← asAddr (a.tmps.getD b Go.undef))).run P w = .ok us w ∧
      vs.length = us.length ∧ ∀ (j : Nat) c u, vs[j]? = some c → us[j]? = some u → Rel w (okAt ok F.B ρ w) ρ c u
  | [], vs, h => by simp [resV] at h; subst h; exact ⟨[], by simp, rfl, by simp⟩
  | .tmp t :: rs, vs, h => by
    unfold resV at h
    split at h
    · rename_i vs' h'
      simp at h
      subst h
      obtain ⟨us, hr, hl, hh⟩ := res_run hT hs rs vs' h'
      refine ⟨a.tmps.getD t Go.undef :: us, by simp only [List.mapM_cons, Sem.run_bind, Sem.run_pure, Result.andThen_ok, hr], by simp [hl], fun j c u hc hu => ?_⟩
      cases j with
      | zero => simp only [List.getElem?_cons_zero, Option.some.injEq] at hc hu; subst hc; subst hu; exact hs.rel t
      | succ j => exact hh j c u (by simpa using hc) (by simpa using hu)
    · cases h
  | .cell t T :: rs, vs, h => by
    unfold resV at h
    split at h
    · rename_i v e vs' h1 h'
      simp at h
      subst h
      obtain ⟨us, hr, hl, hh⟩ := res_run hT hs rs vs' h'
      obtain ⟨_, val, hrun, hrel⟩ := load_val (P := P) hT.1 hs.inv (hs.opd (.tmp t)) h1
      have hval : (do loadVar T (← asAddr (a.tmps.getD t Go.undef)) : Sem Value).run P w = .ok val w := by
        have : a.eval (.tmp t) = a.tmps.getD t Go.undef := rfl
        rw [this] at hrun
        generalize a.tmps.getD t Go.undef = x at hrun ⊢
        cases x <;> simp [Instr.loadAt, Instr.sureAddr, stuck, Sem.run] at hrun
        rename_i ad
        cases ad <;> simp [Sem.run] at hrun
        simpa [asAddr] using hrun
      refine ⟨val :: us, by simp only [List.mapM_cons, Sem.run_bind, Sem.run_pure] at hval ⊢; rw [hval]; simp only [Result.andThen_ok, hr], by simp [hl], fun j c u hc hu => ?_⟩
      cases j with
      | zero => simp only [List.getElem?_cons_zero, Option.some.injEq] at hc hu; subst hc; subst hu; exact hrel
      | succ j => exact hh j c u (by simpa using hc) (by simpa using hu)
    · cases h
/-- A FUNCTION FROM ITS TEXT: if the machine comes to (r, bs) at data, then the function comes to it at all values that read as the data -/
theorem sound_fn (hmix : P.follows .mixedOrders = true) (hT : TOkX P X) (hΛ : ∀ g L T sz es as es', X.Λ g = some L → L.2 T sz es as = some es' → LentAt P J L.1 g T sz es as es') (hΦ : ∀ g args r bs, X.Φ g args = some (r, bs) → SoundAt P J g args r bs) (hJJ : Stable J) {f : FuncId} {fn : Func} {c : Code} {args : List V} {r : V} {bs : List Blk}
    (hf : P.funcs[f]? = some fn) (hname : (fn.name == "runtime.NumGoroutine") = false) (hb : fn.body = some c) (hn : args.length ≤ fn.ntmps) (hsm : fn.ntmps ≤ 100000) (hdr : drAll X.dr c = true)
    (h : ev X fn.ntmps c (St.init args) (post X fn.results.toList r bs)) : SoundAt P J f args r bs := by
  refine ⟨⟨fn, hf, hname, by rw [hb]; rfl⟩, fun w ok vals hJ hok hlen hrel => ?_⟩
  refine calls_of_wp hf hb ?_
  have hsim : Sim J ok w ⟨w, fun _ => none, w.heap.size⟩ fn.ntmps (St.init args) { tmps := vals.toArray ++ Array.replicate (fn.ntmps - vals.toArray.size) Go.undef, defers := [] } w (fun _ => none) := by
    refine ⟨fun w' hb => hJJ w w' hJ hb, .refl _ _, ⟨Nat.le_refl _, fun b k hk => (by simp [St.h, St.init, look] at hk), fun b sv hr => (by cases hr), fun b b' sv sv' g h1 => (by cases h1)⟩, fun t => ?_, by simp; omega, rfl, ⟨fun _ _ _ => rfl, (fun b sv g h1 => by cases h1), (fun b hb sv h1 => by cases h1), Nat.le_refl _⟩, hsm⟩
    have key : ∀ (l : List V) (k t : Nat), look t ((l.zipIdx k).map fun p => (p.2, p.1)) = if k ≤ t then l[t - k]? else none := by
      intro l
      induction l with
      | nil => intro k t; simp [look]
      | cons x l ih =>
        intro k t
        rw [List.zipIdx_cons, List.map_cons]
        simp only [look]
        rw [ih]
        by_cases h1 : t = k
        · subst h1; simp
        · rw [if_neg h1]
          by_cases h2 : k ≤ t
          · rw [if_pos (by omega), if_pos h2, show t - k = (t - (k + 1)) + 1 by omega]; simp
          · rw [if_neg (by omega), if_neg h2]
    have he : (St.init args).e t = (args[t]?).getD .undef := by
      have := key args 0 t
      simp only [St.e, St.init]
      rw [this]
      simp
    rw [he]
    by_cases ht : t < args.length
    · have hv : t < vals.length := by omega
      rw [List.getElem?_eq_getElem ht]
      have hget : (vals.toArray ++ Array.replicate (fn.ntmps - vals.toArray.size) Go.undef).getD t Go.undef = vals[t] := by
        rw [Array.getD_eq_getD_getElem?, Array.getElem?_append_left (by simpa using hv)]
        simp [hv]
      rw [hget]
      exact .ro ((hrel t _ _ (List.getElem?_eq_getElem ht) (List.getElem?_eq_getElem hv)).mono fun g hg => ⟨.inl ⟨hok g hg, hg⟩, rfl⟩)
    · rw [List.getElem?_eq_none (by omega)]
      exact .ro (.undef _)
  refine ev_sound hmix hT hΛ hΦ hJJ c _ _ _ w _ hdr h ⟨_, hsim⟩ fun e σ a w' hq hs => ?_
  have fin : retV X σ fn.results.toList = some (r, bs) → a.defers = [] ∧ ∃ v, (results fn a.tmps).run P w' = .ok v w' ∧ ∃ val ρr, Ending.returned v = .returned val ∧ Below w.heap.size w w' ∧ Inv ok w.heap.size w' ρr (fun j => bs[j]?) ∧ Rel w' (okAt ok w.heap.size ρr w') ρr r val := by
    intro hret
    obtain ⟨ρ, hs⟩ := hs
    unfold retV at hret
    split at hret
    · rename_i vs hvs
      split at hret
      · rename_i vs' ns hpk
        split at hret
        · rename_i bs' hbs
          simp at hret
          obtain ⟨rfl, rfl⟩ := hret
          obtain ⟨us, hrun, hl, hr⟩ := res_run hT hs fn.results.toList vs hvs
          have hnd : ns.Nodup := by
            have := packL_spec (w := w') (ρ := ρ) (ok := okAt ok w.heap.size ρ w') (ok' := okAt ok w.heap.size ρ w') (f := packV) (fun h hn hv => packV_spec (fun g hg => hg) h hn hv) vs us [] ns vs' hpk (by simp) hl hr
            exact this.1
          obtain ⟨hinv, hokk⟩ := hs.inv.pack hnd hbs
          obtain ⟨_, _, hl', hr'⟩ := packL_spec (w := w') (ρ := ρ) (ok := okAt ok w.heap.size ρ w') (ok' := okAt ok w.heap.size (packρ ρ ns) w') (f := packV) (fun h hn hv => packV_spec hokk h hn hv) vs us [] ns vs' hpk (by simp) hl hr
          have hr' := hr' []
          rw [List.append_nil] at hr'
          refine ⟨hs.defers, if h : us.toArray.size = 1 then us.toArray[0] else .tuple us.toArray, ?_, _, _, rfl, hs.below, hinv, ?_⟩
          · have hm : (fn.results.mapM fun (r : ResultVar) => match r with | .tmp t => (pure (a.tmps.getD t Go.undef) : Sem Value) | .cell b t => do loadVar t (← asAddr (a.tmps.getD b Go.undef))).run P w' = .ok us.toArray w' := by
              rw [Array.mapM_eq_mapM_toList]
              simp only [Sem.run_map, hrun, Result.andThen_ok]
            unfold results
            rw [Sem.run_bind]
            refine (congrArg (fun x => Result.andThen x _) hm).trans ?_
            simp
          · split
            · rename_i h1
              match us, h1, hl', hr' with
              | [u], _, hl', hr' =>
                match vs', hl', hr' with
                | [v], _, hr' => exact hr' 0 v u rfl rfl
            · rename_i h1
              have : wrapR vs' = .tup vs' := by
                match vs', hl' with
                | [], _ => rfl
                | [v], hl' => simp at h1; simp at hl'; omega
                | _ :: _ :: _, _ => rfl
              rw [this]
              exact .tup _ _ hl' hr'
        · cases hret
      · cases hret
    · cases hret
  cases e with
  | normal => exact fin hq
  | ret => exact fin hq
  | exit id => exact hq.elim
end
/-! ### A function that is lent a row -/
def St.lent (T : TypeId) (sz : Nat) (es as : List V) : St := ⟨((V.vec 1000000) :: as).zipIdx.map fun p => (p.2, p.1), [(1000000, .vec T sz es)]⟩
def postL (T : TypeId) (sz : Nat) (es' : List V) : Ex → St → Prop
  | .exit _, _ => False
  | _, σ => look 1000000 σ.hp = some (.vec T sz es')
section
variable {P : Program} {X : Ctx} {J : World → Prop}
theorem OwnV.plain {w : World} {ok ok' : Nat → Prop} {B : Nat} {T : TypeId} {sz : Nat} {sv : Value} {es : List V} (h : OwnV w ok B T sz sv es) (hp : ∀ e ∈ es, V.plain e = true) : OwnV w ok' B T sz sv es := by
  obtain ⟨vs, hl, hs, h1, hr, ho⟩ := h
  exact ⟨vs, hl, hs, h1, fun i e v he hv => (hr i e v he hv).plain (hp e (List.mem_of_getElem? he)), ho⟩
theorem one_key {k : Nat} {sv : Value} : ∀ b s, Ev.one k sv b = some s → b = k ∧ s = sv := by
  intro b s hs
  unfold Ev.one at hs
  split at hs
  · rename_i e; simp at hs; exact ⟨e, hs.symm⟩
  · cases hs
theorem lent_sim {n : Nat} {T : TypeId} {sz : Nat} {es as : List V} {w : World} {B : Nat} {ok : Nat → Prop} {sv : Value} {vals : List Value} (hn : as.length + 1 ≤ n) (hsm : n ≤ 100000) (hJ : ∀ w', Below B w w' → J w') (hB : B ≤ w.heap.size) (hok : ∀ g, ok g → g < w.heap.size ∧ own sv ≠ some g)
    (hone : sv.oneCell' = true) (hpos : 0 < sz) (hown : OwnV w ok B T sz sv es) (hlen : as.length = vals.length) (hrel : ∀ (j : Nat) c u, as[j]? = some c → vals[j]? = some u → RelD w ok c u) :
    Sim J ok w ⟨w, Ev.one 1000000 sv, B⟩ n (St.lent T sz es as) { tmps := (sv :: vals).toArray ++ Array.replicate (n - (sv :: vals).toArray.size) Go.undef, defers := [] } w (Ev.one 1000000 sv) := by
  have hokk : ∀ g, ok g → okAt ok B (Ev.one 1000000 sv) w g ∧ w.heap[g]? = w.heap[g]? := by
    intro g hg
    refine ⟨?_, rfl⟩
    by_cases hlt : g < B
    · exact .inl ⟨hlt, hg⟩
    · refine .inr ⟨by omega, (hok g hg).1, fun b s hs => ?_⟩
      unfold Ev.one at hs
      split at hs
      · simp at hs; subst hs; exact (hok g hg).2
      · cases hs
  have hone1 := one_key (k := 1000000) (sv := sv)
  refine ⟨hJ, .refl _ _, ⟨hB, fun b k hk => ?_, fun b s hs => ?_, fun b b' s s' g h1 h2 _ _ => ?_⟩, fun t => ?_, by simp; omega, rfl, ⟨fun _ _ _ => rfl, fun b s g hs ho => .inr ⟨b, s, hs, ho⟩, fun b _ s hs => hs, Nat.le_refl _⟩, hsm⟩
  · simp only [St.h, St.lent, look] at hk
    split at hk
    · rename_i e
      simp at hk
      subst hk
      exact ⟨sv, by simp [Ev.one, e], hpos, hown.mono hokk fun _ _ => rfl⟩
    · cases hk
  · obtain ⟨rfl, rfl⟩ := hone1 b s hs
    exact ⟨.vec T sz es, by simp [St.h, St.lent, look]⟩
  · exact (hone1 b s h1).1.trans (hone1 b' s' h2).1.symm
  · have key : ∀ (l : List V) (k t : Nat), look t ((l.zipIdx k).map fun p => (p.2, p.1)) = if k ≤ t then l[t - k]? else none := by
      intro l
      induction l with
      | nil => intro k t; simp [look]
      | cons x l ih =>
        intro k t
        rw [List.zipIdx_cons, List.map_cons]
        simp only [look]
        rw [ih]
        by_cases h1 : t = k
        · subst h1; simp
        · rw [if_neg h1]
          by_cases h2 : k ≤ t
          · rw [if_pos (by omega), if_pos h2, show t - k = (t - (k + 1)) + 1 by omega]; simp
          · rw [if_neg (by omega), if_neg h2]
    have he : (St.lent T sz es as).e t = (((V.vec 1000000) :: as)[t]?).getD .undef := by
      have := key ((V.vec 1000000) :: as) 0 t
      simp only [St.e, St.lent]
      rw [this]
      simp
    rw [he]
    cases t with
    | zero =>
      have hget : ((sv :: vals).toArray ++ Array.replicate (n - (sv :: vals).toArray.size) Go.undef).getD 0 Go.undef = sv := by
        rw [Array.getD_eq_getD_getElem?, Array.getElem?_append_left (by simp)]
        simp
      rw [hget]
      exact .vec 1000000 sv (by simp [Ev.one]) hone
    | succ t =>
      by_cases ht : t < as.length
      · have hv : t < vals.length := by omega
        have hget : ((sv :: vals).toArray ++ Array.replicate (n - (sv :: vals).toArray.size) Go.undef).getD (t + 1) Go.undef = vals[t] := by
          rw [Array.getD_eq_getD_getElem?, Array.getElem?_append_left (by simpa using hv)]
          simp [hv]
        rw [hget, List.getElem?_cons_succ, List.getElem?_eq_getElem ht]
        exact .ro ((hrel t _ _ (List.getElem?_eq_getElem ht) (List.getElem?_eq_getElem hv)).mono hokk)
      · rw [List.getElem?_cons_succ, List.getElem?_eq_none (by omega)]
        exact .ro (.undef _)
theorem sound_lend (hmix : P.follows .mixedOrders = true) (hT : TOkX P X) (hΛ : ∀ g L T sz es as es', X.Λ g = some L → L.2 T sz es as = some es' → LentAt P J L.1 g T sz es as es') (hΦ : ∀ g args r bs, X.Φ g args = some (r, bs) → SoundAt P J g args r bs) (hJJ : Stable J)
    {f : FuncId} {fn : Func} {c : Code} {T : TypeId} {sz : Nat} {es as es' : List V} (hf : P.funcs[f]? = some fn) (hname : (fn.name == "runtime.NumGoroutine") = false) (hb : fn.body = some c) (hn : as.length + 1 ≤ fn.ntmps) (hsm : fn.ntmps ≤ 100000) (hdr : drAll X.dr c = true)
    (hres : fn.results = #[]) (hpl : ∀ e ∈ es', V.plain e = true) (h : ev X fn.ntmps c (St.lent T sz es as) (postL T sz es')) : LendAt P J f T sz es as es' := by
  refine ⟨⟨fn, hf, hname, by rw [hb]; rfl⟩, fun w B ok sv vals hJ hB hok hone hpos hown hlen hrel => ?_⟩
  refine calls_of_wp hf hb ?_
  have hone1 := one_key (k := 1000000) (sv := sv)
  have hsim := lent_sim hn hsm hJ hB hok hone hpos hown hlen hrel
  refine ev_sound hmix hT hΛ hΦ hJJ c _ _ _ w _ hdr h ⟨_, hsim⟩ fun e σ a w' hq hs => ?_
  have fin : look 1000000 σ.hp = some (.vec T sz es') → a.defers = [] ∧ ∃ v, (results fn a.tmps).run P w' = .ok v w' ∧ (Ending.returned v = .returned (.tuple #[]) ∧ Below B w w' ∧ (∀ g, g < w.heap.size → own sv ≠ some g → w'.heap[g]? = w.heap[g]?) ∧ w.heap.size ≤ w'.heap.size ∧ OwnV w' (fun _ => False) B T sz sv es') := by
    intro hl
    obtain ⟨ρ, hs⟩ := hs
    obtain ⟨s, hsr, _, hown'⟩ := hs.inv.blk 1000000 _ hl
    have hss := (hone1 1000000 s (hs.fr.hdr 1000000 (Nat.le_refl _) s hsr)).2
    subst hss
    refine ⟨hs.defers, .tuple #[], by simp [results, hres], rfl, hs.below, fun g hg hno => hs.fr.keep g hg fun b s' hs' => ?_, hs.fr.grow, hown'.plain hpl⟩
    obtain ⟨_, rfl⟩ := hone1 b s' hs'
    exact hno
  cases e with
  | normal => exact fin hq
  | ret => exact fin hq
  | exit id => exact hq.elim
end
/-! ### A function that takes a row and gives it, or its first part, back -/
def isRowV : V → Bool
  | .row _ _ => true
  | _ => false
def takeR (hp : Hp) : V → Option (TypeId × Nat × List V)
  | .vec b => match hp b with
    | some (.vec T sz es) => some (T, sz, es)
    | _ => none
  | .sub b sz 0 k => match hp b with
    | some (.vec T sz' es) => if sz = sz' ∧ k ≤ es.length then some (T, sz, es.take k) else none
    | _ => none
  | _ => none
def postT (t : Nat) (T : TypeId) (sz : Nat) (es' : List V) : Ex → St → Prop
  | .exit _, _ => False
  | _, σ => takeR σ.h (σ.e t) = some (T, sz, es')
theorem postT_ret (t : Nat) (T : TypeId) (sz : Nat) (es' : List V) (σ : St) : postT t T sz es' .ret σ = (takeR σ.h (σ.e t) = some (T, sz, es')) := rfl
theorem postT_normal (t : Nat) (T : TypeId) (sz : Nat) (es' : List V) (σ : St) : postT t T sz es' .normal σ = (takeR σ.h (σ.e t) = some (T, sz, es')) := rfl
section
variable {P : Program} {X : Ctx} {J : World → Prop}
theorem take_form {ok : Nat → Prop} {B : Nat} {w : World} {ρ : Nat → Option Value} {hp : Hp} {v : V} {val : Value} {T : TypeId} {sz : Nat} {es' : List V} (hI : Inv ok B w ρ hp) (hx : Rel w (okAt ok B ρ w) ρ v val) (h : takeR hp v = some (T, sz, es')) :
    val.oneCell' = true ∧ OwnV w (okAt ok B ρ w) B T sz val es' ∧ ∀ k, own val = some k → ∃ b s, ρ b = some s ∧ own s = some k := by
  unfold takeR at h
  split at h
  · rename_i b
    split at h
    · rename_i T' sz' es hb
      simp only [Option.some.injEq, Prod.mk.injEq] at h
      obtain ⟨rfl, rfl, rfl⟩ := h
      obtain ⟨s, hs, hpos, hown⟩ := hI.blk b _ hb
      have hv := hx.vec_inv
      rw [hs] at hv
      simp only [Option.some.injEq] at hv
      subst hv
      refine ⟨?_, hown, fun k hk => ⟨b, s, hs, hk⟩⟩
      cases hx with
      | ro h => cases h
      | vec _ _ _ h1 => exact h1
    · cases h
  · rename_i b sz0 k
    split at h
    · rename_i T' sz' es hb
      split at h
      · rename_i hc
        simp only [Option.some.injEq, Prod.mk.injEq] at h
        obtain ⟨rfl, rfl, rfl⟩ := h
        obtain ⟨rfl, hk⟩ := hc
        have hse : subE hp b sz0 (0 + k) = some (T', es) := by
          unfold subE
          simp only [hb]
          simp only [true_and]
          rw [if_pos (by omega)]
        obtain ⟨_, hpos, g, cap, c, ad, vs, hg, hc0, rfl, hle, hkc, hcm, ha, hl, hsz, h1, hrr, how⟩ := sub_form hI hx hse
        have hcap : c = cap := by omega
        subst hcap
        have had := ha.resolve_left hc0
        subst had
        rw [Nat.zero_mul]
        refine ⟨rfl, ⟨vs.take k, by rw [List.length_take, List.length_take, hl], fun v hv => hsz v (List.mem_of_mem_take hv), fun v hv => h1 v (List.mem_of_mem_take hv), fun i e v he hv => ?_, .inr ?_⟩, fun k' hk' => ⟨b, _, hg, ?_⟩⟩
        · rw [List.getElem?_take] at he hv
          split at he
          · rename_i hi; rw [if_pos hi] at hv; exact hrr i e v he hv
          · cases he
        · obtain ⟨hfl, hcase⟩ := how
          rcases hcase with ⟨h1', _⟩ | ⟨g', cap', cur, e1, hB, hhp, hn, hm, hcs, htk⟩
          · cases h1'
          · simp only [Value.slice.injEq, Option.some.injEq, Addr.mk.injEq] at e1
            obtain ⟨⟨rfl, _, _⟩, _, rfl⟩ := e1
            have hft := (flat_split (sz := sz0) (k := k) (vs := vs) hsz (by omega)).1
            have hlt : (es.take k).length = k := by rw [List.length_take]; omega
            rw [hlt, hft]
            refine ⟨?_, .inr ⟨g, c, cur, rfl, hB, hhp, hkc, hm, hcs, ?_⟩⟩
            · rw [List.length_take, hfl]
              exact Nat.min_eq_left (Nat.mul_le_mul_right _ hk)
            · rw [← htk, List.take_take, Nat.min_eq_left (Nat.mul_le_mul_right _ hk)]
        · simp only [own, if_neg hc0] at hk' ⊢
          exact hk'
      · cases h
    · cases h
  · cases h
theorem sound_take (hmix : P.follows .mixedOrders = true) (hT : TOkX P X) (hΛ : ∀ g L T sz es as es', X.Λ g = some L → L.2 T sz es as = some es' → LentAt P J L.1 g T sz es as es') (hΦ : ∀ g args r bs, X.Φ g args = some (r, bs) → SoundAt P J g args r bs) (hJJ : Stable J)
    {f : FuncId} {fn : Func} {c : Code} {T : TypeId} {sz t : Nat} {es as es' : List V} (hf : P.funcs[f]? = some fn) (hname : (fn.name == "runtime.NumGoroutine") = false) (hb : fn.body = some c) (hn : as.length + 1 ≤ fn.ntmps) (hsm : fn.ntmps ≤ 100000) (hdr : drAll X.dr c = true)
    (hres : fn.results = #[.tmp t]) (hrow : as.all (fun a => !(isRowV a)) = true) (hpl : ∀ e ∈ es', V.plain e = true) (h : ev X fn.ntmps c (St.lent T sz es as) (postT t T sz es')) : TakeAt P J f T sz es as es' := by
  refine ⟨⟨fn, hf, hname, by rw [hb]; rfl⟩, fun w B ok ok2 sv vals hJ hB hok hok2 hone hpos hown hlen hrel => ?_⟩
  refine calls_of_wp hf hb ?_
  have hone1 := one_key (k := 1000000) (sv := sv)
  have hsim := lent_sim (ok := ok2) hn hsm hJ hB (fun g hg => hok g (hok2 g hg)) hone hpos hown hlen fun j c u hc hu => by
    have hr := hrel j c u hc hu
    have hm := List.all_eq_true.1 hrow c (List.mem_of_getElem? hc)
    cases c <;> first | (exact hr) | (simp [isRowV] at hm)
  refine ev_sound hmix hT hΛ hΦ hJJ c _ _ _ w _ hdr h ⟨_, hsim⟩ fun e σ a w' hq hs => ?_
  have fin : takeR σ.h (σ.e t) = some (T, sz, es') → a.defers = [] ∧ ∃ v, (results fn a.tmps).run P w' = .ok v w' ∧ ∃ sv', Ending.returned v = .returned sv' ∧ Below B w w' ∧ (∀ g, g < w.heap.size → own sv ≠ some g → w'.heap[g]? = w.heap[g]?) ∧ w.heap.size ≤ w'.heap.size ∧ (∀ k, own sv' = some k → w.heap.size ≤ k ∨ own sv = some k) ∧ sv'.oneCell' = true ∧ OwnV w' ok2 B T sz sv' es' := by
    intro hl
    obtain ⟨ρ, hs⟩ := hs
    obtain ⟨k1, k2, k3⟩ := take_form hs.inv (hs.rel t) hl
    refine ⟨hs.defers, a.tmps.getD t Go.undef, by simp [results, hres], _, rfl, hs.below, fun g hg hno => hs.fr.keep g hg fun b s' hs' => ?_, hs.fr.grow, fun k hk => ?_, k1, k2.plain hpl⟩
    · obtain ⟨_, rfl⟩ := hone1 b s' hs'
      exact hno
    · obtain ⟨b, s, hb, ho⟩ := k3 k hk
      rcases hs.fr.fresh b s k hb ho with h1 | ⟨b0, s0, h1, h2⟩
      · exact .inl h1
      · obtain ⟨_, rfl⟩ := hone1 b0 s0 h1
        exact .inr h2
  cases e with
  | normal => exact fin hq
  | ret => exact fin hq
  | exit id => exact hq.elim
end
/-! ### Contracts: tables of them, and bridges to those of the elder kind -/
/-- what a function answers at data: a partial function that is sound -/
def Snd (P : Program) (J : World → Prop) (f : FuncId) (F : List V → Option (V × List Blk)) : Prop := ∀ args r bs, F args = some (r, bs) → SoundAt P J f args r bs
abbrev Phi := List (FuncId × (List V → Option (V × List Blk)))
def phi : Phi → FuncId → List V → Option (V × List Blk)
  | [], _, _ => none
  | (f', F) :: l, f, args => if f = f' then F args else phi l f args
def PhiOk (P : Program) (J : World → Prop) : Phi → Prop
  | [] => True
  | (f, F) :: l => Snd P J f F ∧ PhiOk P J l
theorem phi_sound {P : Program} {J : World → Prop} : ∀ {l : Phi}, PhiOk P J l → ∀ g args r bs, phi l g args = some (r, bs) → SoundAt P J g args r bs
  | [], _, g, args, r, bs, h => by simp [phi] at h
  | (f, F) :: l, hl, g, args, r, bs, h => by
    simp only [phi] at h
    split at h
    · rename_i he; subst he; exact hl.1 args r bs h
    · exact phi_sound hl.2 g args r bs h
abbrev Lam := List (FuncId × Bool × (TypeId → Nat → List V → List V → Option (List V)))
def LamOk (P : Program) (J : World → Prop) : Lam → Prop
  | [] => True
  | (g, L) :: l => (∀ T sz es as es', L.2 T sz es as = some es' → LentAt P J L.1 g T sz es as es') ∧ LamOk P J l
theorem lam_sound {P : Program} {J : World → Prop} : ∀ {l : Lam}, LamOk P J l → ∀ g L T sz es as es', look g l = some L → L.2 T sz es as = some es' → LentAt P J L.1 g T sz es as es'
  | [], _, g, L, T, sz, es, as, es', h, _ => by simp [look] at h
  | (f, F) :: l, hl, g, L, T, sz, es, as, es', h, he => by
    simp only [look] at h
    split at h
    · rename_i hgf; subst hgf; simp at h; subst h; exact hl.1 T sz es as es' he
    · exact lam_sound hl.2 g L T sz es as es' h he
def V.toC : V → Option Value
  | .int k n => some (.int k n)
  | .bool b => some (.bool b)
  | .str s => some (.string s)
  | _ => none
def V.toA : V → Option Value
  | .agg cs => (cs.mapM V.toC).map fun vs => .agg vs.toArray
  | v => V.toC v
/-- values without addresses -/
def V.toV : V → Option Value
  | .tup cs => (cs.mapM V.toA).map fun vs => .tuple vs.toArray
  | v => V.toA v
theorem toC_rel {w : World} {ok : Nat → Prop} {v : V} {u : Value} (h : V.toC v = some u) : RelD w ok v u ∧ u.oneCell' = true ∧ ∀ val, RelD w ok v val → val = u := by
  cases v <;> simp [V.toC] at h <;> subst h
  · exact ⟨.int _ _, rfl, fun val hv => by cases hv; rfl⟩
  · exact ⟨.bool _, rfl, fun val hv => by cases hv; rfl⟩
  · exact ⟨.str _, rfl, fun val hv => by cases hv; rfl⟩
theorem mapM_spec {α β : Type} {f : α → Option β} : ∀ {l : List α} {r : List β}, l.mapM f = some r → l.length = r.length ∧ ∀ (j : Nat) c v, l[j]? = some c → r[j]? = some v → f c = some v
  | [], r, h => by simp at h; subst h; simp
  | c :: l, r, h => by
    rw [List.mapM_cons] at h
    cases hf : f c with
    | none => simp [hf] at h
    | some y =>
      cases hl : l.mapM f with
      | none => simp [hf, hl] at h
      | some ys =>
        simp [hf, hl] at h
        subst h
        obtain ⟨h1, h2⟩ := mapM_spec hl
        refine ⟨by simp [h1], fun j c' v hc hv => ?_⟩
        cases j with
        | zero => simp at hc hv; subst hc; subst hv; exact hf
        | succ j => exact h2 j c' v (by simpa using hc) (by simpa using hv)
theorem list_eq {α : Type} {xs ys : List α} (hl : xs.length = ys.length) (h : ∀ (j : Nat) x y, xs[j]? = some x → ys[j]? = some y → x = y) : xs = ys := by
  apply List.ext_getElem hl
  intro j h1 h2
  exact h j _ _ (List.getElem?_eq_getElem h1) (List.getElem?_eq_getElem h2)
theorem toA_rel {w : World} {ok : Nat → Prop} {v : V} {u : Value} (h : V.toA v = some u) : RelD w ok v u ∧ ∀ val, RelD w ok v val → val = u := by
  unfold V.toA at h
  split at h
  · rename_i cs
    simp only [Option.map_eq_some_iff] at h
    obtain ⟨vs, hm, rfl⟩ := h
    obtain ⟨hl, hg⟩ := mapM_spec hm
    refine ⟨.agg cs vs hl (fun x hx => ?_) (fun j c v hc hv => (toC_rel (hg j c v hc hv)).1), fun val hv => ?_⟩
    · obtain ⟨j, hj⟩ := List.getElem?_of_mem hx
      have hlt := (List.getElem?_eq_some_iff.1 hj).1
      exact (toC_rel (w := w) (ok := ok) (hg j _ _ (List.getElem?_eq_getElem (by omega)) hj)).2.1
    · cases hv with
      | agg _ vs' hl' _ hh =>
        rw [list_eq (xs := vs') (ys := vs) (by omega) fun j x y hx hy => by
          have hlt := (List.getElem?_eq_some_iff.1 hx).1
          exact (toC_rel (hg j _ y (List.getElem?_eq_getElem (by omega)) hy)).2.2 x (hh j _ x (List.getElem?_eq_getElem (by omega)) hx)]
  · have := toC_rel (w := w) (ok := ok) h
    exact ⟨this.1, this.2.2⟩
theorem toV_rel {w : World} {ok : Nat → Prop} {v : V} {u : Value} (h : V.toV v = some u) : RelD w ok v u ∧ ∀ val, RelD w ok v val → val = u := by
  unfold V.toV at h
  split at h
  · rename_i cs
    simp only [Option.map_eq_some_iff] at h
    obtain ⟨vs, hm, rfl⟩ := h
    obtain ⟨hl, hg⟩ := mapM_spec hm
    refine ⟨.tup cs vs hl (fun j c v hc hv => (toA_rel (hg j c v hc hv)).1), fun val hv => ?_⟩
    cases hv with
    | tup _ vs' hl' hh =>
      rw [list_eq (xs := vs') (ys := vs) (by omega) fun j x y hx hy => by
        have hlt := (List.getElem?_eq_some_iff.1 hx).1
        exact (toA_rel (hg j _ y (List.getElem?_eq_getElem (by omega)) hy)).2 x (hh j _ x (List.getElem?_eq_getElem (by omega)) hx)]
  · exact toA_rel h
/-- a contract of the elder kind, over values without addresses -/
theorem sound_plain {P : Program} {J : World → Prop} {f : FuncId} {args : List V} {vals : List Value} {r : V} {rv : Value} (hcal : Callable P f) (ha : args.mapM V.toV = some vals) (hr : V.toV r = some rv)
    (h : ∀ w, J w → Calls P f vals.toArray w fun e w' => e = .returned rv ∧ Below w.heap.size w w') : SoundAt P J f args r [] := by
  refine ⟨hcal, fun w ok us hJ hok hlen hrel => ?_⟩
  obtain ⟨hl, hg⟩ := mapM_spec ha
  have hus : us = vals := list_eq (by omega) fun j x y hx hy => by
    have hlt := (List.getElem?_eq_some_iff.1 hx).1
    exact (toV_rel (hg j _ y (List.getElem?_eq_getElem (by omega)) hy)).2 x (hrel j _ x (List.getElem?_eq_getElem (by omega)) hx)
  subst hus
  refine (h w hJ).mono ?_
  rintro e w' ⟨rfl, hb⟩
  refine ⟨rv, fun _ => none, rfl, hb, ⟨hb.size, fun b k hk => (by simp at hk), fun b sv hr => (by cases hr), fun b b' sv sv' g h1 => (by cases h1)⟩, .ro (toV_rel hr).1⟩
/-- and back: what the machine comes to, said of the model's values -/
theorem SoundAt.calls {P : Program} {J : World → Prop} {f : FuncId} {args : List V} {r : V} {bs : List Blk} {rv : Value} (h : SoundAt P J f args r bs) (hr : V.toV r = some rv) {w : World} (hJ : J w) {vals : List Value} (hlen : args.length = vals.length)
    (hrel : ∀ (j : Nat) c v, args[j]? = some c → vals[j]? = some v → RelD w (fun g => g < w.heap.size) c v) : Calls P f vals.toArray w fun e w' => e = .returned rv ∧ Below w.heap.size w w' := by
  refine (h.2 w (fun g => g < w.heap.size) vals hJ (fun g hg => hg) hlen hrel).mono ?_
  rintro e w' ⟨val, ρr, rfl, hb, _, hrr⟩
  refine ⟨?_, hb⟩
  cases hrr with
  | ro hd => rw [(toV_rel hr).2 _ hd]
  | ptr => cases hr
  | eptr => cases hr
  | vec => cases hr
  | sub => cases hr
  | fn => cases hr
  | agg cs vs hl h1 hh =>
    have := (toV_rel (w := w') (ok := okAt (fun g => g < w.heap.size) w.heap.size ρr w') hr).2 (.agg vs.toArray) (.agg cs vs hl h1 fun j c v hc hv => ?_)
    · rw [this]
    · unfold V.toV V.toA at hr
      simp only [Option.map_eq_some_iff] at hr
      obtain ⟨us, hm, _⟩ := hr
      obtain ⟨hl2, hg⟩ := mapM_spec hm
      have hj := (List.getElem?_eq_some_iff.1 hc).1
      have ht := hg j c _ hc (List.getElem?_eq_getElem (by omega))
      have := hh j c v hc hv
      cases c <;> simp [V.toC] at ht <;> exact this.toD rfl
  | tup cs vs hl hh =>
    have := (toV_rel (w := w') (ok := okAt (fun g => g < w.heap.size) w.heap.size ρr w') hr).2 (.tuple vs.toArray) (.tup cs vs hl fun j c v hc hv => ?_)
    · rw [this]
    · unfold V.toV at hr
      simp only [Option.map_eq_some_iff] at hr
      obtain ⟨us, hm, _⟩ := hr
      obtain ⟨hl2, hg⟩ := mapM_spec hm
      have hj := (List.getElem?_eq_some_iff.1 hc).1
      have ht := hg j c _ hc (List.getElem?_eq_getElem (by omega))
      refine (hh j c v hc hv).toD ?_
      unfold V.toA at ht
      split at ht
      · rename_i ds
        simp only [Option.map_eq_some_iff] at ht
        obtain ⟨us2, hm2, _⟩ := ht
        obtain ⟨hl3, hg3⟩ := mapM_spec hm2
        rw [V.data, dataL_iff]
        intro x hx
        obtain ⟨i, hi⟩ := List.getElem?_of_mem hx
        have hii := (List.getElem?_eq_some_iff.1 hi).1
        have ht3 := hg3 i x _ hi (List.getElem?_eq_getElem (by omega))
        cases x <;> simp [V.toC] at ht3 <;> rfl
      · cases c <;> simp [V.toC] at ht <;> rfl
/-- a row that is handed in is not longer than the model lets it be -/
theorem SoundAt.row {P : Program} {J : World → Prop} {f : FuncId} {args : List V} {r : V} {bs : List Blk} (j : Nat) {sz : Nat} {es : List V} (hj : args[j]? = some (.row sz es)) (hcal : Callable P f) (h : es.length ≤ maxLen → SoundAt P J f args r bs) : SoundAt P J f args r bs := by
  refine ⟨hcal, fun w ok vals hJ hok hlen hrel => ?_⟩
  have hlt := (List.getElem?_eq_some_iff.1 hj).1
  have hr := hrel j _ _ hj (List.getElem?_eq_getElem (show j < vals.length by omega))
  have hle : es.length ≤ maxLen := by
    generalize vals[j] = x at hr
    cases hr with
    | nil => exact Nat.zero_le _
    | row _ _ g o cap vs hok hcap hmax => omega
  exact (h hle).2 w ok vals hJ hok hlen hrel
theorem rels_of {args : List V} {vals : List Value} (h : args.mapM V.toV = some vals) {w : World} {ok : Nat → Prop} : ∀ (j : Nat) c v, args[j]? = some c → vals[j]? = some v → RelD w ok c v := by
  obtain ⟨_, hg⟩ := mapM_spec h
  exact fun j c v hc hv => (toV_rel (hg j c v hc hv)).1
theorem SoundAt.weaken {P : Program} {J : World → Prop} {f : FuncId} {args args' : List V} {r : V} {bs : List Blk} (h : SoundAt P J f args r bs) (hl : args.length = args'.length)
    (hr : ∀ w ok (j : Nat) c c' val, args[j]? = some c → args'[j]? = some c' → RelD w ok c' val → RelD w ok c val) : SoundAt P J f args' r bs :=
  ⟨h.1, fun w ok vals hJ hok hlen hrel => h.2 w ok vals hJ hok (by omega) fun j c v hc hv => by
    have hlt := (List.getElem?_eq_some_iff.1 hc).1
    exact hr w ok j c _ v hc (List.getElem?_eq_getElem (show j < args'.length by omega)) (hrel j _ v (List.getElem?_eq_getElem (by omega)) hv)⟩
theorem refsIn_data {bs : List Nat} : ∀ {v : V}, V.data v = true → V.refsIn bs v = true
  | .agg cs, h => by
    rw [V.refsIn, refsInL_iff]; rw [V.data, dataL_iff] at h
    exact fun c hc => refsIn_data (h c hc)
  | .tup cs, h => by
    rw [V.refsIn, refsInL_iff]; rw [V.data, dataL_iff] at h
    exact fun c hc => refsIn_data (h c hc)
  | .fn f cs, h => by
    rw [V.refsIn, refsInL_iff]; rw [V.data, dataL_iff] at h
    exact fun c hc => refsIn_data (h c hc)
  | .ptr _ _, h => by simp [V.data] at h
  | .eptr _ _ _ _, h => by simp [V.data] at h
  | .vec _, h => by simp [V.data] at h
  | .sub _ _ _ _, h => by simp [V.data] at h
  | .int _ _, _ => rfl
  | .bool _, _ => rfl
  | .str _, _ => rfl
  | .row _ _, _ => rfl
  | .zero, _ => rfl
  | .rd _ _, _ => rfl
  | .undef, _ => rfl
  | .raw _, _ => rfl
theorem refsInL_data {bs : List Nat} {cs : List V} (h : V.dataL cs = true) : V.refsInL bs cs = true := by
  rw [refsInL_iff]; rw [dataL_iff] at h
  exact fun c hc => refsIn_data (h c hc)
theorem map_fix {α : Type} {f : α → α} : ∀ {l : List α}, (∀ x ∈ l, f x = x) → l.map f = l
  | [], _ => rfl
  | x :: l, h => by rw [List.map_cons, h x (by simp), map_fix fun y hy => h y (List.mem_cons_of_mem _ hy)]
theorem scrub_data {b : Nat} {r : V} : ∀ {v : V}, V.data v = true → V.scrub b r v = v
  | .agg cs, h => by
    rw [V.data, dataL_iff] at h
    rw [V.scrub, scrubL_eq, map_fix fun c hc => scrub_data (h c hc)]
  | .tup cs, h => by
    rw [V.data, dataL_iff] at h
    rw [V.scrub, scrubL_eq, map_fix fun c hc => scrub_data (h c hc)]
  | .fn f cs, h => by
    rw [V.data, dataL_iff] at h
    rw [V.scrub, scrubL_eq, map_fix fun c hc => scrub_data (h c hc)]
  | .ptr _ _, h => by simp [V.data] at h
  | .eptr _ _ _ _, h => by simp [V.data] at h
  | .vec _, h => by simp [V.data] at h
  | .sub _ _ _ _, h => by simp [V.data] at h
  | .int _ _, _ => by rw [V.scrub]
  | .bool _, _ => by rw [V.scrub]
  | .str _, _ => by rw [V.scrub]
  | .row _ _, _ => by rw [V.scrub]
  | .zero, _ => by rw [V.scrub]
  | .rd _ _, _ => by rw [V.scrub]
  | .undef, _ => by rw [V.scrub]
  | .raw _, _ => by rw [V.scrub]
theorem scrubL_data {b : Nat} {r : V} {cs : List V} (h : V.dataL cs = true) : V.scrubL b r cs = cs := by
  rw [dataL_iff] at h
  rw [scrubL_eq, map_fix fun c hc => scrub_data (h c hc)]
/-! ### Rules for running the machine: what comes next stands where simp does not look -/
class K1 (α : Type) where
  k : α → Prop
class KQ where
  q : Ex → St → Prop
class KC where
  c : Code
class KO where
  ops : List Oper
  os : List Oper
class KA where
  p : Prop
class KB where
  p : Prop
def oS {α : Type} (x : Option α) [K : K1 α] : Prop := onSome x K.k
def oB (x : V) [K : K1 Bool] : Prop := onBool x K.k
def oI (b : Bool) [x : KA] [y : KB] : Prop := onIf b x.p y.p
def oE (e : Ex) [q : KA] [r : KQ] (σ : St) : Prop := match e with
  | .normal => q.p
  | e => r.q e σ
def evQ (X : Ctx) (n : Nat) [c : KC] (σ : St) [Q : KQ] : Prop := ev X n c.c σ Q.q
def evO (X : Ctx) (n : Nat) [o : KO] (σ : St) [K : K1 St] : Prop := evOps X n o.ops o.os σ K.k
def evP (X : Ctx) (n : Nat) (p : Nat × List (List Nat)) [o : KO] (σ : St) [K : K1 St] : Prop := evDr X n o.ops p σ K.k
def evW (X : Ctx) (n : Nat) (un : List (List Nat)) (k : Nat) (L : List (Nat × Ent)) [o : KO] (σ : St) [K : K1 St] : Prop := evHeadW X n o.ops ((o.os.take un.length).zip un) k L σ fun σ1 => evOps X n o.ops (o.os.drop un.length) σ1 K.k
def evD (X : Ctx) (n m : Nat) [o : KO] (σ : St) [K : K1 St] : Prop := evHead X n o.ops (o.os.take m) σ fun σ1 => evOps X n o.ops (o.os.drop m) σ1 K.k
theorem ev_start {X : Ctx} {n : Nat} {c : Code} {σ : St} {Q : Ex → St → Prop} (h : @evQ X n ⟨c⟩ σ ⟨Q⟩) : ev X n c σ Q := h
section
variable (X : Ctx) (n : Nat) (σ : St) (Q : Ex → St → Prop)
theorem oS_some {α : Type} (a : α) (K : α → Prop) : @oS α (some a) ⟨K⟩ = K a := rfl
theorem oS_none {α : Type} (K : α → Prop) : @oS α none ⟨K⟩ = False := rfl
theorem oS_ite {α : Type} (c : Prop) [Decidable c] (x : Option α) (K : α → Prop) : @oS α (if c then x else none) ⟨K⟩ = (c ∧ @oS α x ⟨K⟩) := by by_cases h : c <;> simp [h, oS, onSome]
theorem oS_ite' {α : Type} (c : Prop) [Decidable c] (x : Option α) (K : α → Prop) : @oS α (if c then none else x) ⟨K⟩ = (¬ c ∧ @oS α x ⟨K⟩) := by by_cases h : c <;> simp [h, oS, onSome]
theorem oB_bool (b : Bool) (K : Bool → Prop) : @oB (.bool b) ⟨K⟩ = K b := rfl
theorem oI_true (x y : Prop) : @oI true ⟨x⟩ ⟨y⟩ = x := rfl
theorem oI_false (x y : Prop) : @oI false ⟨x⟩ ⟨y⟩ = y := rfl
theorem oI_not (b : Bool) (x y : Prop) : @oI (!b) ⟨x⟩ ⟨y⟩ = @oI b ⟨y⟩ ⟨x⟩ := by cases b <;> rfl
theorem oI_intro {b : Bool} {x y : Prop} (h1 : b = true → x) (h2 : b = false → y) : @oI b ⟨x⟩ ⟨y⟩ := by cases b <;> simp_all [oI, onIf]
theorem oI_dec {p : Prop} [Decidable p] {x y : Prop} (h1 : p → x) (h2 : ¬ p → y) : @oI (decide p) ⟨x⟩ ⟨y⟩ := by by_cases h : p <;> simp_all [oI, onIf]
theorem evO_nil (ops : List Oper) (K : St → Prop) : @evO X n ⟨ops, []⟩ σ ⟨K⟩ = K σ := rfl
theorem evO_cons (ops : List Oper) (dst : Option Nat) (op : Op) (ty : TypeId) (pos : String) (after : Array Edge) (os : List Oper) (K : St → Prop) :
    @evO X n ⟨ops, ⟨dst, op, ty, pos, after, none⟩ :: os⟩ σ ⟨K⟩ = @oS _ (freezeL (X.frz (dst.getD 0)) σ) ⟨fun σ => @oS _ (evalOp X σ.e σ.h (dst.getD 0) op) ⟨fun p => dstOk n dst ∧ @evO X n ⟨ops, os⟩ (σ.app p.2 dst p.1) ⟨K⟩⟩⟩ := rfl
theorem evO_guard (ops : List Oper) (dst : Option Nat) (op : Op) (ty : TypeId) (pos : String) (after : Array Edge) (j : Nat) (want : Bool) (os : List Oper) (K : St → Prop) :
    @evO X n ⟨ops, ⟨dst, op, ty, pos, after, some (j, want)⟩ :: os⟩ σ ⟨K⟩ = @oS _ (guardT ops j) ⟨fun t => @oS _ (gOf (σ.e t)) ⟨fun b =>
      @oI (b == some want) ⟨@oS _ (evalOp X σ.e σ.h (dst.getD 0) op) ⟨fun p => dstOk n dst ∧ @evO X n ⟨ops, os⟩ (σ.app p.2 dst p.1) ⟨K⟩⟩⟩ ⟨dstOk n dst ∧ @evO X n ⟨ops, os⟩ (σ.app .none dst (.raw Go.undef)) ⟨K⟩⟩⟩⟩ := rfl
theorem evQ_skip : @evQ X n ⟨.skip⟩ σ ⟨Q⟩ = Q .normal σ := rfl
theorem evQ_region (id : Nat) (ops : List Oper) : @evQ X n ⟨.region id ops.toArray false⟩ σ ⟨Q⟩ = @evO X n ⟨ops, ops⟩ σ ⟨fun σ' => Q .normal (σ'.drop (X.dead id))⟩ := rfl
theorem evQ_dr (id : Nat) (ops : List Oper) : @evQ X n ⟨.region id ops.toArray true⟩ σ ⟨Q⟩ = @oS _ (look id X.dr) ⟨fun m => @evP X n m ⟨ops, ops⟩ σ ⟨fun σ' => Q .normal (σ'.drop (X.dead id))⟩⟩ := rfl
theorem evP_D (m : Nat) (ops : List Oper) (K : St → Prop) : @evP X n (m, []) ⟨ops, ops⟩ σ ⟨K⟩ = @evD X n m ⟨ops, ops⟩ σ ⟨K⟩ := (rfl)
theorem evP_W (m : Nat) (u : List Nat) (un : List (List Nat)) (ops : List Oper) (K : St → Prop) : @evP X n (m, u :: un) ⟨ops, ops⟩ σ ⟨K⟩ = @evW X n (u :: un) 0 [] ⟨ops, ops⟩ σ ⟨K⟩ := (rfl)
theorem evW_nil (k : Nat) (L : List (Nat × Ent)) (ops os : List Oper) (K : St → Prop) : @evW X n [] k L ⟨ops, os⟩ σ ⟨K⟩ = @evO X n ⟨ops, os⟩ σ ⟨K⟩ := (rfl)
theorem evW_cons (k : Nat) (L : List (Nat × Ent)) (u : List Nat) (un : List (List Nat)) (ops : List Oper) (dst : Option Nat) (op : Op) (ty : TypeId) (pos : String) (after : Array Edge) (os : List Oper) (K : St → Prop) :
    @evW X n (u :: un) k L ⟨ops, ⟨dst, op, ty, pos, after, none⟩ :: os⟩ σ ⟨K⟩ = @oS _ (evalOp X σ.e σ.h (dst.getD 0) op) ⟨fun p => (dstOk n dst ∧ okW L u (touchOf σ.e op) p.2 = true) ∧ @evW X n un (k + 1) ((k, ⟨touchOf σ.e op, p.2.wb⟩) :: L) ⟨ops, os⟩ (σ.app p.2 dst p.1) ⟨K⟩⟩ := (rfl)
theorem evW_guard (k : Nat) (L : List (Nat × Ent)) (u : List Nat) (un : List (List Nat)) (ops : List Oper) (dst : Option Nat) (op : Op) (ty : TypeId) (pos : String) (after : Array Edge) (j : Nat) (want : Bool) (os : List Oper) (K : St → Prop) :
    @evW X n (u :: un) k L ⟨ops, ⟨dst, op, ty, pos, after, some (j, want)⟩ :: os⟩ σ ⟨K⟩ = @oS _ (guardT ops j) ⟨fun t => @oS _ (gOf (σ.e t)) ⟨fun b =>
      @oI (b == some want) ⟨@oS _ (evalOp X σ.e σ.h (dst.getD 0) op) ⟨fun p => (dstOk n dst ∧ okW L u (touchOf σ.e op) p.2 = true) ∧ @evW X n un (k + 1) ((k, ⟨touchOf σ.e op, p.2.wb⟩) :: L) ⟨ops, os⟩ (σ.app p.2 dst p.1) ⟨K⟩⟩⟩ ⟨dstOk n dst ∧ @evW X n un (k + 1) ((k, ⟨some [], none⟩) :: L) ⟨ops, os⟩ (σ.app .none dst (.raw Go.undef)) ⟨K⟩⟩⟩⟩ := (rfl)
theorem okW_eq (L : List (Nat × Ent)) (un : List Nat) (us : Option (List V)) (eff : Eff) : okW L un us eff = (eff.tame && (us.isSome || eff.wb.isNone) && un.all fun i => okU (look i L) ⟨us, eff.wb⟩) := rfl
theorem tame_none : Eff.tame .none = true := rfl
theorem tame_new (l : List (Nat × Blk)) : Eff.tame (.new l) = true := rfl
theorem tame_write (b : Nat) (k : Blk) : Eff.tame (.write b k) = true := rfl
theorem wb_none : Eff.wb .none = none := rfl
theorem wb_new (l : List (Nat × Blk)) : Eff.wb (.new l) = none := rfl
theorem wb_write (b : Nat) (k : Blk) : Eff.wb (.write b k) = some b := rfl
theorem okU_some (x y : Ent) : okU (some x) y = (offW x.w y.us && offW y.w x.us) := rfl
theorem offW_none (us : Option (List V)) : offW none us = true := rfl
theorem offW_some (b : Nat) (l : List V) : offW (some b) (some l) = l.all (V.noRef b) := rfl
theorem evD_zero (ops os : List Oper) (K : St → Prop) : @evD X n 0 ⟨ops, os⟩ σ ⟨K⟩ = @evO X n ⟨ops, os⟩ σ ⟨K⟩ := (rfl)
theorem evD_nil (m : Nat) (ops : List Oper) (K : St → Prop) : @evD X n m ⟨ops, []⟩ σ ⟨K⟩ = K σ := by
  unfold evD
  simp only [List.take_nil, List.drop_nil]
  rfl
theorem evD_cons (m : Nat) (ops : List Oper) (dst : Option Nat) (op : Op) (ty : TypeId) (pos : String) (after : Array Edge) (os : List Oper) (K : St → Prop) :
    @evD X n (m + 1) ⟨ops, ⟨dst, op, ty, pos, after, none⟩ :: os⟩ σ ⟨K⟩ = @oS _ (evalOp X σ.e σ.h (dst.getD 0) op) ⟨fun p => (dstOk n dst ∧ p.2.mild = true) ∧ @evD X n m ⟨ops, os⟩ (σ.app p.2 dst p.1) ⟨K⟩⟩ := (rfl)
theorem evD_guard (m : Nat) (ops : List Oper) (dst : Option Nat) (op : Op) (ty : TypeId) (pos : String) (after : Array Edge) (j : Nat) (want : Bool) (os : List Oper) (K : St → Prop) :
    @evD X n (m + 1) ⟨ops, ⟨dst, op, ty, pos, after, some (j, want)⟩ :: os⟩ σ ⟨K⟩ = @oS _ (guardT ops j) ⟨fun t => @oS _ (gOf (σ.e t)) ⟨fun b =>
      @oI (b == some want) ⟨@oS _ (evalOp X σ.e σ.h (dst.getD 0) op) ⟨fun p => (dstOk n dst ∧ p.2.mild = true) ∧ @evD X n m ⟨ops, os⟩ (σ.app p.2 dst p.1) ⟨K⟩⟩⟩ ⟨dstOk n dst ∧ @evD X n m ⟨ops, os⟩ (σ.app .none dst (.raw Go.undef)) ⟨K⟩⟩⟩⟩ := (rfl)
theorem mild_none : Eff.mild .none = true := rfl
theorem mild_new (l : List (Nat × Blk)) : Eff.mild (.new l) = true := rfl
theorem evQ_seq (x y : Code) : @evQ X n ⟨.seq x y⟩ σ ⟨Q⟩ = @evQ X n ⟨x⟩ σ ⟨fun e σ' => @oE e ⟨@evQ X n ⟨y⟩ σ' ⟨Q⟩⟩ ⟨Q⟩ σ'⟩ := by
  unfold evQ oE
  simp only [ev]
  all_goals (refine congrArg (ev X n x σ) ?_; funext e σ'; cases e <;> rfl)
theorem oE_normal (x : Prop) : @oE .normal ⟨x⟩ ⟨Q⟩ σ = x := rfl
theorem oE_exit (x : Prop) (i : Nat) : @oE (.exit i) ⟨x⟩ ⟨Q⟩ σ = Q (.exit i) σ := rfl
theorem oE_ret (x : Prop) : @oE .ret ⟨x⟩ ⟨Q⟩ σ = Q .ret σ := rfl
theorem evQ_cond (c : Operand) (x y : Code) : @evQ X n ⟨.cond c x y⟩ σ ⟨Q⟩ = @oB (opd σ.e c) ⟨fun b => @oI b ⟨@evQ X n ⟨x⟩ σ ⟨Q⟩⟩ ⟨@evQ X n ⟨y⟩ σ ⟨Q⟩⟩⟩ := rfl
def bQ (id : Nat) (Q : Ex → St → Prop) (e : Ex) (σ' : St) : Prop := match e with
  | .exit i => if i = id then Q .normal σ' else Q (.exit i) σ'
  | e => Q e σ'
theorem bQ_normal (id : Nat) : bQ id Q .normal σ = Q .normal σ := rfl
theorem bQ_ret (id : Nat) : bQ id Q .ret σ = Q .ret σ := rfl
theorem bQ_exit (id i : Nat) : bQ id Q (.exit i) σ = if i = id then Q .normal σ else Q (.exit i) σ := rfl
theorem evQ_block (id : Nat) (x : Code) : @evQ X n ⟨.block id x⟩ σ ⟨Q⟩ = @evQ X n ⟨x⟩ σ ⟨fun e σ' => bQ id Q e σ'⟩ := by
  unfold evQ
  simp only [ev]
  rfl
theorem evQ_exit (id : Nat) : @evQ X n ⟨.exit id⟩ σ ⟨Q⟩ = Q (.exit id) σ := rfl
theorem evQ_ret : @evQ X n ⟨.ret⟩ σ ⟨Q⟩ = Q .ret σ := rfl
def lQ (ts bs : List Nat) (I : St → Prop) (μ : St → Nat) (m : Nat) (Q : Ex → St → Prop) (e : Ex) (σ' : St) : Prop := match e with
  | .normal => (σ'.keep ts bs).closed bs = true ∧ I (σ'.keep ts bs) ∧ μ (σ'.keep ts bs) < m
  | e => Q e σ'
theorem lQ_normal (ts bs : List Nat) (I : St → Prop) (μ : St → Nat) (m : Nat) : lQ ts bs I μ m Q .normal σ = ((σ.keep ts bs).closed bs = true ∧ I (σ.keep ts bs) ∧ μ (σ.keep ts bs) < m) := rfl
theorem lQ_ret (ts bs : List Nat) (I : St → Prop) (μ : St → Nat) (m : Nat) : lQ ts bs I μ m Q .ret σ = Q .ret σ := rfl
theorem lQ_exit (ts bs : List Nat) (I : St → Prop) (μ : St → Nat) (m i : Nat) : lQ ts bs I μ m Q (.exit i) σ = Q (.exit i) σ := rfl
theorem evQ_loop {X : Ctx} {n : Nat} {x : Code} {σ : St} {Q : Ex → St → Prop} (ts bs : List Nat) (I : St → Prop) (μ : St → Nat) (h0 : (σ.keep ts bs).closed bs = true ∧ I (σ.keep ts bs))
    (h : ∀ σ, I σ → @evQ X n ⟨x⟩ σ ⟨fun e σ' => lQ ts bs I μ (μ σ) Q e σ'⟩) : @evQ X n ⟨.loop x⟩ σ ⟨Q⟩ := by
  refine ⟨ts, bs, I, μ, h0, fun σ hI => ?_⟩
  refine Eq.mp (congrArg (ev X n x σ) ?_) (h σ hI)
  funext e σ'
  cases e <;> rfl
end
class HX (α : Type) where
  v : α
class HY (α : Type) where
  v : α
/-- a choice whose sides simp does not enter -/
def selB {α : Type} (c : Bool) [x : HX α] [y : HY α] : α := match c with
  | true => x.v
  | false => y.v
theorem selB_true {α : Type} (x y : α) : @selB α true ⟨x⟩ ⟨y⟩ = x := rfl
theorem selB_false {α : Type} (x y : α) : @selB α false ⟨x⟩ ⟨y⟩ = y := rfl
theorem e_mk (l : List (Nat × V)) (h : List (Nat × Blk)) (t : Nat) : St.e ⟨l, h⟩ t = (look t l).getD .undef := rfl
theorem h_mk (l : List (Nat × V)) (h : List (Nat × Blk)) (b : Nat) : St.h ⟨l, h⟩ b = look b h := rfl
theorem look_nil {α : Type} (t : Nat) : look t ([] : List (Nat × α)) = none := rfl
theorem look_cons {α : Type} (t t' : Nat) (v : α) (l : List (Nat × α)) : look t ((t', v) :: l) = @selB (Option α) (t == t') ⟨some v⟩ ⟨look t l⟩ := by
  simp only [look]
  by_cases h : t = t'
  · subst h; rw [if_pos rfl, beq_self_eq_true]; rfl
  · rw [if_neg h, beq_eq_false_iff_ne.2 h]; rfl
theorem setA_nil {α : Type} (t : Nat) (v : α) : setA t v [] = [(t, v)] := rfl
theorem setA_cons {α : Type} (t t' : Nat) (v v' : α) (l : List (Nat × α)) : setA t v ((t', v') :: l) = @selB _ (t == t') ⟨(t, v) :: l⟩ ⟨@selB _ (decide (t < t')) ⟨(t, v) :: (t', v') :: l⟩ ⟨(t', v') :: setA t v l⟩⟩ := by
  simp only [setA]
  by_cases h : t = t'
  · subst h; rw [if_pos rfl, beq_self_eq_true]; rfl
  · rw [if_neg h, beq_eq_false_iff_ne.2 h, selB_false]
    by_cases h2 : t < t'
    · rw [if_pos h2, decide_eq_true h2]; rfl
    · rw [if_neg h2, decide_eq_false h2]; rfl
theorem setH_nil {α : Type} (t : Nat) (v : α) : setH t v [] = [(t, v)] := rfl
theorem setH_cons {α : Type} (t t' : Nat) (v v' : α) (l : List (Nat × α)) : setH t v ((t', v') :: l) = @selB _ (t == t') ⟨(t, v) :: l⟩ ⟨(t', v') :: setH t v l⟩ := by
  simp only [setH]
  by_cases h : t = t'
  · subst h; rw [if_pos rfl, beq_self_eq_true]; rfl
  · rw [if_neg h, beq_eq_false_iff_ne.2 h]; rfl
theorem app_none (l : List (Nat × V)) (h : List (Nat × Blk)) (dst : Option Nat) (v : V) : St.app ⟨l, h⟩ .none dst v = ⟨putE dst v l, h⟩ := rfl
theorem app_new (l : List (Nat × V)) (h : List (Nat × Blk)) (dst : Option Nat) (v : V) (ks : List (Nat × Blk)) : St.app ⟨l, h⟩ (.new ks) dst v = ⟨putE dst v l, h ++ ks⟩ := rfl
theorem app_write (l : List (Nat × V)) (h : List (Nat × Blk)) (dst : Option Nat) (v : V) (b : Nat) (k : Blk) : St.app ⟨l, h⟩ (.write b k) dst v = ⟨putE dst v l, setH b k h⟩ := rfl
theorem app_change (l : List (Nat × V)) (h : List (Nat × Blk)) (dst : Option Nat) (v : V) (b : Nat) (k : Blk) : St.app ⟨l, h⟩ (.change b k) dst v = ⟨putE dst v (mapA (V.scrub b .undef) l), setH b k (mapA (Blk.scrub b .undef) h)⟩ := rfl
theorem putE_some (t : Nat) (v : V) (l : List (Nat × V)) : putE (some t) v l = setA t v l := rfl
theorem putE_none (v : V) (l : List (Nat × V)) : putE none v l = l := rfl
theorem mapA_nil {α : Type} (f : α → α) : mapA f [] = [] := rfl
theorem mapA_cons {α : Type} (f : α → α) (t : Nat) (v : α) (l : List (Nat × α)) : mapA f ((t, v) :: l) = (t, f v) :: mapA f l := rfl
def kpL {α : Type} (ts : List Nat) (l : List (Nat × α)) : List (Nat × α) := l.filter fun p => ts.contains p.1
def mem (t : Nat) (ts : List Nat) : Bool := ts.contains t
theorem mem_nil (t : Nat) : mem t [] = false := rfl
theorem mem_cons (t x : Nat) (ts : List Nat) : mem t (x :: ts) = @selB Bool (t == x) ⟨true⟩ ⟨mem t ts⟩ := by
  simp only [mem, List.contains_cons]
  cases t == x <;> rfl
theorem kpL_nil {α : Type} (ts : List Nat) : kpL ts ([] : List (Nat × α)) = [] := rfl
theorem kpL_cons {α : Type} (ts : List Nat) (t : Nat) (v : α) (l : List (Nat × α)) : kpL ts ((t, v) :: l) = @selB _ (mem t ts) ⟨(t, v) :: kpL ts l⟩ ⟨kpL ts l⟩ := by
  unfold kpL mem
  rw [List.filter_cons]
  simp only
  cases ts.contains t <;> rfl
def drL (ts : List Nat) (l : List (Nat × V)) : List (Nat × V) := l.filter fun p => !ts.contains p.1
theorem drL_nil (ts : List Nat) : drL ts [] = [] := rfl
theorem drL_cons (ts : List Nat) (t : Nat) (v : V) (l : List (Nat × V)) : drL ts ((t, v) :: l) = @selB _ (mem t ts) ⟨drL ts l⟩ ⟨(t, v) :: drL ts l⟩ := by
  unfold drL mem
  rw [List.filter_cons]
  simp only
  cases ts.contains t <;> rfl
theorem drop_mk (l : List (Nat × V)) (h : List (Nat × Blk)) (ts : List Nat) : St.drop ⟨l, h⟩ ts = ⟨drL ts l, h⟩ := rfl
theorem drop_nil (σ : St) : St.drop σ [] = σ := by obtain ⟨l, h⟩ := σ; simp [St.drop]
theorem keep_mk (l : List (Nat × V)) (h : List (Nat × Blk)) (ts bs : List Nat) : St.keep ⟨l, h⟩ ts bs = ⟨kpL ts l, kpL bs h⟩ := rfl
theorem closed_mk (l : List (Nat × V)) (h : List (Nat × Blk)) (bs : List Nat) : St.closed ⟨l, h⟩ bs = ((l.all fun p => V.refsIn bs p.2) && h.all fun p => Blk.refsIn bs p.2) := rfl
theorem opd_tmp (e : Env) (t : Nat) : opd e (.tmp t) = e t := rfl
theorem opd_const (e : Env) (v : Value) : opd e (.const v) = ofC v := rfl
theorem opd_func (e : Env) (f : FuncId) : opd e (.func f) = .fn f [] := rfl
theorem ofC_int (k : IntKind) (n : Int) : ofC (.int k n) = .int k n := rfl
theorem ofC_bool (b : Bool) : ofC (.bool b) = .bool b := rfl
theorem ofC_str (s : ByteArray) : ofC (.string s) = .str s := rfl
theorem ofC_nil : ofC (.slice none 0 0) = .zero := rfl
theorem dstOk_some (n t : Nat) : dstOk n (some t) = (t < n) := rfl
theorem dstOk_none (n : Nat) : dstOk n none = True := rfl
theorem freezeL_nil (σ : St) : freezeL [] σ = some σ := rfl
theorem guardT_eq (ops : List Oper) (j : Nat) : guardT ops j = (ops[j]?).bind (·.dst) := rfl
theorem post_ret (X : Ctx) (rs : List ResultVar) (r : V) (bs : List Blk) (σ : St) : post X rs r bs .ret σ = (retV X σ rs = some (r, bs)) := rfl
theorem post_normal (X : Ctx) (rs : List ResultVar) (r : V) (bs : List Blk) (σ : St) : post X rs r bs .normal σ = (retV X σ rs = some (r, bs)) := rfl
section
variable (k : IntKind) (a b : Int)
theorem bin_add : binV .add (.int k a) (.int k b) = some (.int k (k.wrap (a + b))) := by unfold binV; simp
theorem bin_sub : binV .sub (.int k a) (.int k b) = some (.int k (k.wrap (a - b))) := by unfold binV; simp
theorem bin_mul : binV .mul (.int k a) (.int k b) = some (.int k (k.wrap (a * b))) := by unfold binV; simp
theorem bin_quo : binV .quo (.int k a) (.int k b) = if b = 0 then none else some (.int k (k.wrap (a.tdiv b))) := by unfold binV; simp
theorem bin_rem : binV .rem (.int k a) (.int k b) = if b = 0 then none else some (.int k (a.tmod b)) := by unfold binV; simp
theorem bin_eql : binV .eql (.int k a) (.int k b) = some (.bool (decide (a = b))) := by
  unfold binV; simp; exact Bool.beq_eq_decide_eq a b
theorem bin_neq : binV .neq (.int k a) (.int k b) = some (.bool (!decide (a = b))) := by
  unfold binV; simp [bne]; exact Bool.beq_eq_decide_eq a b
theorem bin_lss : binV .lss (.int k a) (.int k b) = some (.bool (decide (a < b))) := by unfold binV; simp
theorem bin_leq : binV .leq (.int k a) (.int k b) = some (.bool (decide (a ≤ b))) := by unfold binV; simp
theorem bin_gtr : binV .gtr (.int k a) (.int k b) = some (.bool (decide (b < a))) := by unfold binV; simp
theorem bin_geq : binV .geq (.int k a) (.int k b) = some (.bool (decide (b ≤ a))) := by unfold binV; simp
theorem un_neg : unV .neg (.int k a) = some (.int k (k.wrap (0 - a))) := rfl
theorem un_not (t : Bool) : unV .not (.bool t) = some (.bool (!t)) := rfl
end
theorem idx_nat (len k : Nat) (h : k < len) : idx len (k : Int) = some k := by simp [idx]; omega
theorem wrap_of {x : Int} (h : -9223372036854775808 ≤ x ∧ x ≤ 9223372036854775807) : IntKind.i64.wrap x = x := by rw [IntKind.wrap_i64]; omega
theorem callV_fn (X : Ctx) (hp : Hp) (d : Nat) (g : FuncId) (cs args : List V) (h : V.dataL (args ++ cs) = true) :
    callV X hp d (.fn g cs) args = match X.Φ g (args ++ cs) with
      | some (r, bs) => if fresh hp (names (8 * d) bs) && bs.all noBox then some (V.ren (8 * d) r, .new (names (8 * d) bs)) else none
      | none => none := by
  simp only [callV, h, if_true]
  cases X.Φ g (args ++ cs) <;> rfl
theorem phi_nil (f : FuncId) (args : List V) : phi [] f args = none := rfl
theorem phi_cons (f' : FuncId) (F : List V → Option (V × List Blk)) (l : Phi) (f : FuncId) (args : List V) : phi ((f', F) :: l) f args = @selB _ (f == f') ⟨F args⟩ ⟨phi l f args⟩ := by
  simp only [phi]
  by_cases h : f = f'
  · subst h; rw [if_pos rfl, beq_self_eq_true]; rfl
  · rw [if_neg h, beq_eq_false_iff_ne.2 h]; rfl
theorem bin_eql_bool (p q : Bool) : binV .eql (.bool p) (.bool q) = none := rfl
theorem bin_neq_bool (p q : Bool) : binV .neq (.bool p) (.bool q) = none := rfl
theorem bin_eql_agg (p q : List V) : binV .eql (.agg p) (.agg q) = none := rfl
theorem bin_neq_agg (p q : List V) : binV .neq (.agg p) (.agg q) = none := rfl
theorem eqK_int (k k1 : IntKind) (a b : Int) : eqK (.int k) (.int k1 a) (.int k1 b) = some (decide (a = b)) := by simp [eqK]
theorem eqK_bool' (a b : Bool) : eqK .bool (.bool a) (.bool b) = some (a == b) := rfl
theorem eqK_str (a b : ByteArray) : eqK .str (.str a) (.str b) = some (a.toList == b.toList) := rfl
theorem gOf_bool (b : Bool) : gOf (.bool b) = some (some b) := rfl
theorem gOf_skip : gOf (.raw Go.undef) = some none := rfl
theorem g_some (b want : Bool) : ((some b : Option Bool) == some want) = (b == want) := rfl
theorem g_none (want : Bool) : ((none : Option Bool) == some want) = false := rfl
theorem eqH_eq (X : Ctx) (hp : Hp) (T : TypeId) (x y : V) : eqH X hp T x y = match eqV X T x y with | some b => some b | none => nilEq X hp T x y := rfl
theorem app_lend (l : List (Nat × V)) (h : List (Nat × Blk)) (dst : Option Nat) (v : V) (b : Nat) (k : Blk) : St.app ⟨l, h⟩ (.lend b k) dst v = ⟨putE dst v (mapA (V.scrub b (.vec b)) l), setH b k (mapA (Blk.scrub b (.vec b)) h)⟩ := rfl
theorem callW_fn (X : Ctx) (hp : Hp) (d : Nat) (g : FuncId) (cs args : List V) : callW X hp d (.fn g cs) args = match X.Λ g with | some (true, L) => takeV L hp args cs | some (false, L) => lendV L hp args cs | none => callV X hp d (.fn g cs) args := rfl
theorem postL_ret (T : TypeId) (sz : Nat) (es' : List V) (σ : St) : postL T sz es' .ret σ = (look 1000000 σ.hp = some (.vec T sz es')) := rfl
theorem postL_normal (T : TypeId) (sz : Nat) (es' : List V) (σ : St) : postL T sz es' .normal σ = (look 1000000 σ.hp = some (.vec T sz es')) := rfl
/-! ### A statement's arguments, as data -/
def aggT (P : Program) (t : TypeId) : Bool := match P.underlying t with
  | some (.struct _) => true
  | _ => false
/-- fields lie end to end -/
def lay (P : Program) (total : Nat) : Nat → List Field → Bool
  | o, [] => o == total
  | o, f :: fs => f.offset == o && lay P total (o + P.cellsOf f.type) fs
/-- types of bools, ints, strings, slices and structs -/
def gdB (P : Program) : Nat → TypeId → Bool
  | 0, _ => false
  | n + 1, t => match P.underlying t with
    | some .bool => P.cellsOf t == 1
    | some (.int _) => P.cellsOf t == 1
    | some .string => P.cellsOf t == 1
    | some (.slice e) => P.cellsOf t == 1 && gdB P n e && decide (0 < P.cellsOf e) && (aggT P e || P.cellsOf e == 1)
    | some (.struct fs) => lay P (P.cellsOf t) 0 fs.toList && fs.all fun f => gdB P n f.type
    | _ => false
/-- the cells of a value of a type, as data -/
def TyC (P : Program) : Nat → TypeId → List V → Prop
  | 0, _, _ => False
  | n + 1, t, cs => match P.underlying t with
    | some .bool => ∃ b, cs = [.bool b]
    | some (.int k) => ∃ m, cs = [.int k m] ∧ (Lit.int k m).wf = true
    | some .string => ∃ s, cs = [.str s] ∧ s.size ≤ maxLen
    | some (.slice e) => ∃ es, cs = [.row (P.cellsOf e) es] ∧ es.length ≤ maxLen ∧ ∀ x ∈ es, (if aggT P e = true then ∃ ds, x = .agg ds ∧ TyC P n e ds else TyC P n e [x])
    | some (.struct fs) => cs.length = P.cellsOf t ∧ ∀ f ∈ fs, TyC P n f.type ((cs.drop f.offset).take (P.cellsOf f.type))
    | _ => False
section
variable {H : Type} {enc : TypeId × Value → H} {P : Program} {w : World} {base : Nat} {held : Bool}
def Reads (w : World) (cs : List V) (vals : List Value) : Prop :=
  cs.length = vals.length ∧ (∀ v ∈ vals, v.oneCell' = true) ∧ ∀ (j : Nat) c v, cs[j]? = some c → vals[j]? = some v → RelD w (fun g => g < w.heap.size) c v
theorem Reads.one {c : V} {v : Value} (h1 : v.oneCell' = true) (h : RelD w (fun g => g < w.heap.size) c v) : Reads w [c] [v] :=
  ⟨rfl, by simpa using h1, fun j c' v' hc hv => by
    cases j with
    | zero => simp at hc hv; subst hc; subst hv; exact h
    | succ j => simp at hc⟩
theorem Reads.append {cs ds : List V} {vs us : List Value} (h : Reads w cs vs) (h' : Reads w ds us) : Reads w (cs ++ ds) (vs ++ us) := by
  refine ⟨by simp [h.1, h'.1], fun v hv => ?_, fun j c v hc hv => ?_⟩
  · rcases List.mem_append.1 hv with hv | hv
    · exact h.2.1 v hv
    · exact h'.2.1 v hv
  · by_cases hj : j < cs.length
    · rw [List.getElem?_append_left hj] at hc
      rw [List.getElem?_append_left (by have := h.1; omega)] at hv
      exact h.2.2 j c v hc hv
    · rw [List.getElem?_append_right (by omega)] at hc
      rw [List.getElem?_append_right (by have := h.1; omega), ← h.1] at hv
      exact h'.2.2 _ c v hc hv
theorem fields_read {n : Nat} {total : Nat} {vals : List Value} (hl : vals.length = total) : ∀ (fs : List Field) (o : Nat), lay P total o fs = true → o ≤ total →
    (∀ f ∈ fs, ∃ p, Reads w p ((vals.drop f.offset).take (P.cellsOf f.type)) ∧ TyC P n f.type p ∧ p.length = P.cellsOf f.type) →
    ∃ cs, Reads w cs (vals.drop o) ∧ ∀ f ∈ fs, o ≤ f.offset ∧ TyC P n f.type ((cs.drop (f.offset - o)).take (P.cellsOf f.type))
  | [], o, h, ho, _ => by
    simp only [lay, beq_iff_eq] at h
    subst h
    exact ⟨[], ⟨by simp [hl], by simp [← hl], by simp⟩, by simp⟩
  | f :: fs, o, h, ho, hf => by
    simp only [lay, Bool.and_eq_true, beq_iff_eq] at h
    obtain ⟨h0, h1⟩ := h
    obtain ⟨p, hp, ht, hpl⟩ := hf f (by simp)
    rw [h0] at hp
    have hps := hp.1
    rw [hpl, List.length_take, List.length_drop, hl] at hps
    have hle : o + P.cellsOf f.type ≤ total := by omega
    obtain ⟨cs, hcs, hts⟩ := fields_read hl fs _ h1 hle fun f' hf' => hf f' (List.mem_cons_of_mem _ hf')
    refine ⟨p ++ cs, ?_, ?_⟩
    · have := hp.append hcs
      rwa [← List.drop_drop, List.take_append_drop] at this
    · intro f' hf'
      rcases List.mem_cons.1 hf' with rfl | hf'
      · refine ⟨by omega, ?_⟩
        rw [h0, Nat.sub_self, List.drop_zero, ← hpl, List.take_left]
        exact ht
      · obtain ⟨h2, h3⟩ := hts f' hf'
        refine ⟨by omega, ?_⟩
        rw [List.drop_append, List.drop_eq_nil_of_le (by omega), List.nil_append, hpl, show f'.offset - o - P.cellsOf f.type = f'.offset - (o + P.cellsOf f.type) by omega]
        exact h3
theorem trod_len {m : Nat} {t : TypeId} {vals : List Value} {fuel : Nat} {x : DataW H × List MemPlace} (hg : gdB P m t = true) (h : DataW.trod enc P w base (fun _ => true) held fuel t vals = some x) : vals.length = P.cellsOf t := by
  cases m with
  | zero => cases hg
  | succ m =>
    unfold gdB at hg
    cases hu : P.underlying t with
    | none => rw [hu] at hg; cases hg
    | some d =>
      rw [hu] at hg
      cases d <;> simp only [Bool.false_eq_true, Bool.and_eq_true, beq_iff_eq] at hg
      case bool => obtain ⟨b, rfl, _⟩ := DataW.trod_bool hu h; exact hg.symm
      case int k => obtain ⟨n, rfl, _, hw⟩ := DataW.trod_int hu h; exact hg.symm
      case string => obtain ⟨s, rfl, _, hs⟩ := DataW.trod_string hu h; exact hg.symm
      case struct fs => obtain ⟨xs, n, _, _, hl, _⟩ := DataW.trod_struct hu h; exact hl
      case slice e =>
        rcases DataW.trod_slice hu h with ⟨rfl, _⟩ | ⟨a, len, cap, elems, rest, n, _, rfl, _⟩ <;> exact hg.1.1.1.symm
theorem trod_read : ∀ (m : Nat) (t : TypeId) (vals : List Value) (fuel : Nat) (x : DataW H × List MemPlace), gdB P m t = true → DataW.trod enc P w base (fun _ => true) held fuel t vals = some x →
    ∃ cs, Reads w cs vals ∧ TyC P m t cs
  | 0, _, _, _, _, hg, _ => by cases hg
  | m + 1, t, vals, fuel, x, hg, h => by
    unfold gdB at hg
    unfold TyC
    cases hu : P.underlying t with
    | none => rw [hu] at hg; cases hg
    | some d =>
      rw [hu] at hg
      cases d <;> simp only [Bool.false_eq_true] at hg ⊢
      case bool =>
        obtain ⟨b, rfl, _⟩ := DataW.trod_bool hu h
        exact ⟨_, Reads.one rfl (.bool b), b, rfl⟩
      case int k =>
        obtain ⟨n, rfl, _, hw⟩ := DataW.trod_int hu h
        exact ⟨_, Reads.one rfl (.int k n), n, rfl, hw⟩
      case string =>
        obtain ⟨s, rfl, _, hs⟩ := DataW.trod_string hu h
        exact ⟨_, Reads.one rfl (.str s), s, rfl, hs⟩
      case struct fs =>
        simp only [Bool.and_eq_true] at hg
        obtain ⟨xs, n, _, _, hl, hxl, hf⟩ := DataW.trod_struct hu h
        obtain ⟨cs, hr, ht⟩ := fields_read (n := m) hl fs.toList 0 hg.1 (Nat.zero_le _) fun f hfm => by
          obtain ⟨i, hi⟩ := Array.getElem?_of_mem (by simpa using hfm : f ∈ fs)
          have hti := hf i f hi
          have hlt : i < xs.length := by rw [hxl]; exact (Array.getElem?_eq_some_iff.1 hi).1
          rw [List.getElem?_eq_getElem hlt] at hti
          obtain ⟨p, hp, htp⟩ := trod_read m f.type _ n _ (Array.all_eq_true_iff_forall_mem.1 hg.2 f (by simpa using hfm)) hti
          refine ⟨p, hp, htp, ?_⟩
          rw [hp.1]
          exact trod_len (Array.all_eq_true_iff_forall_mem.1 hg.2 f (by simpa using hfm)) hti
        refine ⟨cs, by simpa using hr, by rw [hr.1]; simpa using hl, fun f hfm => ?_⟩
        have := (ht f (by simpa using hfm)).2
        simpa using this
      case slice e =>
        simp only [Bool.and_eq_true, decide_eq_true_eq] at hg
        obtain ⟨⟨⟨_, hge⟩, hpos⟩, hone⟩ := hg
        rcases DataW.trod_slice hu h with ⟨rfl, _⟩ | ⟨a, len, cap, elems, rest, n, _, rfl, _, hb, hl, hm, hlen, hel, hsp, _⟩
        · exact ⟨_, Reads.one rfl (.nil _ none), [], rfl, Nat.zero_le _, by simp⟩
        · by_cases hc : cap = 0
          · have h0 : len = 0 := by omega
            rw [hc, h0]
            exact ⟨_, Reads.one rfl (.nil _ _), [], rfl, Nat.zero_le _, by simp⟩
          · have spot : a.spot = none ∧ a.block < w.heap.size := by
              have fin : ∀ (z : List Value), w.cells? base (a.add (0 * P.cellsOf e)) (P.cellsOf e) = some z → a.spot = none ∧ a.block < w.heap.size := fun z hz => by
                obtain ⟨_, hzl, hzc⟩ := World.cells?_some hz
                have h1 := hzc 0 hpos
                rw [List.getElem?_eq_getElem (by omega)] at h1
                have h2 := World.cell?_spot h1
                have h3 := block_lt_of_cell h1
                rw [Nat.zero_mul] at h2 h3
                exact ⟨by simpa [Addr.add] using h2, by simpa [Addr.add] using h3⟩
              by_cases hl0 : len = 0
              · obtain ⟨hrl, hr⟩ := hsp rfl
                have := hr 0 (by omega)
                rw [hl0, Nat.zero_add, List.getElem?_eq_getElem (by omega), Option.bind_eq_some_iff] at this
                obtain ⟨z, hz, _⟩ := this
                exact fin z hz
              · have := hel 0 (by omega)
                rw [List.getElem?_eq_getElem (by omega), Option.bind_eq_some_iff] at this
                obtain ⟨z, hz, _⟩ := this
                exact fin z hz
            -- element by element
            have each : ∀ i, i < len → ∃ (ev : V) (val : Value), val.cells.size = P.cellsOf e ∧ (∀ u ∈ val.cells.toList, u.oneCell' = true) ∧ w.rangeAt a.block (a.off + i * P.cellsOf e) val.cells.toList ∧
                RelD w (fun g => g < w.heap.size) ev val ∧ (if aggT P e = true then ∃ ds, ev = .agg ds ∧ TyC P m e ds else TyC P m e [ev]) := fun i hi => by
              have := hel i hi
              rw [List.getElem?_eq_getElem (by omega), Option.bind_eq_some_iff] at this
              obtain ⟨z, hz, hzt⟩ := this
              obtain ⟨ds, hr, htc⟩ := trod_read m e z n _ hge hzt
              obtain ⟨_, hzl, hzc⟩ := World.cells?_some hz
              have hra : w.rangeAt a.block (a.off + i * P.cellsOf e) z := fun j u hj => by
                have hjl := (List.getElem?_eq_some_iff.1 hj).1
                have := hzc j (by omega)
                rw [hj] at this
                obtain ⟨ab, ao, as⟩ := a
                obtain ⟨rfl, _⟩ := spot
                rw [Go.WideShapes.add_plain, Go.WideShapes.add_plain] at this
                exact this
              by_cases hag : aggT P e = true
              · refine ⟨.agg ds, .agg z.toArray, by simpa [Value.cells] using hzl, by simpa [Value.cells] using hr.2.1, by simpa [Value.cells] using hra, .agg ds z hr.1 hr.2.1 hr.2.2, ?_⟩
                rw [if_pos hag]
                exact ⟨ds, rfl, htc⟩
              · have h1 : P.cellsOf e = 1 := by
                  rcases Bool.or_eq_true _ _ ▸ hone with h | h
                  · exact absurd h hag
                  · simpa using h
                match z, ds, hr with
                | [u], [c], hr =>
                  have hu1 := hr.2.1 u (by simp)
                  refine ⟨c, u, by rw [cells_one hu1, h1]; rfl, by rw [cells_one hu1]; simpa using hu1, by rw [cells_one hu1]; exact hra, hr.2.2 0 c u rfl rfl, ?_⟩
                  rw [if_neg hag]
                  exact htc
                | [], _, _ => simp at hzl; omega
                | _ :: _ :: _, _, _ => simp at hzl; omega
                | [u], [], hr => have := hr.1; simp at this
                | [u], _ :: _ :: _, hr => have := hr.1; simp at this
            have hex : ∀ k, k ≤ len → ∃ (es : List V) (vs : List Value), es.length = k ∧ vs.length = k ∧ (∀ v ∈ vs, v.cells.size = P.cellsOf e) ∧ (∀ v ∈ vs, ∀ u ∈ v.cells.toList, u.oneCell' = true) ∧
                (∀ (i : Nat) v, vs[i]? = some v → w.rangeAt a.block (a.off + i * P.cellsOf e) v.cells.toList) ∧ (∀ (i : Nat) ev v, es[i]? = some ev → vs[i]? = some v → RelD w (fun g => g < w.heap.size) ev v) ∧
                (∀ x ∈ es, if aggT P e = true then ∃ ds, x = .agg ds ∧ TyC P m e ds else TyC P m e [x]) := by
              intro k
              induction k with
              | zero => intro _; exact ⟨[], [], rfl, rfl, by simp, by simp, by simp, by simp, by simp⟩
              | succ k ih =>
                intro hk
                obtain ⟨es, vs, h1, h2, h3, h4, h5, h6, h7⟩ := ih (by omega)
                obtain ⟨ev, val, g1, g2, g3, g4, g5⟩ := each k (by omega)
                refine ⟨es ++ [ev], vs ++ [val], by simp [h1], by simp [h2], ?_, ?_, ?_, ?_, ?_⟩
                · intro v hv
                  rcases List.mem_append.1 hv with hv | hv
                  · exact h3 v hv
                  · simp at hv; subst hv; exact g1
                · intro v hv
                  rcases List.mem_append.1 hv with hv | hv
                  · exact h4 v hv
                  · simp at hv; subst hv; exact g2
                · intro i v hv
                  by_cases hi : i < vs.length
                  · rw [List.getElem?_append_left hi] at hv; exact h5 i v hv
                  · rw [List.getElem?_append_right (by omega)] at hv
                    have : i - vs.length = 0 := by
                      have := (List.getElem?_eq_some_iff.1 hv).1; simp at this; omega
                    rw [this] at hv
                    simp at hv
                    subst hv
                    rw [show i = k by omega]
                    exact g3
                · intro i ev' v he hv
                  by_cases hi : i < vs.length
                  · rw [List.getElem?_append_left hi] at hv
                    rw [List.getElem?_append_left (by omega)] at he
                    exact h6 i ev' v he hv
                  · rw [List.getElem?_append_right (by omega)] at hv he
                    have h0 : i - vs.length = 0 := by
                      have := (List.getElem?_eq_some_iff.1 hv).1; simp at this; omega
                    rw [h0] at hv
                    rw [show i - es.length = 0 by omega] at he
                    simp at hv he
                    subst hv; subst he
                    exact g4
                · intro x hx
                  rcases List.mem_append.1 hx with hx | hx
                  · exact h7 x hx
                  · simp at hx; subst hx; exact g5
            obtain ⟨es, vs, h1, h2, h3, h4, h5, h6, h7⟩ := hex len (Nat.le_refl _)
            refine ⟨_, Reads.one rfl ?_, es, rfl, by omega, h7⟩
            have := RelD.row (w := w) (ok := fun g => g < w.heap.size) (P.cellsOf e) es a.block a.off cap vs spot.2 (by omega) hm (by omega) h3 h4 h5 h6
            rw [h1] at this
            obtain ⟨ab, ao, as⟩ := a
            obtain ⟨rfl, _⟩ := spot
            exact this
/-- an argument, as data -/
def TyV (P : Program) (m : Nat) (t : TypeId) (c : V) : Prop := if aggT P t = true then ∃ ds, c = .agg ds ∧ TyC P m t ds else TyC P m t [c]
theorem arg_read {base' m : Nat} {t : TypeId} {v : Value} {d : DataW H} {p : List MemPlace} (hg : gdB P m t = true) (hok : Value.okWide P w .any base' t v) (h : DataW.Trod enc P w base (fun _ => true) held t v d p) :
    ∃ c, RelD w (fun g => g < w.heap.size) c v ∧ TyV P m t c := by
  obtain ⟨fuel, h⟩ := h
  obtain ⟨cs, hr, ht⟩ := trod_read m t _ fuel _ hg h
  unfold TyV
  cases m with
  | zero => cases hg
  | succ m =>
    unfold gdB at hg
    unfold Value.okWide at hok
    cases hu : P.underlying t with
    | none => rw [hu] at hg; cases hg
    | some D =>
      rw [hu] at hg hok
      by_cases hag : aggT P t = true
      · simp only [hag, if_true]
        cases D <;> first | (simp [aggT, hu] at hag; done) | skip
        obtain ⟨zs, rfl, _⟩ := hok
        obtain ⟨zs⟩ := zs
        exact ⟨.agg cs, .agg cs zs (by simpa [Value.cells] using hr.1) (by simpa [Value.cells] using hr.2.1) (by simpa [Value.cells] using hr.2.2), cs, rfl, ht⟩
      · simp only [hag, Bool.false_eq_true, if_false]
        have hone : v.cells = #[v] := by
          cases v <;> first | rfl | skip
          exfalso
          cases D <;> first | (simp [aggT, hu] at hag; done) | (cases hg; done) | (simp [Cell.okWide, hu, Cell.ok] at hok; done)
        rw [hone] at hr
        match cs, hr with
        | [c], hr => exact ⟨c, hr.2.2 0 c v rfl rfl, ht⟩
        | [], hr => have := hr.1; simp at this
        | _ :: _ :: _, hr => have := hr.1; simp at this
end
section
variable {P : Program}
theorem ty_one {m : Nat} {t : TypeId} {c : V} {d : TypeDesc} (h : TyV P m t c) (hu : P.underlying t = some d) (hd : ∀ fs, d ≠ .struct fs) : TyC P m t [c] := by
  unfold TyV at h
  have : aggT P t = false := by unfold aggT; rw [hu]; cases d <;> first | rfl | exact absurd rfl (hd _)
  rw [this] at h
  simpa using h
theorem ty_int {m : Nat} {t : TypeId} {c : V} {k : IntKind} (h : TyV P (m + 1) t c) (hu : P.underlying t = some (.int k)) : ∃ n, c = .int k n ∧ (Lit.int k n).wf = true := by
  have h := ty_one h hu (fun _ => by simp)
  unfold TyC at h
  rw [hu] at h
  obtain ⟨n, h1, h2⟩ := h
  exact ⟨n, by simpa using h1, h2⟩
theorem ty_bool {m : Nat} {t : TypeId} {c : V} (h : TyV P (m + 1) t c) (hu : P.underlying t = some .bool) : ∃ b, c = .bool b := by
  have h := ty_one h hu (fun _ => by simp)
  unfold TyC at h
  rw [hu] at h
  obtain ⟨n, h1⟩ := h
  exact ⟨n, by simpa using h1⟩
theorem ty_str {m : Nat} {t : TypeId} {c : V} (h : TyV P (m + 1) t c) (hu : P.underlying t = some .string) : ∃ s, c = .str s ∧ s.size ≤ maxLen := by
  have h := ty_one h hu (fun _ => by simp)
  unfold TyC at h
  rw [hu] at h
  obtain ⟨n, h1, h2⟩ := h
  exact ⟨n, by simpa using h1, h2⟩
theorem ty_slice {m : Nat} {t e : TypeId} {c : V} (h : TyV P (m + 1) t c) (hu : P.underlying t = some (.slice e)) : ∃ es, c = .row (P.cellsOf e) es ∧ es.length ≤ maxLen ∧ ∀ x ∈ es, TyV P m e x := by
  have h := ty_one h hu (fun _ => by simp)
  unfold TyC at h
  rw [hu] at h
  obtain ⟨es, h1, h2, h3⟩ := h
  exact ⟨es, by simpa using h1, h2, h3⟩
theorem ty_struct {m : Nat} {t : TypeId} {c : V} {fs : Array Field} (h : TyV P (m + 1) t c) (hu : P.underlying t = some (.struct fs)) : ∃ cs, c = .agg cs ∧ cs.length = P.cellsOf t ∧ ∀ f ∈ fs, TyC P m f.type ((cs.drop f.offset).take (P.cellsOf f.type)) := by
  unfold TyV at h
  have : aggT P t = true := by unfold aggT; rw [hu]
  rw [if_pos this] at h
  obtain ⟨cs, h1, h2⟩ := h
  unfold TyC at h2
  rw [hu] at h2
  exact ⟨cs, h1, h2.1, h2.2⟩
theorem map_of_all {α : Type} {f : α → V} {p : α → Prop} : ∀ {es : List V}, (∀ x ∈ es, ∃ n, x = f n ∧ p n) → ∃ l : List α, es = l.map f ∧ ∀ n ∈ l, p n
  | [], _ => ⟨[], rfl, by simp⟩
  | e :: es, h => by
    obtain ⟨n, rfl, hn⟩ := h e (by simp)
    obtain ⟨l, rfl, hl⟩ := map_of_all fun x hx => h x (List.mem_cons_of_mem _ hx)
    exact ⟨n :: l, rfl, fun m hm => by
      rcases List.mem_cons.1 hm with rfl | hm
      · exact hn
      · exact hl m hm⟩
/-- a row of ints -/
theorem ty_ints {m : Nat} {t e : TypeId} {c : V} {k : IntKind} (h : TyV P (m + 2) t c) (hu : P.underlying t = some (.slice e)) (he : P.underlying e = some (.int k)) (h1 : P.cellsOf e = 1) :
    ∃ l : List Int, c = .row 1 (l.map (V.int k)) ∧ ∀ n ∈ l, (Lit.int k n).wf = true := by
  obtain ⟨es, rfl, _, hes⟩ := ty_slice h hu
  obtain ⟨l, rfl, hl⟩ := map_of_all fun x hx => ty_int (hes x hx) he
  exact ⟨l, by rw [h1], hl⟩
theorem rels_nil {w : World} {ok : Nat → Prop} : ∀ (j : Nat) (c : V) (v : Value), ([] : List V)[j]? = some c → ([] : List Value)[j]? = some v → RelD w ok c v := fun j c v h => by simp at h
theorem rels_cons {w : World} {ok : Nat → Prop} {c0 : V} {v0 : Value} {cs : List V} {vs : List Value} (h : RelD w ok c0 v0) (hs : ∀ (j : Nat) c v, cs[j]? = some c → vs[j]? = some v → RelD w ok c v) :
    ∀ (j : Nat) c v, (c0 :: cs)[j]? = some c → (v0 :: vs)[j]? = some v → RelD w ok c v
  | 0, c, v, hc, hv => by simp at hc hv; subst hc; subst hv; exact h
  | j + 1, c, v, hc, hv => hs j c v (by simpa using hc) (by simpa using hv)
end
end Go.Ev
