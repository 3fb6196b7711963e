/-
  The register machine (Ev), its last part: regions that draw, functions, rules.
-/
import Derived.Test.YtcmpjagpggjfiaaGreatDoorT06
set_option linter.unusedVariables false
namespace Go.Ev
open Go Go.RowKit
section
variable {P : Program} {X : Ctx} {J : World → Prop} {ok : Nat → Prop} {w0 : World} {F : Fr} {n : Nat}
def Sims (J : World → Prop) (ok : Nat → Prop) (w0 : World) (F : Fr) (n : Nat) (σ : St) (a : Act) (w : World) : Prop := ∃ ρ, Sim J ok w0 F n σ a w ρ
theorem op_wp (hT : TOkX P X) (hΛ : LamAll P J X) (hΦ : ∀ g args r bs, X.Φ g args = some (r, bs) → SoundAt P J g args r bs) (hJJ : Stable J) {σ : St} {a : Act} {w : World} {ρ : Nat → Option Value} (hs : Sim J ok w0 F n σ a w ρ) {o : Oper}
  {K : V × Eff → Prop} (h : onSome (evalOp X σ.e σ.h (o.dst.getD 0) o.op) K) {KW : Act → World → Prop} {Q : Exit → Act → World → Prop}
  (hK : ∀ v eff w' ρ' val, K (v, eff) → evalOp X σ.e σ.h (o.dst.getD 0) o.op = some (v, eff) → Step ok F.B w ρ w' ρ' (eff.hp σ.h) eff.tr eff.tc → Rel w' (okAt ok F.B ρ' w') ρ' v val → KW (a.put o.dst val) w') : o.wp P a w KW Q := by
 unfold onSome at h
 split at h
 ·rename_i p hp
  obtain ⟨v, eff⟩ := p
  exact op_sound hT hΛ hΦ (fun w' hb => hs.j w' (hs.below.trans hb)) hs.inv hs.opd hp KW Q fun w' ρ' val hst hr => hK v eff w' ρ' val h hp hst hr
 ·exact h.elim
theorem wanted_of {w : World} {ok' : Nat → Prop} {ρ : Nat → Option Value} {ops : Array Oper} {a : Act} {dst : Option Nat} {op : Op} {ty : TypeId} {pos : String} {after : Array Edge} {j t : Nat} {want : Bool} {x : V} {g : Option Bool} (ht : guardT ops.toList j = some t) (hg : gOf x = some g) (hr : Rel w ok' ρ x (a.tmps.getD t Go.undef)) :
  Region.wanted ⟨dst, op, ty, pos, after, some (j, want)⟩ (yielded ops a.tmps) = (g == some want) := by
 have hy : yielded ops a.tmps j = g := by
  unfold yielded
  have : ((ops[j]?).bind (·.dst)) = some t := by unfold guardT at ht; simpa using ht
  rw [this]
  simp only [Option.bind_some]
  unfold gOf at hg
  split at hg
  ·rename_i b
   have hval := hr.bool_inv
   simp only [Option.some.injEq] at hg
   subst hg
   have hlt : t < a.tmps.size := by
    rcases Nat.lt_or_ge t a.tmps.size with hlt | hge
    ·exact hlt
    ·simp [Array.getD_eq_getD_getElem?, Array.getElem?_eq_none hge, Go.undef] at hval
   rw [Array.getElem?_eq_getElem hlt]
   have : a.tmps[t] = .bool b := by simpa [Array.getD_eq_getD_getElem?, Array.getElem?_eq_getElem hlt] using hval
   rw [this]
  ·rename_i v
   have hval : a.tmps.getD t Go.undef = v := by
    cases hr with
    | ro h => cases h; rfl
   split at hg
   ·cases hg
   ·rename_i hnb
    simp only [Option.some.injEq] at hg
    subst hg
    cases hq : a.tmps[t]? with
    | none => rfl
    | some y =>
     have : y = v := by rw [← hval]; simp [Array.getD_eq_getD_getElem?, hq]
     subst this
     cases y <;> first | rfl | exact absurd rfl (hnb _)
  ·cases hg
 simp only [Region.wanted, hy]
theorem evOps_sound (hT : TOkX P X) (hΛ : LamAll P J X) (hΦ : ∀ g args r bs, X.Φ g args = some (r, bs) → SoundAt P J g args r bs) (hJJ : Stable J) (ops : Array Oper) {Q : Exit → Act → World → Prop} {K : St → Prop}
  (hQ : ∀ σ a w, K σ → Sims J ok w0 F n σ a w → Q .normal a w) : ∀ (os : List Oper) (k : Nat) (σ : St) (a : Act) (w : World), (∀ (j : Nat), os[j]? = ops[k + j]?) → evOps X n ops.toList os σ K → Sims J ok w0 F n σ a w →
   wpOps P ops Q (List.range' k os.length) a w
 | [], k, σ, a, w, _, h, hs => hQ σ a w h hs
 | o :: os, k, σ, a, w, hops, h, hs => by
  have hk : ops[k]? = some o := by have := hops 0; simpa using this.symm
  have hrest : ∀ (j : Nat), os[j]? = ops[k + 1 + j]? := fun j => by have := hops (j + 1); rw [show k + 1 + j = k + (j + 1) by omega]; simpa using this
  rw [List.length_cons, List.range'_succ]
  unfold wpOps
  rw [hk]
  simp only
  obtain ⟨dst, op, ty, pos, after, guard⟩ := o
  obtain ⟨ρ, hs⟩ := hs
  cases guard with
  | none =>
   have hw : Region.wanted ⟨dst, op, ty, pos, after, none⟩ (yielded ops a.tmps) = true := rfl
   rw [if_pos hw]
   left
   simp only [evOps] at h
   unfold onSome at h
   split at h
   ·rename_i σ1 hf
    obtain ⟨ρ1, hs1⟩ := hs.freezeL hf
    refine op_wp hT hΛ hΦ hJJ hs1 (o := ⟨dst, op, ty, pos, after, none⟩) h fun v eff w' ρ' val hk2 hev hst hr => ?_
    exact evOps_sound hT hΛ hΦ hJJ ops hQ os (k + 1) _ _ _ hrest hk2.2 ⟨ρ', hs1.step hk2.1 (fun b hb => evalOp_tc hev (dst_small' hk2.1 hs.small) hb) hst hr⟩
   ·exact h.elim
  | some g =>
   obtain ⟨j, want⟩ := g
   simp only [evOps] at h
   unfold onSome at h
   split at h
   ·rename_i t ht
    split at h
    ·rename_i b hb
     rw [wanted_of ht hb (hs.rel t)]
     unfold onIf at h
     split at h
     ·rename_i hbw
      rw [if_pos hbw]
      left
      refine op_wp hT hΛ hΦ hJJ hs (o := ⟨dst, op, ty, pos, after, some (j, want)⟩) h fun v eff w' ρ' val hk2 hev hst hr => ?_
      exact evOps_sound hT hΛ hΦ hJJ ops hQ os (k + 1) _ _ _ hrest hk2.2 ⟨ρ', hs.step hk2.1 (fun b hb => evalOp_tc hev (dst_small' hk2.1 hs.small) hb) hst hr⟩
     ·rename_i hbw
      rw [if_neg hbw]
      exact evOps_sound hT hΛ hΦ hJJ ops hQ os (k + 1) _ _ _ hrest h.2 ⟨ρ, hs.skip h.1⟩
    ·exact h.elim
   ·exact h.elim
theorem twoOp_tc {e : Env} {h : Hp} {d : Nat} {op : Op} {r : (V × Eff) × (V × Eff)} (ht : twoOp X e h d op = some r) {b : Nat} (hb : 1000000 ≤ b) : r.1.2.tc b = false ∧ r.2.2.tc b = false := by
 unfold twoOp at ht
 split at ht
 ·split at ht
  ·split at ht
   ·unfold tailV at ht
    split at ht
    ·split at ht
     ·split at ht
      ·split at ht
       ·split at ht
        ·split at ht
         ·rename_i hc
          obtain ⟨_, _, _, _, _, _, _, _, hlt⟩ := hc
          simp only [Option.some.injEq] at ht
          subst ht
          simp only [Eff.tc, beq_eq_false_iff_ne]
          omega
         ·cases ht
        ·cases ht
       ·cases ht
      ·cases ht
     ·cases ht
    ·cases ht
   ·cases ht
  ·cases ht
 ·cases ht
theorem sub_of_vec {B : Nat} {w : World} {ρ : Nat → Option Value} {hp : Hp} {okk : Nat → Prop} {b : Nat} {T : TypeId} {sz : Nat} {es : List V} {val : Value} (hI : Inv ok B w ρ hp) (hb : hp b = some (.vec T sz es)) (hn : 0 < es.length) (hr : Rel w okk ρ (.vec b) val) : Rel w okk ρ (.sub b sz 0 es.length) val := by
 have hrb := hr.vec_inv
 obtain ⟨sv, hsv, hpos, hown⟩ := hI.blk b _ hb
 rw [hrb] at hsv
 simp at hsv
 subst hsv
 rcases hown.form with ⟨ad0, he, rfl⟩ | ⟨g0, cap0, vs0, he, hc0, hle0, hl0, hsz0, h10, hr0, how⟩
 ·simp at hn
 subst he
 rcases how.2 with ⟨hbad, _⟩ | ⟨g3, cap3, cur, hv3, hbg, hg3, hnc, hcm3, hcs, htake⟩
 ·cases hbad
 simp only [Value.slice.injEq, Option.some.injEq, Addr.mk.injEq, and_true, true_and] at hv3
 obtain ⟨rfl, rfl⟩ := hv3
 exact .sub b sz 0 es.length g0 es.length cap0 cap0 _ hrb ⟨hn, by omega, hle0, ⟨hcm3, by omega⟩, .inr (by rw [Nat.zero_mul])⟩
theorem toSub_rel {B : Nat} {w : World} {ρ : Nat → Option Value} {hp : Hp} {okk : Nat → Prop} {v : V} {eff : Eff} {val : Value} (hI : Inv ok B w ρ (eff.hp hp)) (hn : ∀ b k, eff = .new [(b, k)] → hp b = none) (hr : Rel w okk ρ v val) : Rel w okk ρ (toSub v eff) val := by
 unfold toSub
 split
 ·split
  ·rename_i b b' T sz es hc
   obtain ⟨rfl, hl⟩ := hc
   exact sub_of_vec (T := T) hI (by simp [Eff.hp, upd]) hl hr
  ·exact hr
 ·split
  ·rename_i b b' T sz es hc
   obtain ⟨rfl, hl⟩ := hc
   exact sub_of_vec (T := T) hI (by have := hn b _ rfl; simp [Eff.hp, either, this]) hl hr
  ·exact hr
 ·exact hr
theorem evTwo_sound (hT : TOkX P X) (hΛ : LamAll P J X) (hΦ : ∀ g args r bs, X.Φ g args = some (r, bs) → SoundAt P J g args r bs) (hJJ : Stable J) (ops : Array Oper) {Q : Exit → Act → World → Prop} {K : St → Prop}
  (hQ : ∀ σ a w, K σ → Sims J ok w0 F n σ a w → Q .normal a w) : ∀ (os : List Oper) (l : List (List Nat)) (k : Nat) (σ : St) (a : Act) (w : World), (∀ (j : Nat), os[j]? = ops[k + j]?) → evTwo X n ops.toList os l σ K → Sims J ok w0 F n σ a w →
   wpOps P ops Q (List.range' k os.length) a w
 | [], l, k, σ, a, w, _, h, hs => by cases l <;> exact h.elim
 | o :: os, l, k, σ, a, w, hops, h, hs => by
  have hk : ops[k]? = some o := by have := hops 0; simpa using this.symm
  have hrest : ∀ (j : Nat), os[j]? = ops[k + 1 + j]? := fun j => by have := hops (j + 1); rw [show k + 1 + j = k + (j + 1) by omega]; simpa using this
  rw [List.length_cons, List.range'_succ]
  unfold wpOps
  rw [hk]
  simp only
  obtain ⟨dst, op, ty, pos, after, guard⟩ := o
  obtain ⟨ρ, hs⟩ := hs
  cases guard with
  | some g => cases l <;> exact h.elim
  | none =>
   have hw : Region.wanted ⟨dst, op, ty, pos, after, none⟩ (yielded ops a.tmps) = true := rfl
   rw [if_pos hw]
   left
   cases l with
   | cons x l =>
    simp only [evTwo] at h
    unfold onSome at h
    split at h
    ·rename_i σ1 hf
     obtain ⟨ρ1, hs1⟩ := hs.freezeL hf
     refine op_wp hT hΛ hΦ hJJ hs1 (o := ⟨dst, op, ty, pos, after, none⟩) h fun v eff w' ρ' val hk2 hev hst hr => ?_
     exact evTwo_sound hT hΛ hΦ hJJ ops hQ os l (k + 1) _ _ _ hrest hk2.2 ⟨ρ', hs1.step hk2.1 (fun b hb => evalOp_tc hev (dst_small' hk2.1 hs.small) hb) hst hr⟩
    ·exact h.elim
   | nil =>
    simp only [evTwo] at h
    unfold onSome at h
    split at h
    ·rename_i σ1 hf
     obtain ⟨ρ1, hs1⟩ := hs.freezeL hf
     unfold onTwo at h
     split at h
     ·rename_i r htw
      obtain ⟨p, q⟩ := r
      have hop : ∃ c, op = .call c := by
       unfold twoOp at htw
       split at htw
       ·exact ⟨_, rfl⟩
       ·cases htw
      obtain ⟨c, rfl⟩ := hop
      rcases os_tail (o := ⟨dst, .call c, ty, pos, after, none⟩) hT.1 hs1.inv hs1.opd rfl htw with hO | hO
      ·exact hO _ Q fun w' ρ' val hst hr => evOps_sound hT hΛ hΦ hJJ ops hQ os (k + 1) _ _ _ hrest h.2.1 ⟨ρ', hs1.step h.1 (fun b hb => (twoOp_tc htw hb).1) hst hr⟩
      ·exact hO _ Q fun w' ρ' val hst hr => evOps_sound hT hΛ hΦ hJJ ops hQ os (k + 1) _ _ _ hrest h.2.2 ⟨ρ', hs1.step h.1 (fun b hb => (twoOp_tc htw hb).2) hst hr⟩
     ·refine op_wp hT hΛ hΦ hJJ hs1 (o := ⟨dst, op, ty, pos, after, none⟩) h fun v eff w' ρ' val hk2 hev hst hr => ?_
      exact evOps_sound hT hΛ hΦ hJJ ops hQ os (k + 1) _ _ _ hrest hk2.2 ⟨ρ', hs1.step hk2.1 (fun b hb => evalOp_tc hev (dst_small' hk2.1 hs.small) hb) hst (toSub_rel hst.inv (fun b k hk => evalOp_new hev (by rw [show eff = .new [(b, k)] from hk]; simp [Eff.has])) hr)⟩
    ·exact h.elim
end
section
variable {P : Program} {X : Ctx} {J : World → Prop} {ok : Nat → Prop} {w0 : World} {F : Fr} {n : Nat} {ops : Array Oper} {m : Nat}
theorem drB_edges (hB : drB ops m = true) {i : Nat} {o : Oper} (hi : ops[i]? = some o) : ∀ e ∈ o.after, Region.binds .any e = true → e.on < i := by
 unfold drB at hB
 simp only [Bool.and_eq_true] at hB
 have h1 := List.all_eq_true.1 hB.1.1 i (List.mem_range.2 (Array.getElem?_eq_some_iff.1 hi).1)
 simp only [hi] at h1
 intro e he hb
 have := Array.all_eq_true_iff_forall_mem.1 h1 e he
 simp only [Bool.or_eq_true, hb, Bool.not_true, Bool.false_eq_true, false_or, decide_eq_true_eq] at this
 exact this
theorem drB_pair (hB : drB ops m = true) {i j : Nat} {oi oj : Oper} (hi : ops[i]? = some oi) (hj : ops[j]? = some oj) (him : i < m) (hjm : j < m) (hij : i < j) (hw : Region.waitsFor .any ops j i = false) : oi.apart ops oj = true := by
 unfold drB at hB
 simp only [Bool.and_eq_true] at hB
 have h1 := List.all_eq_true.1 (List.all_eq_true.1 hB.1.2 i (List.mem_range.2 him)) j (List.mem_range.2 hjm)
 simp only [hi, hj, hw, Bool.or_false, Bool.or_eq_true, decide_eq_true_eq] at h1
 rcases h1 with h1 | h1
 ·omega
 ·exact h1
theorem drB_tail (hB : drB ops m = true) : m = ops.size ∨ (m < ops.size ∧ Region.sinkB .any ops m = true ∧ Region.chainB .any ops m = true) := by
 unfold drB at hB
 simp only [Bool.and_eq_true, Bool.or_eq_true, beq_iff_eq, decide_eq_true_eq] at hB
 rcases hB.2 with h | h
 ·exact .inl h
 ·exact .inr ⟨h.1.1, h.1.2, h.2⟩
theorem ready_not_waits {listed : Array Bool} {i j : Nat} (hj : j ∈ Region.ready .any ops listed) (hi : listed.getD i true = false) : Region.waitsFor .any ops j i = false := by
 cases hw : Region.waitsFor .any ops j i with
 | false => rfl
 | true =>
  exfalso
  obtain ⟨oj, hoj, e, he, hb, hon⟩ := Region.waitsFor_spec hw
  obtain ⟨_, o, ho, hall⟩ := mem_ready.1 hj
  have : o = oj := Option.some.inj (ho.symm.trans hoj)
  subst this
  have h2 := hall e he hb
  rw [hon, getD_both hi] at h2
  cases h2
theorem tail_not (hB : drB ops m = true) {listed : Array Bool} (inv : HeadInv .any ops m listed) {i : Nat} (hi : i < m) (hun : listed.getD i true = false) {j : Nat} (hj : j ∈ Region.ready .any ops listed) : j < m := by
 rcases Nat.lt_or_ge j m with h | h
 ·exact h
 ·exfalso
  rcases drB_tail hB with rfl | ⟨hlt, hs, hc⟩
  ·obtain ⟨_, o, ho, _⟩ := mem_ready.1 hj
   have := (Array.getElem?_eq_some_iff.1 ho).1
   omega
  ·exact tail_waits hs hc hlt inv _ i rfl hi hun j h hj
theorem op_wpF (hT : TOkX P X) (hΛ : LamAll P J X) (hΦ : ∀ g args r bs, X.Φ g args = some (r, bs) → SoundAt P J g args r bs) (hJJ : Stable J) {s : FS} {a : Act} {w : World} {ρ : Nat → Option Value} (hs : SimF J ok w0 F n s a w ρ) {o : Oper} {v : V} {eff : Eff}
  (h : evalOp X s.e s.h (o.dst.getD 0) o.op = some (v, eff)) {KW : Act → World → Prop} {Q : Exit → Act → World → Prop}
  (hK : ∀ w' ρ' val, Step ok F.B w ρ w' ρ' (eff.hp s.h) eff.tr eff.tc → Rel w' (okAt ok F.B ρ' w') ρ' v val → KW (a.put o.dst val) w') : o.wp P a w KW Q :=
 op_sound hT hΛ hΦ (fun w' hb => hs.j w' (hs.below.trans hb)) hs.inv hs.opd h KW Q fun w' ρ' val hst hr => hK w' ρ' val hst hr
theorem yd_wp (hT : TOkX P X) (hΛ : LamAll P J X) (hΦ : ∀ g args r bs, X.Φ g args = some (r, bs) → SoundAt P J g args r bs) (hJJ : Stable J) {s : FS} {a : Act} {w : World} {ρ : Nat → Option Value} (hs : SimF J ok w0 F n s a w ρ) {j : Nat} {o : Oper} (hj : ops[j]? = some o) {v : V} {eff : Eff}
  (hy : Yd X ops.toList o s v eff) (hd : dstOk n o.dst) {KW : Act → World → Prop} {Q : Exit → Act → World → Prop} (hK : ∀ a' w' ρ', SimF J ok w0 F n (s.put o.dst v eff) a' w' ρ' → KW a' w') : wpOp P ops Q j KW a w := by
 obtain ⟨hm, hy⟩ := hy
 unfold wpOp
 simp only [hj]
 obtain ⟨dst, op, ty, pos, after, guard⟩ := o
 have run : evalOp X s.e s.h (dst.getD 0) op = some (v, eff) → Oper.wp P ⟨dst, op, ty, pos, after, guard⟩ a w KW Q := fun h => op_wpF hT hΛ hΦ hJJ hs (o := ⟨dst, op, ty, pos, after, guard⟩) h fun w' ρ' val hst hr => hK _ _ _ (hs.step hd hm (fun b hb => evalOp_tc h (dst_small' hd hs.small) hb) hst hr)
 cases guard with
 | none => exact .inl (run hy)
 | some g =>
  obtain ⟨k, want⟩ := g
  obtain ⟨t, b, ht, hb, h⟩ := hy
  rw [wanted_of ht hb (hs.rel t)]
  split at h
  ·rename_i hc
   rw [if_pos hc]
   exact .inl (run h)
  ·rename_i hc
   rw [if_neg hc]
   obtain ⟨rfl, rfl⟩ := h
   exact hK _ _ _ (hs.step hd rfl (fun _ _ => rfl) (Step.refl hs.inv) (.ro (.raw _)))
theorem head_sound (hT : TOkX P X) (hΛ : LamAll P J X) (hΦ : ∀ g args r bs, X.Φ g args = some (r, bs) → SoundAt P J g args r bs) (hJJ : Stable J) (hB : drB ops m = true) (hm : m ≤ ops.size) {Q : Exit → Act → World → Prop} (g : Nat) {s' : FS}
  (hend : ∀ listed a w ρ, SimF J ok w0 F n s' a w ρ → HeadInv .any ops m listed → (∀ i, i < m → listed.getD i true = true) → wpAny P .any ops Q g listed a w) :
  ∀ (f : Nat) (rem : List Nat), rem.length = f → ∀ (listed : Array Bool) (s : FS) (a : Act) (w : World) (ρ : Nat → Option Value), SimF J ok w0 F n s a w ρ → Rn X n ops rem s s' → rem.Pairwise (· < ·) → (∀ i, i ∈ rem ↔ i < m ∧ listed.getD i true = false) → HeadInv .any ops m listed →
   wpAny P .any ops Q (f + g) listed a w
 | 0, rem, hl, listed, s, a, w, ρ, hs, hr, hp, hin, inv => by
  have : rem = [] := List.eq_nil_of_length_eq_zero hl
  subst this
  have hr : s = s' := hr
  subst hr
  rw [Nat.zero_add]
  refine hend listed a w ρ hs inv fun i hi => ?_
  cases hc : listed.getD i true with
  | true => rfl
  | false => exact absurd ((hin i).2 ⟨hi, hc⟩) (by simp)
 | f + 1, rem, hl, listed, s, a, w, ρ, hs, hr, hp, hin, inv => by
  have hnd : rem.Nodup := hp.imp fun h => by omega
  -- the first of those that are left is ready
  have hfirst : ∃ i, i ∈ rem ∧ i ∈ Region.ready .any ops listed := by
   match rem, hl with
   | i :: rem', _ =>
    refine ⟨i, by simp, ?_⟩
    obtain ⟨him, hun⟩ := (hin i).1 (by simp)
    refine mem_ready.2 ⟨hun, ops[i], Array.getElem?_eq_getElem (by omega), fun e he hb => ?_⟩
    have hlt := drB_edges hB (Array.getElem?_eq_getElem (show i < ops.size by omega)) e he hb
    cases hc : listed.getD e.on false with
    | true => rfl
    | false =>
     exfalso
     have hon := (hin e.on).2 ⟨by omega, getD_in (by rw [inv.size]; omega) hc⟩
     rcases List.mem_cons.1 hon with h | h
     ·omega
     ·have := (List.pairwise_cons.1 hp).1 _ h; omega
  obtain ⟨i0, hi0, hr0⟩ := hfirst
  rw [show f + 1 + g = (f + g) + 1 by omega]
  refine ⟨fun h0 => (by rw [h0] at hr0; cases hr0), fun j hj => ?_⟩
  obtain ⟨hi0m, hun0⟩ := (hin i0).1 hi0
  have hjm := tail_not hB inv hi0m hun0 hj
  obtain ⟨hjun, oj, hoj, _⟩ := mem_ready.1 hj
  have hjrem := (hin j).2 ⟨hjm, hjun⟩
  obtain ⟨v, eff, hy, hd, _, hr'⟩ := pull hoj hs.closed rem s hr hjrem hnd (fun i hi oi hoi hne _ hcon => by
    obtain ⟨him, hun⟩ := (hin i).1 hi
    refine drB_pair hB hoi hoj him hjm ?_ (ready_not_waits hj hun)
    have hsub : ∀ (l : List Nat), l.Pairwise (· < ·) → j ∈ l → (l.takeWhile (· != j)).contains i = true → i < j := by
     intro l
     induction l with
     | nil => intro _ h; cases h
     | cons x l ih =>
      intro hp hjl hc
      rw [List.takeWhile_cons] at hc
      by_cases hx : x = j
      ·subst hx; simp at hc
      ·have hx' : (x != j) = true := by simpa using hx
       rw [hx'] at hc
       simp only [if_true, List.contains_cons, Bool.or_eq_true, beq_iff_eq] at hc
       have hjl' : j ∈ l := by simpa [Ne.symm hx] using hjl
       rcases hc with hc | hc
       ·subst hc; exact (List.pairwise_cons.1 hp).1 j hjl'
       ·exact ih (List.pairwise_cons.1 hp).2 hjl' hc
    exact hsub rem hp hjrem hcon) (fun _ _ h => h) (fun _ _ => rfl)
  refine yd_wp hT hΛ hΦ hJJ hs hoj hy hd fun a' w' ρ' hs2 => ?_
  refine head_sound hT hΛ hΦ hJJ hB hm g hend f (rem.erase j) (by rw [List.length_erase_of_mem hjrem]; omega) _ _ a' w' ρ' hs2 hr' (hp.sublist List.erase_sublist) (fun i => ?_) (inv.set hj hjm)
  rw [hnd.mem_erase_iff, hin]
  by_cases hij : j = i
  ·subst hij
   have : j < listed.size := by rw [inv.size]; omega
   simp [this]
  ·rw [getD_set_ne true hij]
   constructor
   ·exact fun h => h.2
   ·exact fun h => ⟨fun he => hij he.symm, h⟩
theorem evOps_step (hT : TOkX P X) (hΛ : LamAll P J X) (hΦ : ∀ g args r bs, X.Φ g args = some (r, bs) → SoundAt P J g args r bs) (hJJ : Stable J) {Q : Exit → Act → World → Prop} {K : St → Prop} {o : Oper} {os : List Oper} {k : Nat} {σ : St} {a : Act} {w : World} {KW : Act → World → Prop}
  (hk : ops[k]? = some o) (h : evOps X n ops.toList (o :: os) σ K) (hs : Sims J ok w0 F n σ a w) (hK : ∀ σ a w, evOps X n ops.toList os σ K → Sims J ok w0 F n σ a w → KW a w) : wpOp P ops Q k KW a w := by
 unfold wpOp
 simp only [hk]
 obtain ⟨dst, op, ty, pos, after, guard⟩ := o
 obtain ⟨ρ, hs⟩ := hs
 cases guard with
 | none =>
  have hw : Region.wanted ⟨dst, op, ty, pos, after, none⟩ (yielded ops a.tmps) = true := rfl
  rw [if_pos hw]
  left
  simp only [evOps] at h
  unfold onSome at h
  split at h
  ·rename_i σ1 hf
   obtain ⟨ρ1, hs1⟩ := hs.freezeL hf
   refine op_wp hT hΛ hΦ hJJ hs1 (o := ⟨dst, op, ty, pos, after, none⟩) h fun v eff w' ρ' val hk2 hev hst hr => ?_
   exact hK _ _ _ hk2.2 ⟨ρ', hs1.step hk2.1 (fun b hb => evalOp_tc hev (dst_small' hk2.1 hs.small) hb) hst hr⟩
  ·exact h.elim
 | some g =>
  obtain ⟨j, want⟩ := g
  simp only [evOps] at h
  unfold onSome at h
  split at h
  ·rename_i t ht
   split at h
   ·rename_i b hb
    rw [wanted_of ht hb (hs.rel t)]
    unfold onIf at h
    split at h
    ·rename_i hbw
     rw [if_pos hbw]
     left
     refine op_wp hT hΛ hΦ hJJ hs (o := ⟨dst, op, ty, pos, after, some (j, want)⟩) h fun v eff w' ρ' val hk2 hev hst hr => ?_
     exact hK _ _ _ hk2.2 ⟨ρ', hs.step hk2.1 (fun b hb => evalOp_tc hev (dst_small' hk2.1 hs.small) hb) hst hr⟩
    ·rename_i hbw
     rw [if_neg hbw]
     exact hK _ _ _ h.2 ⟨ρ, hs.skip h.1⟩
   ·exact h.elim
  ·exact h.elim
theorem tail_sound (hT : TOkX P X) (hΛ : LamAll P J X) (hΦ : ∀ g args r bs, X.Φ g args = some (r, bs) → SoundAt P J g args r bs) (hJJ : Stable J) (hB : drB ops m = true) {Q : Exit → Act → World → Prop} {K : St → Prop}
  (hQ : ∀ σ a w, K σ → Sims J ok w0 F n σ a w → Q .normal a w) : ∀ (os : List Oper) (k : Nat) (listed : Array Bool) (σ : St) (a : Act) (w : World), m ≤ k → k + os.length = ops.size → listed.size = ops.size → (∀ (j : Nat), os[j]? = ops[k + j]?) →
   (∀ i, i < ops.size → (listed.getD i true = false ↔ k ≤ i)) → evOps X n ops.toList os σ K → Sims J ok w0 F n σ a w → wpAny P .any ops Q os.length listed a w
 | [], k, listed, σ, a, w, hmk, hlen, hsz, hops, hli, h, hs => by
  have hnil : Region.ready .any ops listed = [] := by
   rw [List.eq_nil_iff_forall_not_mem]
   intro i hi
   obtain ⟨hun, o, ho, _⟩ := mem_ready.1 hi
   have hlt := (Array.getElem?_eq_some_iff.1 ho).1
   have := (hli i hlt).1 hun
   simp at hlen
   omega
  exact ⟨hnil, hQ σ a w h hs⟩
 | o :: os, k, listed, σ, a, w, hmk, hlen, hsz, hops, hli, h, hs => by
  have hk : ops[k]? = some o := by have := hops 0; simpa using this.symm
  have hklt := (Array.getElem?_eq_some_iff.1 hk).1
  have hrest : ∀ (j : Nat), os[j]? = ops[k + 1 + j]? := fun j => by have := hops (j + 1); rw [show k + 1 + j = k + (j + 1) by omega]; simpa using this
  have hrk : k ∈ Region.ready .any ops listed := by
   refine mem_ready.2 ⟨(hli k hklt).2 (Nat.le_refl _), o, hk, fun e he hb => ?_⟩
   have hlt := drB_edges hB hk e he hb
   cases hc : listed.getD e.on false with
   | true => rfl
   | false =>
    have := (hli e.on (by omega)).1 (getD_in (by omega) hc)
    omega
  rw [List.length_cons]
  refine ⟨fun h0 => (by rw [h0] at hrk; cases hrk), fun j hj => ?_⟩
  have hjk : j = k := by
   obtain ⟨hun, oj, hoj, _⟩ := mem_ready.1 hj
   have hjlt := (Array.getElem?_eq_some_iff.1 hoj).1
   have hge := (hli j hjlt).1 hun
   rcases Nat.lt_or_ge k j with hlt | hle
   ·exfalso
    rcases drB_tail hB with rfl | ⟨_, _, hc⟩
    ·omega
    ·have h1 := List.all_eq_true.1 hc j (List.mem_range.2 hjlt)
     simp only [Bool.or_eq_true, decide_eq_true_eq] at h1
     rcases h1 with h1 | h1
     ·omega
     ·have h2 := ready_not_waits hj ((hli (j - 1) (by omega)).2 (by omega))
      rw [h1] at h2
      cases h2
   ·omega
  subst hjk
  refine evOps_step hT hΛ hΦ hJJ hk h hs fun σ' a' w' h' hs' => ?_
  refine tail_sound hT hΛ hΦ hJJ hB hQ os (j + 1) _ σ' a' w' (by omega) (by simp at hlen ⊢; omega) (by simpa using hsz) hrest (fun i hi => ?_) h' hs'
  by_cases hij : j = i
  ·subst hij
   have : j < listed.size := by omega
   simp [this]
  ·rw [getD_set_ne true hij, hli i hi]
   omega
theorem dr_sound (hmix : P.follows .mixedOrders = true) (hT : TOkX P X) (hΛ : LamAll P J X) (hΦ : ∀ g args r bs, X.Φ g args = some (r, bs) → SoundAt P J g args r bs) (hJJ : Stable J) (hB : drB ops m = true) {id : Nat} {σ : St} {a : Act} {w : World} {Q : Exit → Act → World → Prop} {K : St → Prop}
  (h : evHead X n ops.toList (ops.toList.take m) σ fun σ1 => evOps X n ops.toList (ops.toList.drop m) σ1 K) (hs : Sims J ok w0 F n σ a w) (hQ : ∀ σ a w, K σ → Sims J ok w0 F n σ a w → Q .normal a w) : (Code.region id ops true).wp P Q a w := by
 have hm : m ≤ ops.size := by rcases drB_tail hB with rfl | ⟨h, _⟩ <;> omega
 obtain ⟨σ1, hK, hr⟩ := evHead_run (ops.toList.take m) 0 σ (fun j hj => by
  rw [List.length_take] at hj
  rw [List.getElem?_take_of_lt (by omega), Nat.zero_add]; simp) h
 obtain ⟨ρ, hs⟩ := hs
 refine wp_region_any hmix ?_
 have hdr : SimF J ok w0 F n σ.fs a { w with drawn := w.drawn + 1 } ρ := by
  have hb : Below w.heap.size w { w with drawn := w.drawn + 1 } := ⟨rfl, rfl, rfl, Nat.le_refl _, fun _ _ => rfl⟩
  have hmono : ∀ g, okAt ok F.B ρ w g → okAt ok F.B ρ { w with drawn := w.drawn + 1 } g ∧ (World.heap { w with drawn := w.drawn + 1 })[g]? = w.heap[g]? := fun g hg => ⟨hg, rfl⟩
  refine ⟨hs.j, hs.below.trans (hb.mono hs.inv.size), ⟨hs.inv.size, fun b k hk => ?_, hs.inv.dom, hs.inv.inj, hs.inv.new, hs.inv.fr⟩, fun t => (hs.rel t).mono hmono fun _ _ h => h, hs.size, hs.defers, ⟨hs.fr.keep, hs.fr.fresh, hs.fr.hdr, hs.fr.grow⟩, hs.small⟩
  obtain ⟨sv, hr, hb⟩ := hs.inv.blk b k hk
  exact ⟨sv, hr, hb.mono' hmono (Nat.le_refl _) (fun _ _ => rfl) fun _ _ h => h⟩
 have hlen : (List.range' 0 (ops.toList.take m).length).length = m := by simp; omega
 have := head_sound (Q := Q) hT hΛ hΦ hJJ hB hm (ops.size - m) (s' := σ1.fs) (fun listed a w ρ hs1 inv hall => by
  have hl : (ops.toList.drop m).length = ops.size - m := by simp
  rw [← hl]
  refine tail_sound hT hΛ hΦ hJJ hB hQ (ops.toList.drop m) m listed σ1 a w (Nat.le_refl _) (by rw [hl]; omega) inv.size (fun j => by simp) (fun i hi => ?_) hK ⟨ρ, hs1.to rfl⟩
  rcases Nat.lt_or_ge i m with hlt | hge
  ·rw [hall i hlt]; simp; omega
  ·rw [inv.tail i hge hi]; simp; omega) m _ hlen (Array.replicate ops.size false) σ.fs a _ ρ hdr hr (by
   exact List.pairwise_lt_range') (fun i => by
   simp only [List.mem_range'_1, Nat.zero_le, Nat.zero_add, true_and, List.length_take, Array.length_toList]
   constructor
   ·intro hi; refine ⟨by omega, ?_⟩; rw [Array.getD_eq_getD_getElem?, Array.getElem?_replicate, if_pos (by omega)]; rfl
   ·intro hi; omega) ⟨by simp, (fun j oj hj hl => by rw [getD_replicate_false] at hl; exact absurd hl (by simp)), fun t ht ht' => by rw [Array.getD_eq_getD_getElem?, Array.getElem?_replicate, if_pos ht']; rfl⟩
 rwa [show m + (ops.size - m) = ops.size by omega] at this
end
/-! ### Heads that write -/
section
variable {X : Ctx} {e e' : Env} {h h' : Hp} {d n : Nat}
theorem noRefL_mem {b : Nat} {c : V} : ∀ {cs : List V}, c ∈ cs → V.noRef b c = false → V.noRefL b cs = false
 | x :: cs, hc, hr => by
  rcases List.mem_cons.1 hc with rfl | hc
  ·simp [V.noRefL, hr]
  ·simp [V.noRefL, noRefL_mem hc hr]
theorem ref_noRef {b : Nat} {v : V} (hr : Ref b v) : V.noRef b v = false := by
 induction hr with
 | ptr o => simp [V.noRef]
 | eptr sz i o => simp [V.noRef]
 | vec => simp [V.noRef]
 | sub sz lo k => simp [V.noRef]
 | agg hc _ ih => simp only [V.noRef]; exact noRefL_mem hc ih
 | tup hc _ ih => simp only [V.noRef]; exact noRefL_mem hc ih
 | fn hc _ ih => simp only [V.noRef]; exact noRefL_mem hc ih
 | ifc _ ih => simp only [V.noRef]; exact ih
theorem off_not {b : Nat} {l : List V} (ho : offW (some b) (some l) = true) {x : V} (hx : x ∈ l) : ¬ Ref b x := fun hr => by
 have := List.all_eq_true.1 ho x hx
 rw [ref_noRef hr] at this
 cases this
theorem touch_call {c : Call} {l : List V} (ht : touchOf e (.call c) = some l) : c.callee = .builtin .copy ∧ l = c.args.toList.map (opd e) := by
 obtain ⟨cal, args, tys⟩ := c
 cases cal with
 | value f => simp [touchOf] at ht
 | invoke r m => simp [touchOf] at ht
 | builtin b => cases b <;> simp [touchOf] at ht ⊢; exact ht.symm
theorem touch_env {op : Op} (ho : ∀ x ∈ op.operands, opd e' x = opd e x) : touchOf e' op = touchOf e op := by
 by_cases hc : ∃ c, op = .call c
 ·obtain ⟨⟨cal, args, tys⟩, rfl⟩ := hc
  cases cal with
  | value f => rfl
  | invoke r m => rfl
  | builtin b =>
   cases b <;> first | rfl | skip
   simp only [touchOf]
   exact congrArg some (List.map_congr_left fun x hx => ho x (by simp [Op.operands, Call.operands]; simpa using hx))
 cases op <;> simp only [Op.operands] at ho <;> simp only [touchOf] <;> simp_all
theorem touch_opd {op : Op} {l : List V} (ht : touchOf e op = some l) {x : V} (hx : x ∈ l) : ∃ y ∈ op.operands, x = opd e y := by
 by_cases hc : ∃ c, op = .call c
 ·obtain ⟨c, rfl⟩ := hc
  obtain ⟨h1, rfl⟩ := touch_call ht
  obtain ⟨y, hy, rfl⟩ := List.mem_map.1 hx
  exact ⟨y, by simp [Op.operands, Call.operands, h1]; simpa using hy, rfl⟩
 cases op <;> first | exact absurd ⟨_, rfl⟩ hc | skip
 all_goals simp only [touchOf, Option.some.injEq, reduceCtorEq] at ht <;> subst ht <;> simp [Op.operands] at hx ⊢ <;> first | exact hx | (subst hx; simp) | skip
theorem store_write {op : Op} {v : V} {b : Nat} {k : Blk} {l : List V} (hev : evalOp X e h d op = some (v, .write b k)) (ht : touchOf e op = some l) : (∃ x ∈ l, Ref b x) ∧ ∃ k0, h b = some k0 := by
 by_cases hc : ∃ c, op = .call c
 ·obtain ⟨⟨cal, args, tys⟩, rfl⟩ := hc
  obtain ⟨h1, rfl⟩ := touch_call ht
  simp only at h1
  subst h1
  simp only [evalOp] at hev
  split at hev <;> first | (cases hev; done) | skip
  rename_i s x t t2 ha hty
  unfold copyV at hev
  split at hev <;> first | (cases hev; done) | skip
  split at hev <;> first | (cases hev; done) | skip
  split at hev <;> first | (cases hev; done) | skip
  split at hev <;> first | (cases hev; done) | skip
  rename_i b' sz lo k' hop
  split at hev <;> first | (cases hev; done) | skip
  rename_i T es hsub
  split at hev <;> first | (cases hev; done) | skip
  simp only [Option.some.injEq, Prod.mk.injEq, Eff.write.injEq] at hev
  obtain ⟨_, rfl, _⟩ := hev
  refine ⟨⟨opd e s, by simp [ha], ?_⟩, ?_⟩
  ·unfold ownP at hop
   split at hop
   ·rename_i b2 hq
    split at hop
    ·split at hop
     ·simp only [Option.some.injEq, Prod.mk.injEq] at hop
      rw [← hop.1, hq]; exact .vec
     ·cases hop
    ·cases hop
   ·rename_i b2 sz2 lo2 k2 hq
    simp only [Option.some.injEq, Prod.mk.injEq] at hop
    rw [← hop.1, hq]; exact .sub _ _ _
   ·cases hop
  ·unfold subE at hsub
   cases hb : h b' with
   | none => simp [hb] at hsub
   | some k0 => exact ⟨k0, rfl⟩
 cases op <;> first | exact absurd ⟨_, rfl⟩ hc | skip
 all_goals simp only [touchOf, Option.some.injEq, reduceCtorEq] at ht
 case store T a x =>
  subst ht
  simp only [evalOp] at hev
  split at hev <;> first | (cases hev; done) | skip
  split at hev <;> first | (cases hev; done) | skip
  split at hev <;> first | (cases hev; done) | skip
  ·rename_i b' off ha
   split at hev <;> first | (cases hev; done) | skip
   rename_i v0 hb
   split at hev <;> first | (cases hev; done) | skip
   cases hev
   exact ⟨⟨opd e a, by simp, by rw [ha]; exact .ptr off⟩, _, hb⟩
  ·rename_i b' sz j off ha
   split at hev <;> first | (cases hev; done) | skip
   rename_i Te sz' es hb
   split at hev <;> first | (cases hev; done) | skip
   split at hev <;> first | (cases hev; done) | skip
   split at hev <;> first | (cases hev; done) | skip
   cases hev
   exact ⟨⟨opd e a, by simp, by rw [ha]; exact .eptr sz j off⟩, _, hb⟩
 all_goals
  exfalso
  simp only [evalOp, Option.map_eq_some_iff] at hev
  first
   | (obtain ⟨u, _, hu⟩ := hev; cases hu; done)
   | (repeat' (first | (cases hev; done) | (obtain ⟨u, _, hu⟩ := hev; cases hu; done) | split at hev))
   | skip
  all_goals (first | (obtain ⟨u, _, hu⟩ := (Option.map_eq_some_iff.1 hev); cases hu; done) | skip)
theorem evalOp_mono1 {op : Op} {v : V} {eff : Eff} {l : List V} (hev : evalOp X e h d op = some (v, eff)) (ht : touchOf e op = some l) (hup : ∀ x ∈ l, Up1 h h' x) (hfr : ∀ b, eff.has b = true → h' b = none) :
  evalOp X e h' d op = some (v, eff) := by
 by_cases hc : ∃ c, op = .call c
 ·obtain ⟨⟨cal, args, tys⟩, rfl⟩ := hc
  obtain ⟨h1, rfl⟩ := touch_call ht
  simp only at h1
  subst h1
  simp only [evalOp] at hev ⊢
  split at hev <;> first | (cases hev; done) | skip
  rename_i s x t t2 ha hty
  exact copyV_up1 (hup _ (by simp [ha])) (hup _ (by simp [ha])) hev
 cases op <;> first | exact absurd ⟨_, rfl⟩ hc | skip
 all_goals simp only [touchOf, Option.some.injEq, reduceCtorEq] at ht
 case assign x =>
  simp only [evalOp] at hev ⊢
  split at hev
  ·rename_i T sz hn
   try simp only [hn]
   split at hev
   ·rename_i hz
    try simp only [hz]
    split at hev
    ·rename_i hc
     simp only [Option.some.injEq, Prod.mk.injEq] at hev
     obtain ⟨rfl, rfl⟩ := hev
     rw [if_pos ⟨new1_up hfr, hc.2⟩]
    ·cases hev
   ·exact hev
  ·rename_i hn
   try simp only [hn]
   exact hev
 case alloc T =>
  simp only [evalOp] at hev ⊢
  split at hev
  ·rename_i i hi
   try simp only [hi]
   split at hev
   ·rename_i hc
    simp only [Option.some.injEq, Prod.mk.injEq] at hev
    obtain ⟨rfl, rfl⟩ := hev
    rw [if_pos ⟨new1_up hfr, hc.2⟩]
   ·cases hev
  ·cases hev
 case box T x =>
  simp only [evalOp] at hev ⊢
  split at hev
  ·rename_i hc
   simp only [Option.some.injEq, Prod.mk.injEq] at hev
   obtain ⟨rfl, rfl⟩ := hev
   rw [if_pos ⟨new1_up hfr, hc.2⟩]
  ·cases hev
 case load T x =>
  subst ht
  have hux := hup (opd e x) (by simp)
  simp only [evalOp] at hev ⊢
  split at hev
  ·rename_i i hi
   try simp only [hi]
   split at hev
   ·rename_i v1 off hv
    try simp only [hv]
    exact hev
   ·rename_i b off hv
    try simp only [hv]
    cases hb : h b with
    | none => simp [hb] at hev
    | some k => rw [hb] at hev; rw [hux b (by rw [hv]; exact .ptr off) k hb]; exact hev
   ·rename_i b sz j off hv
    try simp only [hv]
    cases hb : h b with
    | none => simp [hb] at hev
    | some k => rw [hb] at hev; rw [hux b (by rw [hv]; exact .eptr sz j off) k hb]; exact hev
   ·cases hev
  ·cases hev
 case store T a x =>
  subst ht
  have hux := hup (opd e a) (by simp)
  simp only [evalOp] at hev ⊢
  split at hev
  ·rename_i i hi
   try simp only [hi]
   split at hev
   ·rename_i hc
    rw [if_pos hc]
    split at hev
    ·rename_i b off hv
     try simp only [hv]
     cases hb : h b with
     | none => simp [hb] at hev
     | some k => rw [hb] at hev; rw [hux b (by rw [hv]; exact .ptr off) k hb]; exact hev
    ·rename_i b sz j off hv
     try simp only [hv]
     cases hb : h b with
     | none => simp [hb] at hev
     | some k => rw [hb] at hev; rw [hux b (by rw [hv]; exact .eptr sz j off) k hb]; exact hev
    ·cases hev
   ·cases hev
  ·cases hev
 case indexAddr T x i =>
  subst ht
  have hux := hup (opd e x) (by simp)
  simp only [evalOp] at hev ⊢
  split at hev
  ·rename_i e1 s1 b1 z1 ik n hT hi
   try simp only [hT, hi]
   split at hev
   ·rename_i ie sz es hT2 hx
    try simp only [hT2, hx]
    exact hev
   ·rename_i ie b hT2 hx
    try simp only [hT2, hx]
    cases hb : h b with
    | none => simp [hb] at hev
    | some k => rw [hb] at hev; rw [hux b (by rw [hx]; exact .vec) k hb]; exact hev
   ·rename_i ie b sz lo k hT2 hx
    try simp only [hT2, hx]
    exact hev
   ·cases hev
  ·rename_i m e1 s1 b1 z1 ik n hT hi
   try simp only [hT, hi]
   exact hev
  ·cases hev
 case binOp op T x y U =>
  subst ht
  have hx := hup (opd e x) (by simp)
  have hy := hup (opd e y) (by simp)
  simp only [evalOp] at hev ⊢
  cases hb : binV op (opd e x) (opd e y) with
  | some v => rw [hb] at hev; exact hev
  | none =>
   rw [hb] at hev
   simp only at hev ⊢
   cases op <;> first | exact hev | skip
   all_goals
    simp only [Option.map_eq_some_iff] at hev ⊢
    obtain ⟨q, hq, he⟩ := hev
    exact ⟨q, orE_up hx hy hq, he⟩
 all_goals exact hev
theorem tame_tr {eff : Eff} (hm : eff.tame = true) : eff.tr = id := by cases eff <;> first | rfl | cases hm
theorem tame_mild {eff : Eff} (hm : eff.tame = true) (hw : eff.wb = none) : eff.mild = true := by cases eff <;> first | rfl | (cases hm; done) | (simp [Eff.wb] at hw; done)
theorem app_fsW (σ : St) {eff : Eff} (hm : eff.tame = true) (dst : Option Nat) (v : V) : (σ.app eff dst v).fs = σ.fs.put dst v eff := by
 cases eff with
 | write b k =>
  simp only [St.fs, FS.put, FS.mk.injEq]
  refine ⟨by funext t; simp only [St.app, St.e, e_put], ?_⟩
  funext b'
  simp only [St.app, St.h, Eff.hp, upd, look_setH]
 | none => exact app_fs σ rfl dst v
 | new l => exact app_fs σ rfl dst v
 | change b k => cases hm
 | lend b k => cases hm
 | writes _ => cases hm
theorem hpW_dom (eff : Eff) (hm : eff.tame = true) (h : Hp) {b : Nat} (hb : h b ≠ none) : eff.hp h b ≠ none := by
 cases eff with
 | none => exact hb
 | new l =>
  simp only [Eff.hp, either]
  cases hh : h b with
  | none => exact (hb hh).elim
  | some k => simp
 | write b' k => simp only [Eff.hp, upd]; split <;> simp_all
 | change b k => cases hm
 | lend b k => cases hm
 | writes _ => cases hm
theorem hpW_keep (eff : Eff) (hm : eff.tame = true) (h : Hp) {b : Nat} {k : Blk} (hb : h b = some k) (hw : eff.wb ≠ some b) : eff.hp h b = some k := by
 cases eff with
 | write b' k' =>
  have : b ≠ b' := fun he => hw (by rw [he]; rfl)
  simp only [Eff.hp, upd, if_neg this]; exact hb
 | none => exact hb
 | new l => exact hp_ge (.new l) rfl h hb
 | change b k => cases hm
 | lend b k => cases hm
 | writes _ => cases hm
theorem hpW_none (eff : Eff) (hm : eff.tame = true) (h : Hp) {b : Nat} (hb : eff.hp h b = none) : h b = none ∧ eff.has b = false := by
 cases eff with
 | write b' k' =>
  simp only [Eff.hp, upd] at hb
  split at hb
  ·cases hb
  ·exact ⟨hb, rfl⟩
 | none => exact ⟨hb, rfl⟩
 | new l => exact (hp_has (.new l) rfl h b).1 hb
 | change b k => cases hm
 | lend b k => cases hm
 | writes _ => cases hm
theorem hpW_some (eff : Eff) (hm : eff.tame = true) (h : Hp) {b : Nat} (hb : h b = none) (hh : eff.has b = false) (hw : eff.wb ≠ some b) : eff.hp h b = none := by
 cases eff with
 | write b' k' =>
  have : b ≠ b' := fun he => hw (by rw [he]; rfl)
  simp only [Eff.hp, upd, if_neg this]; exact hb
 | none => exact hb
 | new l => exact (hp_has (.new l) rfl h b).2 ⟨hb, hh⟩
 | change b k => cases hm
 | lend b k => cases hm
 | writes _ => cases hm
theorem FS.put_commW (s : FS) {x y : Option Nat} {v u : V} {f g : Eff} (hf : f.tame = true) (hg : g.tame = true) (hxy : ∀ d, x = some d → y ≠ some d) (hd : ∀ b, f.has b = true → g.has b = false) (hw : ∀ b, f.wb = some b → g.wb ≠ some b) :
  (s.put x v f).put y u g = (s.put y u g).put x v f := by
 by_cases hfm : f.mild = true
 ·by_cases hgm : g.mild = true
  ·exact FS.put_comm s hfm hgm hxy hd
  ·cases g <;> first | exact (hgm rfl).elim | (cases hg; done) | skip
   rename_i b k
   simp only [FS.put, FS.mk.injEq]
   refine ⟨?_, ?_⟩
   ·funext t
    by_cases h1 : x = some t
    ·have := hxy t h1; simp [h1, this]
    ·simp [h1]
   ·funext c
    cases f with
    | none => rfl
    | new l => simp only [Eff.hp, upd, either]; by_cases hc : c = b <;> simp [hc]
    | write _ _ => cases hfm
    | change _ _ => cases hfm
    | lend _ _ => cases hfm
    | writes _ => cases hfm
 ·cases f <;> first | exact (hfm rfl).elim | (cases hf; done) | skip
  rename_i b k
  simp only [FS.put, FS.mk.injEq]
  refine ⟨?_, ?_⟩
  ·funext t
   by_cases h1 : x = some t
   ·have := hxy t h1; simp [h1, this]
   ·simp [h1]
  ·funext c
   cases g with
   | none => rfl
   | new l => simp only [Eff.hp, upd, either]; by_cases hc : c = b <;> simp [hc]
   | write b' k' =>
    have hne : b ≠ b' := fun he => hw b rfl (by rw [he]; rfl)
    simp only [Eff.hp, upd]
    by_cases hc : c = b
    ·subst hc; simp [hne]
    ·simp [hc]
   | change _ _ => cases hg
   | lend _ _ => cases hg
   | writes _ => cases hg
def RunW (X : Ctx) (o : Oper) (s : FS) (v : V) (eff : Eff) (en : Ent) : Prop :=
 evalOp X s.e s.h (o.dst.getD 0) o.op = some (v, eff) ∧ en = ⟨touchOf s.e o.op, eff.wb⟩ ∧ eff.tame = true ∧ (en.us.isSome || en.w.isNone) = true
def YdW (X : Ctx) (ops : List Oper) (o : Oper) (s : FS) (v : V) (eff : Eff) (en : Ent) : Prop :=
 match o.guard with
 | none => RunW X o s v eff en
 | some (j, want) => ∃ t b, guardT ops j = some t ∧ gOf (s.e t) = some b ∧ if b == some want then RunW X o s v eff en else v = .raw Go.undef ∧ eff = .none ∧ en = ⟨some [], none⟩
theorem YdW.ind {ops : List Oper} {o : Oper} {s : FS} {v : V} {eff : Eff} {en : Ent} (hy : YdW X ops o s v eff en) {G : Prop} (h1 : RunW X o s v eff en → G) (h2 : eff = .none → en = ⟨some [], none⟩ → G) : G := by
 unfold YdW at hy
 split at hy
 ·exact h1 hy
 ·obtain ⟨t, b', _, _, hy⟩ := hy
  split at hy
  ·exact h1 hy
  ·exact h2 hy.2.1 hy.2.2
theorem YdW.new {ops : List Oper} {o : Oper} {s : FS} {v : V} {eff : Eff} {en : Ent} (hy : YdW X ops o s v eff en) {b : Nat} (hb : eff.has b = true) : s.h b = none :=
 hy.ind (fun h => evalOp_new h.1 hb) fun he _ => by subst he; cases hb
theorem YdW.tame {ops : List Oper} {o : Oper} {s : FS} {v : V} {eff : Eff} {en : Ent} (hy : YdW X ops o s v eff en) : eff.tame = true :=
 hy.ind (fun h => h.2.2.1) fun he _ => by subst he; rfl
theorem YdW.wb {ops : List Oper} {o : Oper} {s : FS} {v : V} {eff : Eff} {en : Ent} (hy : YdW X ops o s v eff en) : eff.wb = en.w :=
 hy.ind (fun h => by rw [h.2.1]) fun he hn => by subst he; subst hn; rfl
theorem YdW.write {ops : List Oper} {o : Oper} {s : FS} {v : V} {eff : Eff} {en : Ent} (hy : YdW X ops o s v eff en) {b : Nat} (hb : en.w = some b) : ∃ l, en.us = some l ∧ (∃ x ∈ l, Ref b x) ∧ ∃ k0, s.h b = some k0 :=
 hy.ind (fun h => by
  obtain ⟨hev, rfl, hm, hs⟩ := h
  simp only at hb hs ⊢
  cases eff <;> first | (cases hb; done) | skip
  rename_i b' k
  simp only [Eff.wb, Option.some.injEq] at hb
  subst hb
  cases ht : touchOf s.e o.op with
  | none => rw [ht] at hs; cases hs
  | some l => exact ⟨l, rfl, store_write hev ht⟩) fun he hn => by subst hn; cases hb
theorem YdW.touch {ops : List Oper} {o : Oper} {s : FS} {v : V} {eff : Eff} {en : Ent} (hy : YdW X ops o s v eff en) {l : List V} (hl : en.us = some l) {x : V} (hx : x ∈ l) : ∃ y ∈ o.op.operands, x = Ev.opd s.e y :=
 hy.ind (fun h => by
  obtain ⟨hev, rfl, hm, hs⟩ := h
  exact touch_opd hl hx) fun he hn => by subst hn; simp only [Option.some.injEq] at hl; subst hl; cases hx
theorem YdW.move {ops : Array Oper} {o : Oper} {s τ : FS} {v : V} {eff : Eff} {en : Ent} (hy : YdW X ops.toList o τ v eff en) (he : ∀ t ∈ o.looksAt ops, s.e t = τ.e t)
  (hu : ∀ l, en.us = some l → ∀ x ∈ l, Up1 τ.h s.h x) (hu2 : en.us = none → ∀ x ∈ o.op.operands, Up τ.h s.h (Ev.opd τ.e x))
  (hf : ∀ b, eff.has b = true → s.h b = none) : YdW X ops.toList o s v eff en := by
 have hop : ∀ x ∈ o.op.operands, Ev.opd s.e x = Ev.opd τ.e x := by
  intro x hx
  cases x with
  | tmp t => exact he t (List.mem_append_left _ (List.mem_filterMap.2 ⟨.tmp t, by simpa using hx, rfl⟩))
  | _ => rfl
 have key : RunW X o τ v eff en → RunW X o s v eff en := fun h => by
  obtain ⟨hev, rfl, hm, hs⟩ := h
  refine ⟨?_, by rw [touch_env hop], hm, hs⟩
  rw [evalOp_env hop]
  cases ht : touchOf τ.e o.op with
  | some l => exact evalOp_mono1 hev ht (hu l ht) hf
  | none =>
   refine evalOp_mono hev (tame_mild hm ?_) (hu2 ht) hf
   simp only [ht] at hs
   simpa using hs
 unfold YdW at hy ⊢
 cases hg : o.guard with
 | none => simp only [hg] at hy ⊢; exact key hy
 | some p =>
  obtain ⟨j, want⟩ := p
  simp only [hg] at hy ⊢
  obtain ⟨t, b, h1, h2, h3⟩ := hy
  refine ⟨t, b, h1, ?_, ?_⟩
  ·rw [he t (List.mem_append_right _ (by
    rw [hg]
    have : (ops[j]?).bind (·.dst) = some t := by unfold guardT at h1; simpa using h1
    simp [this]))]
   exact h2
  ·split at h3
   ·rename_i hc; rw [if_pos hc]; exact key h3
   ·rename_i hc; rw [if_neg hc]; exact h3
def RnW (X : Ctx) (n : Nat) (ops : Array Oper) (E : Nat → Ent) : List Nat → FS → FS → Prop
 | [], s, s' => s = s'
 | i :: is, s, s' => ∃ o v eff, ops[i]? = some o ∧ YdW X ops.toList o s v eff (E i) ∧ dstOk n o.dst ∧ RnW X n ops E is (s.put o.dst v eff) s'
theorem apart_skip (x : Ent) : apartE x ⟨some [], none⟩ = true := by
 obtain ⟨us, w⟩ := x
 cases w <;> rfl
theorem okU_spec {x : Option Ent} {y : Ent} (h : okU x y = true) : ∃ z, x = some z ∧ apartE z y = true := by
 cases x with
 | none => cases h
 | some z => exact ⟨z, rfl, h⟩
theorem evHeadW_run {ops : Array Oper} {K : St → Prop} : ∀ (l : List (Oper × List Nat)) (k : Nat) (L : List (Nat × Ent)) (E0 : Nat → Ent) (σ : St), (∀ j, j < l.length → (l[j]?).map (·.1) = ops[k + j]?) → (∀ i x, look i L = some x → i < k ∧ E0 i = x) → evHeadW X n ops.toList l k L σ K →
  ∃ σ' E, K σ' ∧ (∀ i, i < k → E i = E0 i) ∧ RnW X n ops E (List.range' k l.length) σ.fs σ'.fs ∧ ∀ j p, l[j]? = some p → ∀ i ∈ p.2, apartE (E i) (E (k + j)) = true
 | [], k, L, E0, σ, _, _, h => ⟨σ, E0, h, fun _ _ => rfl, rfl, fun j p hp => by simp at hp⟩
 | (o, un) :: l, k, L, E0, σ, hl, hL, h => by
  have h0 : ops[k]? = some o := by have := hl 0 (by simp); simpa using this.symm
  have hl' : ∀ j, j < l.length → (l[j]?).map (·.1) = ops[k + 1 + j]? := fun j hj => by have := hl (j + 1) (by simp; omega); rw [show k + 1 + j = k + (j + 1) by omega]; simpa using this
  have go : ∀ (v : V) (eff : Eff) (en : Ent), YdW X ops.toList o σ.fs v eff en → dstOk n o.dst → (∀ i ∈ un, okU (look i L) en = true ∨ en = ⟨some [], none⟩) → evHeadW X n ops.toList l (k + 1) ((k, en) :: L) (σ.app eff o.dst v) K →
    ∃ σ' E, K σ' ∧ (∀ i, i < k → E i = E0 i) ∧ RnW X n ops E (List.range' k ((o, un) :: l).length) σ.fs σ'.fs ∧ ∀ j p, ((o, un) :: l)[j]? = some p → ∀ i ∈ p.2, apartE (E i) (E (k + j)) = true := by
   intro v eff en hy hd hun hrest
   obtain ⟨σ', E, hK, hE, hr, hp⟩ := evHeadW_run l (k + 1) _ (fun i => if i = k then en else E0 i) _ hl' (fun i x hx => by
    rw [look] at hx
    split at hx
    ·rename_i hik; subst hik; simp only [Option.some.injEq] at hx; exact ⟨by omega, by simp [hx]⟩
    ·rename_i hik
     obtain ⟨h1, h2⟩ := hL i x hx
     exact ⟨by omega, by simp only [if_neg hik]; exact h2⟩) hrest
   have hEk : E k = en := by rw [hE k (by omega)]; simp
   have hEi : ∀ i, i < k → E i = E0 i := fun i hi => by rw [hE i (by omega)]; simp; omega
   refine ⟨σ', E, hK, hEi, ?_, ?_⟩
   ·rw [List.length_cons, List.range'_succ]
    refine ⟨o, v, eff, h0, by rw [hEk]; exact hy, hd, ?_⟩
    rw [← app_fsW σ hy.tame]
    exact hr
   ·intro j p hj i hi
    cases j with
    | zero =>
     simp only [List.getElem?_cons_zero, Option.some.injEq] at hj
     subst hj
     rw [Nat.add_zero, hEk]
     rcases hun i hi with hu | hu
     ·obtain ⟨z, hz, ha⟩ := okU_spec hu
      obtain ⟨h1, h2⟩ := hL i z hz
      rw [hEi i h1, h2]
      exact ha
     ·rw [hu]; exact apart_skip _
    | succ j =>
     simp only [List.getElem?_cons_succ] at hj
     rw [show k + (j + 1) = k + 1 + j by omega]
     exact hp j p hj i hi
  obtain ⟨dst, op, ty, pos, after, guard⟩ := o
  have run : ∀ (p : V × Eff), evalOp X σ.e σ.h (dst.getD 0) op = some p → okW L un (touchOf σ.e op) p.2 = true → RunW X ⟨dst, op, ty, pos, after, guard⟩ σ.fs p.1 p.2 ⟨touchOf σ.e op, p.2.wb⟩ ∧ ∀ i ∈ un, okU (look i L) ⟨touchOf σ.e op, p.2.wb⟩ = true := fun p hp hok => by
   unfold okW at hok
   simp only [Bool.and_eq_true, List.all_eq_true] at hok
   exact ⟨⟨hp, rfl, hok.1.1, hok.1.2⟩, hok.2⟩
  cases guard with
  | none =>
   simp only [evHeadW] at h
   unfold onSome at h
   split at h
   ·rename_i p hp
    obtain ⟨⟨hd, hm⟩, h⟩ := h
    obtain ⟨h1, h2⟩ := run p hp hm
    exact go p.1 p.2 _ h1 hd (fun i hi => .inl (h2 i hi)) h
   ·exact h.elim
  | some g =>
   obtain ⟨j, want⟩ := g
   simp only [evHeadW] at h
   unfold onSome at h
   split at h
   ·rename_i t ht
    split at h
    ·rename_i b hb
     unfold onIf at h
     split at h
     ·rename_i hc
      split at h
      ·rename_i p hp
       obtain ⟨⟨hd, hm⟩, h⟩ := h
       obtain ⟨h1, h2⟩ := run p hp hm
       exact go p.1 p.2 _ ⟨t, b, ht, hb, by rw [if_pos hc]; exact h1⟩ hd (fun i hi => .inl (h2 i hi)) h
      ·exact h.elim
     ·rename_i hc
      obtain ⟨hd, h⟩ := h
      exact go (.raw Go.undef) .none ⟨some [], none⟩ ⟨t, b, ht, hb, by rw [if_neg hc]; exact ⟨rfl, rfl, rfl⟩⟩ hd (fun _ _ => .inr rfl) h
    ·exact h.elim
   ·exact h.elim
theorem pullW {ops : Array Oper} {E : Nat → Ent} {j : Nat} {oj : Oper} {s s' : FS} (hj : ops[j]? = some oj) (hc : Closed s) : ∀ (rem : List Nat) (τ : FS), RnW X n ops E rem τ s' → j ∈ rem → rem.Nodup →
  (∀ i ∈ rem, ∀ oi, ops[i]? = some oi → i ≠ j → (rem.takeWhile (· != j)).contains i = true → oi.apart ops oj = true ∧ apartE (E i) (E j) = true) →
  (∀ b, s.h b ≠ none → τ.h b ≠ none) → (∀ l, (E j).us = some l → ∀ x ∈ l, ∀ b, Ref b x → ∀ k, s.h b = some k → τ.h b = some k) → ((E j).us = none → ∀ b k, s.h b = some k → τ.h b = some k) → (∀ t ∈ oj.looksAt ops, τ.e t = s.e t) →
  ∃ v eff, YdW X ops.toList oj s v eff (E j) ∧ dstOk n oj.dst ∧ (∀ b, eff.has b = true → τ.h b = none) ∧ RnW X n ops E (rem.erase j) (τ.put oj.dst v eff) s'
 | [], τ, _, hm, _, _, _, _, _, _ => by cases hm
 | i :: rem, τ, hr, hm, hn, hap, hdom, hag, hag2, hlk => by
  obtain ⟨o, v, eff, hi, hy, hd, hr⟩ := hr
  by_cases hij : i = j
  ·subst hij
   have : o = oj := Option.some.inj (hi.symm.trans hj)
   subst this
   have hopd : ∀ x ∈ o.op.operands, Ev.opd τ.e x = Ev.opd s.e x := fun x hx => by
    cases x with
    | tmp t => exact hlk t (List.mem_append_left _ (List.mem_filterMap.2 ⟨.tmp t, by simpa using hx, rfl⟩))
    | _ => rfl
   refine ⟨v, eff, hy.move (fun t ht => (hlk t ht).symm) (fun l hl x hx => ?_) (fun hne x hx => ?_) (fun b hb => ?_), hd, fun b hb => hy.new hb, by simpa using hr⟩
   ·intro b hb k hk
    obtain ⟨y, hyo, rfl⟩ := hy.touch hl hx
    rw [hopd y hyo] at hb
    obtain ⟨k0, hk0⟩ := hc.opd hb
    have : k = k0 := by
     have := hag l hl _ hx b (by rw [hopd y hyo]; exact hb) k0 hk0
     rw [hk] at this; exact Option.some.inj this
    subst this
    exact hk0
   ·rw [hopd x hx]
    intro b hb k hk
    obtain ⟨k0, hk0⟩ := hc.opd hb
    have : k = k0 := by have := hag2 hne b k0 hk0; rw [hk] at this; exact Option.some.inj this
    subst this
    refine ⟨hk0, fun y hy b' hb' k' hk' => ?_⟩
    subst hy
    obtain ⟨k1, hk1⟩ := hc.box b y hk0 b' hb'
    have : k' = k1 := by have := hag2 hne b' k1 hk1; rw [hk'] at this; exact Option.some.inj this
    subst this
    exact hk1
   ·cases hs : s.h b with
    | none => rfl
    | some k => exact (hdom b (by rw [hs]; simp) (hy.new hb)).elim
  ·have hjr : j ∈ rem := by simpa [Ne.symm hij] using hm
   have hne : (i != j) = true := by simpa using hij
   obtain ⟨hapi, hae⟩ := hap i (by simp) o hi hij (by rw [List.takeWhile_cons, hne]; simp)
   obtain ⟨h1, h2, h3⟩ := Oper.apart_spec hapi
   unfold apartE at hae
   simp only [Bool.and_eq_true] at hae
   have hnd := List.nodup_cons.1 hn
   have htm := hy.tame
   obtain ⟨u, g, hyj, hdj, hfr, hr'⟩ := pullW hj hc rem (τ.put o.dst v eff) hr hjr hnd.2 (fun i' hi' oi' ho' hne' hcon => hap i' (by simp [hi']) oi' ho' hne' (by
     rw [List.takeWhile_cons, hne]; simp only [if_true, List.contains_cons, hcon, Bool.or_true])) (fun b hb => hpW_dom eff htm τ.h (hdom b hb)) (fun l hl x hx b hb k hk => by
     refine hpW_keep eff htm τ.h (hag l hl x hx b hb k hk) fun hw => ?_
     have h4 := hae.1
     rw [← hy.wb, hw, hl] at h4
     exact off_not h4 hx hb) (fun hl b k hk => by
     refine hpW_keep eff htm τ.h (hag2 hl b k hk) fun hw => ?_
     have h4 := hae.1
     rw [← hy.wb, hw, hl] at h4
     cases h4) (fun t ht => by
     simp only [FS.put]
     rw [if_neg (fun he => h1 t he ht)]
     exact hlk t ht)
   have hgm := hyj.tame
   have hfr' : ∀ b, g.has b = true → τ.h b = none ∧ eff.has b = false := fun b hb => hpW_none eff htm τ.h (hfr b hb)
   refine ⟨u, g, hyj, hdj, fun b hb => (hfr' b hb).1, ?_⟩
   rw [List.erase_cons_tail (by simpa using hij)]
   refine ⟨o, v, eff, hi, hy.move (fun t ht => ?_) (fun l hl x hx b hb k hk => ?_) (fun hl x hx b hb k hk => ?_) (fun b hb => ?_), hd, ?_⟩
   ·simp only [FS.put]
    rw [if_neg (fun he => h3 t he ht)]
   ·refine hpW_keep g hgm τ.h hk fun hw => ?_
    have h4 := hae.2
    rw [← hyj.wb, hw, hl] at h4
    exact off_not h4 hx hb
   ·have hgw : g.wb = none := by
     cases hw : g.wb with
     | none => rfl
     | some b' =>
      have h4 := hae.2
      rw [← hyj.wb, hw, hl] at h4
      cases h4
    exact ⟨hpW_keep g hgm τ.h hk (by rw [hgw]; simp), fun y _ b' _ k' hk' => hpW_keep g hgm τ.h hk' (by rw [hgw]; simp)⟩
   ·refine hpW_some g hgm τ.h (hy.new hb) ?_ fun hw => ?_
    ·cases hg : g.has b with
     | false => rfl
     | true => have := (hfr' b hg).2; rw [hb] at this; cases this
    ·obtain ⟨_, _, _, k0, hk0⟩ := hyj.write (b := b) (by rw [← hyj.wb, hw])
     exact hdom b (by rw [hk0]; simp) (hy.new hb)
   ·rw [← FS.put_commW τ htm hgm h2 (fun b hb => by
     cases hg : g.has b with
     | false => rfl
     | true => have := (hfr' b hg).2; rw [hb] at this; cases this) (fun b hb hgb => by
     obtain ⟨l, hl, ⟨x, hx, hrx⟩, _⟩ := hy.write (b := b) (by rw [← hy.wb, hb])
     have h4 := hae.2
     rw [← hyj.wb, hgb, hl] at h4
     exact off_not h4 hx hrx)]
    exact hr'
end
section
variable {P : Program} {X : Ctx} {J : World → Prop} {ok : Nat → Prop} {w0 : World} {F : Fr} {n : Nat} {ops : Array Oper} {m : Nat}
theorem SimF.stepW {a : Act} {w : World} {ρ : Nat → Option Value} {s : FS} {w' : World} {dst : Option Nat} {v : V} {eff : Eff} {val : Value} {ρ' : Nat → Option Value} (h : SimF J ok w0 F n s a w ρ) (hd : dstOk n dst) (hm : eff.tame = true) (ht : ∀ b, 1000000 ≤ b → eff.tc b = false)
  (hs : Step ok F.B w ρ w' ρ' (eff.hp s.h) eff.tr eff.tc) (hv : Rel w' (okAt ok F.B ρ' w') ρ' v val) : SimF J ok w0 F n (s.put dst v eff) (a.put dst val) w' ρ' := by
 refine ⟨h.j, h.below.trans hs.below, hs.inv, fun t => ?_, by rw [put_size]; exact h.size, by rw [Ev.put_defers]; exact h.defers, h.fr.step hs ht, h.small⟩
 rw [put_getD a dst val t (by rw [h.size]; exact hd)]
 simp only [FS.put]
 split
 ·exact hv
 ·have := hs.rel _ _ (h.rel t)
  rw [tame_tr hm] at this
  exact this
theorem ydW_wp (hT : TOkX P X) (hΛ : LamAll P J X) (hΦ : ∀ g args r bs, X.Φ g args = some (r, bs) → SoundAt P J g args r bs) (hJJ : Stable J) {s : FS} {a : Act} {w : World} {ρ : Nat → Option Value} (hs : SimF J ok w0 F n s a w ρ) {j : Nat} {o : Oper} (hj : ops[j]? = some o) {v : V} {eff : Eff} {en : Ent}
  (hy : YdW X ops.toList o s v eff en) (hd : dstOk n o.dst) {KW : Act → World → Prop} {Q : Exit → Act → World → Prop} (hK : ∀ a' w' ρ', SimF J ok w0 F n (s.put o.dst v eff) a' w' ρ' → KW a' w') : wpOp P ops Q j KW a w := by
 have hm := hy.tame
 unfold wpOp
 simp only [hj]
 obtain ⟨dst, op, ty, pos, after, guard⟩ := o
 have run : evalOp X s.e s.h (dst.getD 0) op = some (v, eff) → Oper.wp P ⟨dst, op, ty, pos, after, guard⟩ a w KW Q := fun h => op_wpF hT hΛ hΦ hJJ hs (o := ⟨dst, op, ty, pos, after, guard⟩) h fun w' ρ' val hst hr => hK _ _ _ (hs.stepW hd hm (fun b hb => evalOp_tc h (dst_small' hd hs.small) hb) hst hr)
 unfold YdW at hy
 cases guard with
 | none => exact .inl (run hy.1)
 | some g =>
  obtain ⟨k, want⟩ := g
  obtain ⟨t, b, ht, hb, h⟩ := hy
  rw [wanted_of ht hb (hs.rel t)]
  split at h
  ·rename_i hc
   rw [if_pos hc]
   exact .inl (run h.1)
  ·rename_i hc
   rw [if_neg hc]
   obtain ⟨rfl, rfl, _⟩ := h
   exact hK _ _ _ (hs.stepW hd rfl (fun _ _ => rfl) (Step.refl hs.inv) (.ro (.raw _)))
theorem ready_not_waits2 {listed : Array Bool} (inv : HeadInv .any ops m listed) {i j : Nat} (hj : j ∈ Region.ready .any ops listed) (hi : listed.getD i true = false) : waits2 ops j i = false := by
 unfold waits2
 rw [ready_not_waits hj hi, Bool.false_or, List.any_eq_false]
 intro k _ hc
 simp only [Bool.and_eq_true] at hc
 obtain ⟨oj, hoj, e, he, hb, hon⟩ := Region.waitsFor_spec hc.1
 obtain ⟨ok, hok, e2, he2, hb2, hon2⟩ := Region.waitsFor_spec hc.2
 obtain ⟨_, o, ho, hall⟩ := mem_ready.1 hj
 have : o = oj := Option.some.inj (ho.symm.trans hoj)
 subst this
 have h2 := hall e he hb
 rw [hon] at h2
 have h3 := inv.closed k ok hok h2 e2 he2 hb2
 rw [hon2, getD_both hi] at h3
 cases h3
theorem head_soundW (hT : TOkX P X) (hΛ : LamAll P J X) (hΦ : ∀ g args r bs, X.Φ g args = some (r, bs) → SoundAt P J g args r bs) (hJJ : Stable J) (hB : drB ops m = true) (hm : m ≤ ops.size) {E : Nat → Ent} (hE : ∀ i j, i < j → j < m → waits2 ops j i = false → apartE (E i) (E j) = true) {Q : Exit → Act → World → Prop} (g : Nat) {s' : FS}
  (hend : ∀ listed a w ρ, SimF J ok w0 F n s' a w ρ → HeadInv .any ops m listed → (∀ i, i < m → listed.getD i true = true) → wpAny P .any ops Q g listed a w) :
  ∀ (f : Nat) (rem : List Nat), rem.length = f → ∀ (listed : Array Bool) (s : FS) (a : Act) (w : World) (ρ : Nat → Option Value), SimF J ok w0 F n s a w ρ → RnW X n ops E rem s s' → rem.Pairwise (· < ·) → (∀ i, i ∈ rem ↔ i < m ∧ listed.getD i true = false) → HeadInv .any ops m listed →
   wpAny P .any ops Q (f + g) listed a w
 | 0, rem, hl, listed, s, a, w, ρ, hs, hr, hp, hin, inv => by
  have : rem = [] := List.eq_nil_of_length_eq_zero hl
  subst this
  have hr : s = s' := hr
  subst hr
  rw [Nat.zero_add]
  refine hend listed a w ρ hs inv fun i hi => ?_
  cases hc : listed.getD i true with
  | true => rfl
  | false => exact absurd ((hin i).2 ⟨hi, hc⟩) (by simp)
 | f + 1, rem, hl, listed, s, a, w, ρ, hs, hr, hp, hin, inv => by
  have hnd : rem.Nodup := hp.imp fun h => by omega
  -- the first of those that are left is ready
  have hfirst : ∃ i, i ∈ rem ∧ i ∈ Region.ready .any ops listed := by
   match rem, hl with
   | i :: rem', _ =>
    refine ⟨i, by simp, ?_⟩
    obtain ⟨him, hun⟩ := (hin i).1 (by simp)
    refine mem_ready.2 ⟨hun, ops[i], Array.getElem?_eq_getElem (by omega), fun e he hb => ?_⟩
    have hlt := drB_edges hB (Array.getElem?_eq_getElem (show i < ops.size by omega)) e he hb
    cases hc : listed.getD e.on false with
    | true => rfl
    | false =>
     exfalso
     have hon := (hin e.on).2 ⟨by omega, getD_in (by rw [inv.size]; omega) hc⟩
     rcases List.mem_cons.1 hon with h | h
     ·omega
     ·have := (List.pairwise_cons.1 hp).1 _ h; omega
  obtain ⟨i0, hi0, hr0⟩ := hfirst
  rw [show f + 1 + g = (f + g) + 1 by omega]
  refine ⟨fun h0 => (by rw [h0] at hr0; cases hr0), fun j hj => ?_⟩
  obtain ⟨hi0m, hun0⟩ := (hin i0).1 hi0
  have hjm := tail_not hB inv hi0m hun0 hj
  obtain ⟨hjun, oj, hoj, _⟩ := mem_ready.1 hj
  have hjrem := (hin j).2 ⟨hjm, hjun⟩
  obtain ⟨v, eff, hy, hd, _, hr'⟩ := pullW hoj hs.closed rem s hr hjrem hnd (fun i hi oi hoi hne hcon => by
    obtain ⟨him, hun⟩ := (hin i).1 hi
    have hsub : ∀ (l : List Nat), l.Pairwise (· < ·) → j ∈ l → (l.takeWhile (· != j)).contains i = true → i < j := by
     intro l
     induction l with
     | nil => intro _ h; cases h
     | cons x l ih =>
      intro hp hjl hc
      rw [List.takeWhile_cons] at hc
      by_cases hx : x = j
      ·subst hx; simp at hc
      ·have hx' : (x != j) = true := by simpa using hx
       rw [hx'] at hc
       simp only [if_true, List.contains_cons, Bool.or_eq_true, beq_iff_eq] at hc
       have hjl' : j ∈ l := by simpa [Ne.symm hx] using hjl
       rcases hc with hc | hc
       ·subst hc; exact (List.pairwise_cons.1 hp).1 j hjl'
       ·exact ih (List.pairwise_cons.1 hp).2 hjl' hc
    have hij := hsub rem hp hjrem hcon
    have hnw := ready_not_waits hj hun
    exact ⟨drB_pair hB hoi hoj him hjm hij hnw, hE i j hij hjm (ready_not_waits2 inv hj hun)⟩) (fun _ h => h) (fun _ _ _ _ _ _ _ h => h) (fun _ _ _ h => h) (fun _ _ => rfl)
  refine ydW_wp hT hΛ hΦ hJJ hs hoj hy hd fun a' w' ρ' hs2 => ?_
  refine head_soundW hT hΛ hΦ hJJ hB hm hE g hend f (rem.erase j) (by rw [List.length_erase_of_mem hjrem]; omega) _ _ a' w' ρ' hs2 hr' (hp.sublist List.erase_sublist) (fun i => ?_) (inv.set hj hjm)
  rw [hnd.mem_erase_iff, hin]
  by_cases hij : j = i
  ·subst hij
   have : j < listed.size := by rw [inv.size]; omega
   simp [this]
  ·rw [getD_set_ne true hij]
   constructor
   ·exact fun h => h.2
   ·exact fun h => ⟨fun he => hij he.symm, h⟩
theorem dr_soundW (hmix : P.follows .mixedOrders = true) (hT : TOkX P X) (hΛ : LamAll P J X) (hΦ : ∀ g args r bs, X.Φ g args = some (r, bs) → SoundAt P J g args r bs) (hJJ : Stable J) {uns : List (List Nat)} (hBW : drBW ops ([] :: uns) = true) {id : Nat} {σ : St} {a : Act} {w : World} {Q : Exit → Act → World → Prop} {K : St → Prop} {m0 : Nat}
  (h : evDr X n ops.toList (m0, [] :: uns) σ K) (hs : Sims J ok w0 F n σ a w) (hQ : ∀ σ a w, K σ → Sims J ok w0 F n σ a w → Q .normal a w) : (Code.region id ops true).wp P Q a w := by
 simp only [evDr] at h
 generalize ([] : List Nat) :: uns = un at h hBW
 unfold drBW at hBW
 simp only [Bool.and_eq_true] at hBW
 obtain ⟨hB, hun⟩ := hBW
 generalize hmm : un.length = m at h hB hun
 have hm : m ≤ ops.size := by rcases drB_tail hB with rfl | ⟨h, _⟩ <;> omega
 have htl : ∀ j (hj : j < m), (ops.toList.take m)[j]? = some (ops[j]'(by omega)) := fun j hj => by
  rw [List.getElem?_take_of_lt hj, Array.getElem?_toList]
  exact Array.getElem?_eq_getElem (by omega)
 have hzl : ((ops.toList.take m).zip un).length = m := by rw [List.length_zip, List.length_take, Array.length_toList, hmm]; omega
 obtain ⟨σ1, E, hK, _, hr, hap⟩ := evHeadW_run ((ops.toList.take m).zip un) 0 [] (fun _ => ⟨none, none⟩) σ (fun j hj => by
  rw [hzl] at hj
  have hz : ((ops.toList.take m).zip un)[j]? = some (ops[j]'(by omega), un[j]'(by omega)) := List.getElem?_zip_eq_some.2 ⟨htl j hj, List.getElem?_eq_getElem (by omega)⟩
  rw [hz, Nat.zero_add, Option.map_some]
  exact (Array.getElem?_eq_getElem (by omega)).symm) (fun i x hx => by cases hx) h
 rw [hzl] at hr
 have hE : ∀ i j, i < j → j < m → waits2 ops j i = false → apartE (E i) (E j) = true := fun i j hij hj hw => by
  have h1 := List.all_eq_true.1 (List.all_eq_true.1 hun j (List.mem_range.2 hj)) i (List.mem_range.2 hij)
  rw [hw, Bool.or_false] at h1
  have hj' : un[j]? = some (un[j]'(by omega)) := List.getElem?_eq_getElem (by omega)
  rw [hj'] at h1
  have := hap j (ops[j]'(by omega), un[j]'(by omega)) (List.getElem?_zip_eq_some.2 ⟨htl j hj, hj'⟩) i (by simpa using h1)
  rwa [Nat.zero_add] at this
 obtain ⟨ρ, hs⟩ := hs
 refine wp_region_any hmix ?_
 have hdr : SimF J ok w0 F n σ.fs a { w with drawn := w.drawn + 1 } ρ := by
  have hb : Below w.heap.size w { w with drawn := w.drawn + 1 } := ⟨rfl, rfl, rfl, Nat.le_refl _, fun _ _ => rfl⟩
  have hmono : ∀ g, okAt ok F.B ρ w g → okAt ok F.B ρ { w with drawn := w.drawn + 1 } g ∧ (World.heap { w with drawn := w.drawn + 1 })[g]? = w.heap[g]? := fun g hg => ⟨hg, rfl⟩
  refine ⟨hs.j, hs.below.trans (hb.mono hs.inv.size), ⟨hs.inv.size, fun b k hk => ?_, hs.inv.dom, hs.inv.inj, hs.inv.new, hs.inv.fr⟩, fun t => (hs.rel t).mono hmono fun _ _ h => h, hs.size, hs.defers, ⟨hs.fr.keep, hs.fr.fresh, hs.fr.hdr, hs.fr.grow⟩, hs.small⟩
  obtain ⟨sv, hr, hb⟩ := hs.inv.blk b k hk
  exact ⟨sv, hr, hb.mono' hmono (Nat.le_refl _) (fun _ _ => rfl) fun _ _ h => h⟩
 have hlen : (List.range' 0 m).length = m := by simp
 have := head_soundW (Q := Q) hT hΛ hΦ hJJ hB hm hE (ops.size - m) (s' := σ1.fs) (fun listed a w ρ hs1 inv hall => by
  have hl : (ops.toList.drop m).length = ops.size - m := by simp
  rw [← hl]
  refine tail_sound hT hΛ hΦ hJJ hB hQ (ops.toList.drop m) m listed σ1 a w (Nat.le_refl _) (by rw [hl]; omega) inv.size (fun j => by simp) (fun i hi => ?_) hK ⟨ρ, hs1.to rfl⟩
  rcases Nat.lt_or_ge i m with hlt | hge
  ·rw [hall i hlt]; simp; omega
  ·rw [inv.tail i hge hi]; simp; omega) m _ hlen (Array.replicate ops.size false) σ.fs a _ ρ hdr hr (by
   exact List.pairwise_lt_range') (fun i => by
   simp only [List.mem_range'_1, Nat.zero_le, Nat.zero_add, true_and]
   constructor
   ·intro hi; refine ⟨by omega, ?_⟩; rw [Array.getD_eq_getD_getElem?, Array.getElem?_replicate, if_pos (by omega)]; rfl
   ·intro hi; omega) ⟨by simp, (fun j oj hj hl => by rw [getD_replicate_false] at hl; exact absurd hl (by simp)), fun t ht ht' => by rw [Array.getD_eq_getD_getElem?, Array.getElem?_replicate, if_pos ht']; rfl⟩
 rwa [show m + (ops.size - m) = ops.size by omega] at this
end
/-! ### Heads in which a row that a call has made is appended to -/
section
variable {X : Ctx} {n : Nat}
theorem appendV_chg {h h' : Hp} {d N : Nat} {t t2 : TypeId} {x : V} {kk : Blk} (hN : h' N = h N) (hx : Up1 h h' x) (hev : appendV X h d t t2 (.vec N) x = some (.vec N, .change N kk)) : appendV X h' d t t2 (.vec N) x = some (.vec N, .change N kk) := by
 unfold appendV at hev ⊢
 split at hev <;> first | (cases hev; done) | skip
 split at hev <;> first | (cases hev; done) | skip
 split at hev <;> first | (cases hev; done) | skip
 rename_i hs
 simp only [*, if_true]
 simp only at hev ⊢
 rename_i i0 _
 cases hb : h N with
 | none => simp [hb] at hev
 | some k =>
  cases k <;> first | (simp [hb] at hev; done) | skip
  cases he : elemsZ i0.size h x with
  | none => simp [hb, he] at hev
  | some p =>
   rw [elemsZ_up hx he]
   simpa only [hb, he] using hev
theorem scrub_off {b : Nat} {r : V} {v : V} (h : ¬ Ref b v) : V.scrub b r v = v := by
 have key : ∀ k, ∀ v : V, SizeOf.sizeOf v ≤ k → ¬ Ref b v → V.scrub b r v = v := by
  intro k
  induction k with
  | zero => intro v hv; cases v <;> simp at hv
  | succ k ih =>
   intro v hv hr
   have hl : ∀ cs : List V, SizeOf.sizeOf cs ≤ k → (∀ c ∈ cs, ¬ Ref b c) → V.scrubL b r cs = cs := by
    intro cs hcs hn
    rw [scrubL_eq]
    conv => rhs; rw [← List.map_id cs]
    refine List.map_congr_left fun c hc => ?_
    have := List.sizeOf_lt_of_mem hc
    exact ih c (by omega) (hn c hc)
   cases v with
   | agg cs => simp only [V.scrub]; rw [hl cs (by simp at hv; omega) fun c hc hr' => hr (.agg hc hr')]
   | tup cs => simp only [V.scrub]; rw [hl cs (by simp at hv; omega) fun c hc hr' => hr (.tup hc hr')]
   | fn f cs => simp only [V.scrub]; rw [hl cs (by simp at hv; omega) fun c hc hr' => hr (.fn hc hr')]
   | ifc t v => simp only [V.scrub]; rw [ih v (by simp at hv; omega) fun hr' => hr (.ifc hr')]
   | ptr b' o =>
    simp only [V.scrub]
    split
    ·rename_i e; subst e; exact absurd (.ptr o) hr
    ·rfl
   | eptr b' sz i o =>
    simp only [V.scrub]
    split
    ·rename_i e; subst e; exact absurd (.eptr sz i o) hr
    ·rfl
   | vec b' =>
    simp only [V.scrub]
    split
    ·rename_i e; subst e; exact absurd .vec hr
    ·rfl
   | sub b' sz lo k =>
    simp only [V.scrub]
    split
    ·rename_i e; subst e; exact absurd (.sub sz lo k) hr
    ·rfl
   | _ => rfl
 exact key _ v (Nat.le_refl _) h
structure PI where
 p : Nat
 q : Nat
 dp : Nat
 dq : Nat
 k : Blk
 wq : List Nat
def PI.N (I : PI) : Nat := 8 * I.dq
def YP (X : Ctx) (I : PI) (i : Nat) (o : Oper) (s : FS) (v : V) (f : Eff) : Prop :=
 o.guard = none ∧
 if i = I.p then v = .undef ∧ f = .none ∧ o.dst = some I.dp ∧ evalOp X s.e s.h I.dq o.op = some (.vec I.N, .new [(I.N, I.k)])
 else if i = I.q then ∃ (t t2 : TypeId) (x : Operand) (kk : Blk), o.op = .call ⟨.builtin .append, ⟨[.tmp I.dp, x]⟩, ⟨[t, t2]⟩⟩ ∧ x ≠ .tmp I.dp ∧ v = .vec I.N ∧ f = .new [(I.N, kk)] ∧ o.dst = some I.dq ∧ s.h I.N = none ∧ s.e I.dp = .undef ∧
  appendV X (augH I.N I.k s.h) I.dq t t2 (.vec I.N) (Ev.opd s.e x) = some (.vec I.N, .change I.N kk)
 else f.mild = true ∧ evalOp X s.e s.h (o.dst.getD 0) o.op = some (v, f) ∧ (I.wq.contains i || (V.noRef I.N v && nrEff I.N f)) = true
theorem scrubB_off {b : Nat} {r v : V} (h : ¬ Ref b v) : V.scrubB b r v = v := by
 unfold V.scrubB
 split
 ·split
  ·rename_i e; subst e; exact absurd .vec h
  ·rfl
 ·split
  ·rename_i e; subst e; exact absurd (.sub _ _ _) h
  ·rfl
 ·exact scrub_off h
theorem YP.mild {I : PI} {i : Nat} {o : Oper} {s : FS} {v : V} {f : Eff} (h : YP X I i o s v f) : f.mild = true := by
 obtain ⟨_, h⟩ := h
 split at h
 ·rw [h.2.1]; rfl
 ·split at h
  ·obtain ⟨_, _, _, _, _, _, _, rfl, _⟩ := h; rfl
  ·exact h.1
theorem YP.new {I : PI} {i : Nat} {o : Oper} {s : FS} {v : V} {f : Eff} (h : YP X I i o s v f) {b : Nat} (hb : f.has b = true) : s.h b = none := by
 obtain ⟨_, h⟩ := h
 split at h
 ·rw [h.2.1] at hb; cases hb
 ·split at h
  ·obtain ⟨_, _, _, _, _, _, _, rfl, _, hN, _⟩ := h
   rw [has1 hb]; exact hN
  ·exact evalOp_new h.2.1 hb
theorem lookup_mem {b : Nat} {k : Blk} : ∀ {l : List (Nat × Blk)}, l.lookup b = some k → (b, k) ∈ l
 | [], h => by simp at h
 | (y1, y2) :: l, h => by
  rw [List.lookup_cons] at h
  split at h
  ·rename_i he
   simp at h he
   subst h; subst he
   simp
  ·exact List.mem_cons_of_mem _ (lookup_mem h)
theorem nr_has {N : Nat} {f : Eff} (h : nrEff N f = true) : f.has N = false := by
 cases f with
 | none => rfl
 | new l =>
  simp only [nrEff, List.all_eq_true, Bool.and_eq_true] at h
  simp only [Eff.has, List.any_eq_false]
  intro p hp
  have := (h p hp).1
  simpa using this
 | _ => cases h
theorem YP.off {I : PI} {j : Nat} {o : Oper} {s : FS} {v : V} {f : Eff} (h : YP X I j o s v f) (hq : j ≠ I.q) (hw : I.wq.contains j = false) : f.has I.N = false ∧ ¬ Ref I.N v ∧ ∀ b x, (f.hp (fun _ => none)) b = some (.box x) → ¬ Ref I.N x := by
 obtain ⟨_, h⟩ := h
 split at h
 ·obtain ⟨rfl, rfl, _⟩ := h
  exact ⟨rfl, (fun hr => by cases hr), (fun b x hb => by cases hb)⟩
 ·(try rw [if_neg hq] at h)
  obtain ⟨_, _, h⟩ := h
  rw [hw, Bool.false_or, Bool.and_eq_true] at h
  refine ⟨nr_has h.2, (fun hr => by rw [ref_noRef hr] at h; exact absurd h.1 (by simp)), fun b x hb hr => ?_⟩
  cases f with
  | none => cases hb
  | new l =>
   simp only [Eff.hp, either] at hb
   have hm : (b, Blk.box x) ∈ l := lookup_mem hb
   have := List.all_eq_true.1 h.2 _ hm
   simp only [Bool.and_eq_true] at this
   rw [ref_noRef hr] at this
   exact absurd this.2 (by simp)
  | _ => exact absurd h.2 (by simp [nrEff])
theorem opd_look {ops : Array Oper} {o : Oper} {e e' : Env} (he : ∀ t ∈ o.looksAt ops, e t = e' t) {x : Operand} (hx : x ∈ o.op.operands) : Ev.opd e x = Ev.opd e' x := by
 cases x with
 | tmp t => exact he t (List.mem_append_left _ (List.mem_filterMap.2 ⟨.tmp t, by simpa using hx, rfl⟩))
 | _ => rfl
theorem aug_up {N : Nat} {k : Blk} {h h' : Hp} {x : V} (hu : Up1 h h' x) : Up1 (augH N k h) (augH N k h') x := by
 intro b hb kk hk
 unfold augH at hk ⊢
 split at hk
 ·rename_i e; rw [if_pos e]; exact hk
 ·rename_i e; rw [if_neg e]; exact hu b hb kk hk
theorem YP.back {I : PI} {ops : Array Oper} {i : Nat} {o : Oper} {s τ : FS} {v : V} {f : Eff} (hc : Closed s) (hy : YP X I i o τ v f) (hle : ∀ b k, s.h b = some k → τ.h b = some k) (hlk : ∀ t ∈ o.looksAt ops, τ.e t = s.e t) : YP X I i o s v f := by
 have hup : ∀ x ∈ o.op.operands, Up τ.h s.h (Ev.opd τ.e x) := by
  intro x hx
  rw [opd_look hlk hx]
  intro b hb k hk
  obtain ⟨k0, hk0⟩ := hc.opd hb
  have : k = k0 := by have := hle b k0 hk0; rw [hk] at this; exact Option.some.inj this
  subst this
  refine ⟨hk0, fun y hy b' hb' k' hk' => ?_⟩
  subst hy
  obtain ⟨k1, hk1⟩ := hc.box b y hk0 b' hb'
  have : k' = k1 := by have := hle b' k1 hk1; rw [hk'] at this; exact Option.some.inj this
  subst this
  exact hk1
 have hno : ∀ b, τ.h b = none → s.h b = none := fun b hb => by
  cases hs : s.h b with
  | none => rfl
  | some k => have := hle b k hs; rw [hb] at this; cases this
 have env : ∀ d h, evalOp X s.e h d o.op = evalOp X τ.e h d o.op := fun d h => evalOp_env fun x hx => (opd_look hlk hx).symm
 obtain ⟨hg, hy⟩ := hy
 refine ⟨hg, ?_⟩
 split at hy
 ·rename_i hp
  rw [if_pos hp]
  obtain ⟨h1, h2, hds, h3⟩ := hy
  refine ⟨h1, h2, hds, ?_⟩
  rw [env]
  exact evalOp_mono h3 rfl hup fun b hb => hno b (evalOp_new h3 hb)
 ·rename_i hp
  rw [if_neg hp]
  split at hy
  ·rename_i hq
   rw [if_pos hq]
   obtain ⟨t, t2, x, kk, ho, hx, hv, hf, hds, hN, hdp, ha⟩ := hy
   have hmx : x ∈ o.op.operands := by rw [ho]; simp [Op.operands, Call.operands]
   have hmd : Operand.tmp I.dp ∈ o.op.operands := by rw [ho]; simp [Op.operands, Call.operands]
   refine ⟨t, t2, x, kk, ho, hx, hv, hf, hds, hno _ hN, ?_, ?_⟩
   ·have := opd_look hlk hmd
    exact this.symm.trans hdp
   ·rw [← opd_look hlk hmx]
    exact appendV_chg (by simp [augH]) (aug_up (hup x hmx).up1) ha
  ·rename_i hq
   rw [if_neg hq]
   refine ⟨hy.1, ?_, hy.2.2⟩
   rw [env]
   exact evalOp_mono hy.2.1 hy.1 hup fun b hb => hno b (evalOp_new hy.2.1 hb)
theorem YP.fwd {I : PI} {ops : Array Oper} {i : Nat} {o : Oper} {τ : FS} {v : V} {f : Eff} (hy : YP X I i o τ v f) {x : Option Nat} {u : V} {g : Eff} (hgm : g.mild = true) (hx : ∀ t ∈ o.looksAt ops, x ≠ some t)
  (hfr : ∀ b, g.has b = true → τ.h b = none ∧ f.has b = false) (hN : i = I.p ∨ i = I.q → g.has I.N = false) : YP X I i o (τ.put x u g) v f := by
 have hlk : ∀ t ∈ o.looksAt ops, (τ.put x u g).e t = τ.e t := fun t ht => by
  simp only [FS.put]
  rw [if_neg (hx t ht)]
 have hup : ∀ y : V, Up τ.h (τ.put x u g).h y := fun y b hb k hk => ⟨hp_ge g hgm τ.h hk, fun z _ b' _ k' hk' => hp_ge g hgm τ.h hk'⟩
 have env : ∀ d h, evalOp X (τ.put x u g).e h d o.op = evalOp X τ.e h d o.op := fun d h => evalOp_env fun y hy => opd_look hlk hy
 have hno : ∀ b, τ.h b = none → g.has b = false → (τ.put x u g).h b = none := fun b h1 h2 => (hp_has g hgm τ.h b).2 ⟨h1, h2⟩
 have hfg : ∀ b, f.has b = true → g.has b = false := fun b hb => by
  cases hg : g.has b with
  | false => rfl
  | true => have := (hfr b hg).2; rw [hb] at this; cases this
 obtain ⟨hg, hy⟩ := hy
 refine ⟨hg, ?_⟩
 split at hy
 ·rename_i hp
  rw [if_pos hp]
  obtain ⟨h1, h2, hds, h3⟩ := hy
  refine ⟨h1, h2, hds, ?_⟩
  rw [env]
  exact evalOp_mono h3 rfl (fun y _ => hup _) fun b hb => by
   have := has1 hb
   subst this
   exact hno _ (evalOp_new h3 hb) (hN (.inl hp))
 ·rename_i hp
  rw [if_neg hp]
  split at hy
  ·rename_i hq
   rw [if_pos hq]
   obtain ⟨t, t2, y, kk, ho, hyx, hv, hf, hds, hNn, hdp, ha⟩ := hy
   have hmx : y ∈ o.op.operands := by rw [ho]; simp [Op.operands, Call.operands]
   have hmd : Operand.tmp I.dp ∈ o.op.operands := by rw [ho]; simp [Op.operands, Call.operands]
   refine ⟨t, t2, y, kk, ho, hyx, hv, hf, hds, hno _ hNn (hN (.inr hq)), ?_, ?_⟩
   ·have := opd_look hlk hmd
    exact this.trans hdp
   ·rw [opd_look hlk hmx]
    exact appendV_chg (by simp [augH]) (aug_up (hup _).up1) ha
  ·rename_i hq
   rw [if_neg hq]
   refine ⟨hy.1, ?_, hy.2.2⟩
   rw [env]
   exact evalOp_mono hy.2.1 hy.1 (fun y _ => hup _) fun b hb => hno b (evalOp_new hy.2.1 hb) (hfg b hb)
def RnP (X : Ctx) (n : Nat) (ops : Array Oper) (I : PI) : List Nat → FS → FS → Prop
 | [], s, s' => s = s'
 | i :: is, s, s' => ∃ o v f, ops[i]? = some o ∧ YP X I i o s v f ∧ dstOk n o.dst ∧ RnP X n ops I is (s.put o.dst v f) s'
theorem pullP {ops : Array Oper} {I : PI} {j : Nat} {oj : Oper} {s s' : FS} (hj : ops[j]? = some oj) (hc : Closed s) : ∀ (rem : List Nat) (τ : FS), RnP X n ops I rem τ s' → j ∈ rem → rem.Nodup →
  (∀ i ∈ rem, ∀ oi, ops[i]? = some oi → i ≠ j → (rem.takeWhile (· != j)).contains i = true → oi.apart ops oj = true ∧ (i = I.p ∨ i = I.q → j ≠ I.q ∧ I.wq.contains j = false)) →
  (∀ b k, s.h b = some k → τ.h b = some k) → (∀ t ∈ oj.looksAt ops, τ.e t = s.e t) →
  ∃ v f, YP X I j oj s v f ∧ dstOk n oj.dst ∧ (∀ b, f.has b = true → τ.h b = none) ∧ RnP X n ops I (rem.erase j) (τ.put oj.dst v f) s'
 | [], τ, _, hm, _, _, _, _ => by cases hm
 | i :: rem, τ, hr, hm, hn, hap, hle, hlk => by
  obtain ⟨o, v, f, hi, hy, hd, hr⟩ := hr
  by_cases hij : i = j
  ·subst hij
   have : o = oj := Option.some.inj (hi.symm.trans hj)
   subst this
   exact ⟨v, f, hy.back hc hle hlk, hd, fun b hb => hy.new hb, by simpa using hr⟩
  ·have hjr : j ∈ rem := by simpa [Ne.symm hij] using hm
   have hne : (i != j) = true := by simpa using hij
   obtain ⟨hapi, hpq⟩ := hap i (by simp) o hi hij (by rw [List.takeWhile_cons, hne]; simp)
   obtain ⟨h1, h2, h3⟩ := Oper.apart_spec hapi
   have hnd := List.nodup_cons.1 hn
   obtain ⟨u, g, hyj, hdj, hfr, hr'⟩ := pullP hj hc rem (τ.put o.dst v f) hr hjr hnd.2 (fun i' hi' oi' ho' hne' hcon => hap i' (by simp [hi']) oi' ho' hne' (by
     rw [List.takeWhile_cons, hne]; simp only [if_true, List.contains_cons, hcon, Bool.or_true])) (fun b k hk => hp_ge f hy.mild τ.h (hle b k hk)) (fun t ht => by
     simp only [FS.put]
     rw [if_neg (fun he => h1 t he ht)]
     exact hlk t ht)
   have hfr' : ∀ b, g.has b = true → τ.h b = none ∧ f.has b = false := fun b hb => (hp_has f hy.mild τ.h b).1 (hfr b hb)
   refine ⟨u, g, hyj, hdj, fun b hb => (hfr' b hb).1, ?_⟩
   rw [List.erase_cons_tail (by simpa using hij)]
   refine ⟨o, v, f, hi, hy.fwd hyj.mild (fun t ht he => h3 t he ht) hfr' (fun hh => (hyj.off (hpq hh).1 (hpq hh).2).1), hd, ?_⟩
   rw [← FS.put_comm τ hy.mild hyj.mild h2 (fun b hb => by
     cases hg : g.has b with
     | false => rfl
     | true => have := (hfr' b hg).2; rw [hb] at this; cases this)]
   exact hr'
theorem evHeadP_run {ops : Array Oper} {p q dp dq : Nat} {wq : List Nat} {K : Option Blk → St → Prop} : ∀ (l : List Oper) (k : Nat) (pd : Option Blk) (σ : St), (∀ j, j < l.length → l[j]? = ops[k + j]?) → (k ≤ p → pd = none) → evHeadP X n p q dp dq wq l k pd σ K →
  ∃ kk, (∀ k0, pd = some k0 → k0 = kk) ∧ ∃ pd' σ', K pd' σ' ∧ RnP X n ops ⟨p, q, dp, dq, kk, wq⟩ (List.range' k l.length) σ.fs σ'.fs
 | [], k, pd, σ, _, _, h => ⟨pd.getD (.box .undef), fun k0 h0 => by rw [h0]; rfl, pd, σ, h, rfl⟩
 | o :: l, k, pd, σ, hl, hpd, h => by
  have h0 : ops[k]? = some o := by have := hl 0 (by simp); simpa using this.symm
  have hl' : ∀ j, j < l.length → l[j]? = ops[k + 1 + j]? := fun j hj => by have := hl (j + 1) (by simp; omega); rw [show k + 1 + j = k + (j + 1) by omega]; simpa using this
  obtain ⟨dst, op, ty, pos, after, guard⟩ := o
  rw [List.length_cons, List.range'_succ]
  cases guard with
  | some g => simp only [evHeadP] at h
  | none =>
   simp only [evHeadP] at h
   by_cases hkp : k = p
   ·rw [if_pos hkp] at h
    unfold onSome at h
    split at h
    ·rename_i r hr
     split at h
     ·rename_i b b' kk
      obtain ⟨⟨h1, h2, h3, hd⟩, h⟩ := h
      obtain ⟨kk2, hk2, pd', σ', hK, hr'⟩ := evHeadP_run l (k + 1) (some kk) _ hl' (by omega) h
      have := hk2 kk rfl
      subst this
      rw [app_fs σ (eff := .none) rfl] at hr'
      refine ⟨kk, fun k0 hk0 => ?_, pd', σ', hK, ⟨dst, op, ty, pos, after, none⟩, .undef, .none, h0, ⟨rfl, ?_⟩, hd, hr'⟩
      ·rw [hpd (by omega)] at hk0; cases hk0
      ·rw [if_pos hkp]
       refine ⟨rfl, rfl, h1, ?_⟩
       subst h2; subst h3
       exact hr
     ·exact h.elim
    ·exact h.elim
   ·rw [if_neg hkp] at h
    by_cases hkq : k = q
    ·rw [if_pos hkq] at h
     split at h
     ·rename_i kk
      unfold onSome at h
      split at h
      ·rename_i r hr
       split at h
       ·rename_i b b' k2
        obtain ⟨⟨h1, h2, h3, hd, hN, hdp⟩, h⟩ := h
        obtain ⟨kk2, hk2, pd', σ', hK, hr'⟩ := evHeadP_run l (k + 1) (some kk) _ hl' (fun hh => absurd (hpd (by omega)) (by simp)) h
        have := hk2 kk rfl
        subst this
        rw [app_fs σ (eff := .new _) rfl] at hr'
        refine ⟨kk, fun k0 hk0 => by simpa using hk0.symm, pd', σ', hK, ⟨dst, op, ty, pos, after, none⟩, _, _, h0, ⟨rfl, ?_⟩, hd, hr'⟩
        rw [if_neg hkp, if_pos hkq]
        unfold appP at hr
        split at hr
        ·rename_i a x t t2
         split at hr
         ·rename_i hc
          subst h2; subst h3
          refine ⟨t, t2, .tmp x, k2, ?_, ?_, rfl, rfl, h1, isNone_eq hN, hdp, hr⟩
          ·rw [← hc.1]
          ·intro e
           simp only [Operand.tmp.injEq] at e
           exact hc.2 e
         ·cases hr
        ·cases hr
       ·exact h.elim
      ·exact h.elim
     ·exact h.elim
    ·rw [if_neg hkq] at h
     unfold onSome at h
     split at h
     ·rename_i r hr
      obtain ⟨⟨hd, hm, hw⟩, h⟩ := h
      obtain ⟨kk2, hk2, pd', σ', hK, hr'⟩ := evHeadP_run l (k + 1) pd _ hl' (fun hh => hpd (by omega)) h
      rw [app_fs σ hm] at hr'
      refine ⟨kk2, hk2, pd', σ', hK, ⟨dst, op, ty, pos, after, none⟩, r.1, r.2, h0, ⟨rfl, ?_⟩, hd, hr'⟩
      rw [if_neg hkp, if_neg hkq]
      exact ⟨hm, hr, hw⟩
     ·exact h.elim
end
section
variable {P : Program} {X : Ctx} {J : World → Prop} {ok : Nat → Prop} {w0 : World} {F : Fr} {n : Nat} {ops : Array Oper} {m : Nat}
def aug (I : PI) (s : FS) : FS := s.put (some I.dp) (.vec I.N) (.new [(I.N, I.k)])
def curP (I : PI) (lp lq : Bool) (s : FS) : FS := if lp = true ∧ lq = false then aug I s else s
def SimP (J : World → Prop) (ok : Nat → Prop) (w0 : World) (F : Fr) (n : Nat) (I : PI) (listed : Array Bool) (s : FS) (a : Act) (w : World) (ρ : Nat → Option Value) : Prop :=
 SimF J ok w0 F n (curP I (listed.getD I.p true) (listed.getD I.q true) s) a w ρ ∧
 (listed.getD I.p true = true → listed.getD I.q true = false → s.e I.dp = .undef) ∧
 (listed.getD I.q true = false → s.h I.N = none ∧ (∀ t, ¬ Ref I.N (s.e t)) ∧ ∀ b x, s.h b = some (.box x) → ¬ Ref I.N x)
theorem aug_h {I : PI} {s : FS} (hN : s.h I.N = none) : (aug I s).h = augH I.N I.k s.h := by
 funext b
 simp only [aug, FS.put, Eff.hp, either, augH]
 by_cases hb : b = I.N
 ·subst hb; rw [hN]; simp
 ·rw [if_neg hb]
  cases s.h b with
  | some k => rfl
  | none => simp [hb]
theorem SimP.closed {I : PI} {listed : Array Bool} {s : FS} {a : Act} {w : World} {ρ : Nat → Option Value} (h : SimP J ok w0 F n I listed s a w ρ) : Closed s := by
 obtain ⟨hs, hdp, hq⟩ := h
 unfold curP at hs
 split at hs
 ·rename_i hc
  obtain ⟨hN, he, hb⟩ := hq hc.2
  have hcl := hs.closed
  have hdom : ∀ b, b ≠ I.N → (∃ k, (aug I s).h b = some k) → ∃ k, s.h b = some k := by
   rintro b hb ⟨k, hk⟩
   rw [aug_h hN] at hk
   unfold augH at hk
   rw [if_neg hb] at hk
   exact ⟨k, hk⟩
  refine ⟨fun t b hr => ?_, fun b x hx b' hr => ?_⟩
  ·have hbn : b ≠ I.N := fun e => by subst e; exact he t hr
   refine hdom b hbn (hcl.env t b ?_)
   simp only [aug, FS.put]
   split
   ·rename_i ht
    simp only [Option.some.injEq] at ht
    subst ht
    rw [hdp hc.1 hc.2] at hr
    cases hr
   ·exact hr
  ·have hbn : b' ≠ I.N := fun e => by subst e; exact hb b x hx hr
   refine hdom b' hbn (hcl.box b x ?_ b' hr)
   rw [aug_h hN]
   unfold augH
   rw [if_neg (fun e => by subst e; rw [hN] at hx; cases hx)]
   exact hx
 ·exact hs.closed
theorem aug_comm {I : PI} {s : FS} {x : Option Nat} {v : V} {f : Eff} (hf : f.mild = true) (hx : x ≠ some I.dp) (hN : f.has I.N = false) : (aug I s).put x v f = aug I (s.put x v f) := by
 unfold aug
 refine FS.put_comm s rfl hf (fun d hd e => hx (by rw [e, ← hd])) fun b hb => ?_
 rw [has1 hb]; exact hN
theorem drBP_spec {p q dp dq : Nat} {wq : List Nat} (h : drBP ops m p q dp dq wq = true) : drB ops m = true ∧ p < q ∧ q < m ∧ dp ≠ dq ∧ dq < 100000 ∧ Region.waitsFor .any ops q p = true ∧ (∀ i ∈ wq, Region.waitsFor .any ops i q = true) ∧
  ∀ i o, i < m → ops[i]? = some o → (i = q ∨ dp ∉ o.looksAt ops) ∧ (i = p ∨ o.dst ≠ some dp) := by
 unfold drBP at h
 simp only [Bool.and_eq_true, decide_eq_true_eq, List.all_eq_true] at h
 obtain ⟨⟨⟨⟨⟨⟨⟨h1, h2⟩, h3⟩, h4⟩, h5⟩, h6⟩, h7⟩, h8⟩ := h
 refine ⟨h1, h2, h3, h4, h5, h6, h7, fun i o hi ho => ?_⟩
 have := h8 i (List.mem_range.2 hi)
 rw [ho] at this
 simp only [Bool.and_eq_true, Bool.or_eq_true, decide_eq_true_eq, Bool.not_eq_true'] at this
 refine ⟨this.1.imp id fun hh hm => ?_, this.2⟩
 rw [List.contains_iff_mem.2 hm] at hh
 cases hh
theorem ready_waits {listed : Array Bool} {i j : Nat} (hj : j ∈ Region.ready .any ops listed) (hw : Region.waitsFor .any ops j i = true) : listed.getD i false = true := by
 obtain ⟨oj, hoj, e, he, hb, hon⟩ := Region.waitsFor_spec hw
 obtain ⟨_, o, ho, hall⟩ := mem_ready.1 hj
 have : o = oj := Option.some.inj (ho.symm.trans hoj)
 subst this
 rw [← hon]
 exact hall e he hb
theorem getD_tf {listed : Array Bool} {i : Nat} (h : listed.getD i false = true) : listed.getD i true = true := by
 cases hc : listed.getD i true with
 | true => rfl
 | false => rw [getD_both hc] at h; cases h
theorem getD_set_self {listed : Array Bool} {j : Nat} (h : j < listed.size) : (listed.setIfInBounds j true).getD j true = true := by
 simp [h]
theorem op_wpD (hT : TOkX P X) (hΛ : LamAll P J X) (hΦ : ∀ g args r bs, X.Φ g args = some (r, bs) → SoundAt P J g args r bs) {s : FS} {a : Act} {w : World} {ρ : Nat → Option Value} (hs : SimF J ok w0 F n s a w ρ) {o : Oper} {d : Nat} {v : V} {eff : Eff}
  (h : evalOp X s.e s.h d o.op = some (v, eff)) {KW : Act → World → Prop} {Q : Exit → Act → World → Prop}
  (hK : ∀ w' ρ' val, Step ok F.B w ρ w' ρ' (eff.hp s.h) eff.tr eff.tc → Rel w' (okAt ok F.B ρ' w') ρ' v val → KW (a.put o.dst val) w') : o.wp P a w KW Q :=
 op_sound hT hΛ hΦ (fun w' hb => hs.j w' (hs.below.trans hb)) hs.inv hs.opd h KW Q fun w' ρ' val hst hr => hK w' ρ' val hst hr
theorem waits_un {listed : Array Bool} (inv : HeadInv .any ops m listed) {p q : Nat} (hw : Region.waitsFor .any ops q p = true) (hq : q < listed.size) (hp : listed.getD p true = false) : listed.getD q true = false := by
 cases hc : listed.getD q false with
 | false => exact getD_in hq hc
 | true =>
  obtain ⟨oq, hoq, e, he, hb, hon⟩ := Region.waitsFor_spec hw
  have h3 := inv.closed q oq hoq hc e he hb
  rw [hon, getD_both hp] at h3
  cases h3
theorem nr_put {I : PI} {j : Nat} {o : Oper} {s : FS} {v : V} {f : Eff} (hy : YP X I j o s v f) (hq : j ≠ I.q) (hw : I.wq.contains j = false) (h : s.h I.N = none ∧ (∀ t, ¬ Ref I.N (s.e t)) ∧ ∀ b x, s.h b = some (.box x) → ¬ Ref I.N x) :
  (s.put o.dst v f).h I.N = none ∧ (∀ t, ¬ Ref I.N ((s.put o.dst v f).e t)) ∧ ∀ b x, (s.put o.dst v f).h b = some (.box x) → ¬ Ref I.N x := by
 obtain ⟨h1, h2, h3⟩ := hy.off hq hw
 refine ⟨(hp_has f hy.mild s.h I.N).2 ⟨h.1, h1⟩, fun t hr => ?_, fun b x hb hr => ?_⟩
 ·simp only [FS.put] at hr
  split at hr
  ·exact h2 hr
  ·exact h.2.1 t hr
 ·simp only [FS.put] at hb
  have hm := hy.mild
  cases f with
  | none => exact h.2.2 b x hb hr
  | new l =>
   simp only [Eff.hp, either] at hb
   cases hs : s.h b with
   | some k =>
    rw [hs] at hb
    simp only at hb
    exact h.2.2 b x (by rw [hs]; exact hb) hr
   | none =>
    rw [hs] at hb
    exact h3 b x (by simp only [Eff.hp, either]; exact hb) hr
  | _ => cases hm
theorem yp_wp (hT : TOkX P X) (hΛ : LamAll P J X) (hΦ : ∀ g args r bs, X.Φ g args = some (r, bs) → SoundAt P J g args r bs) {I : PI} (hB : drBP ops m I.p I.q I.dp I.dq I.wq = true) (hm : m ≤ ops.size) {listed : Array Bool} {s : FS} {a : Act} {w : World} {ρ : Nat → Option Value} (hs : SimP J ok w0 F n I listed s a w ρ)
  (inv : HeadInv .any ops m listed) {j : Nat} {o : Oper} (hj : ops[j]? = some o) (hr : j ∈ Region.ready .any ops listed) (hjm : j < m) {v : V} {f : Eff} (hy : YP X I j o s v f) (hd : dstOk n o.dst) {KW : Act → World → Prop} {Q : Exit → Act → World → Prop}
  (hK : ∀ a' w' ρ', SimP J ok w0 F n I (listed.setIfInBounds j true) (s.put o.dst v f) a' w' ρ' → KW a' w') : wpOp P ops Q j KW a w := by
 obtain ⟨hB1, hpq, hqm, hne, hdq, hqp, hwq, hall⟩ := drBP_spec hB
 have hjun : listed.getD j true = false := (mem_ready.1 hr).1
 have hjs : j < listed.size := by rw [inv.size]; omega
 have hqs : I.q < listed.size := by rw [inv.size]; omega
 obtain ⟨hsim, hdp, hqn⟩ := hs
 have hset : ∀ i, j ≠ i → (listed.setIfInBounds j true).getD i true = listed.getD i true := fun i hi => getD_set_ne true hi
 have hself := getD_set_self (listed := listed) hjs
 have hyG := hy
 obtain ⟨hlk, hds⟩ := hall j o hjm hj
 unfold wpOp
 simp only [hj]
 have lift : o.guard = none → o.wp P a w KW Q → (if Region.wanted o (yielded ops a.tmps) = true then o.wp P a w KW Q ∨ (o.asks P a w ∧ LetsOut Q) else KW (a.put o.dst undef) w) := fun hg h => by
  obtain ⟨dst, op, ty, pos, after, guard⟩ := o
  simp only at hg
  subst hg
  exact .inl h
 obtain ⟨hg, hyy⟩ := hy
 refine lift hg ?_
 by_cases hjp : j = I.p
 ·rw [if_pos hjp] at hyy
  obtain ⟨rfl, rfl, hdst, hev⟩ := hyy
  have hp0 : listed.getD I.p true = false := by rw [← hjp]; exact hjun
  have hq0 := waits_un inv hqp hqs hp0
  have hjq : j ≠ I.q := by omega
  have hcur : SimF J ok w0 F n s a w ρ := by
   unfold curP at hsim
   rw [if_neg (by rw [hp0]; simp)] at hsim
   exact hsim
  refine op_wpD hT hΛ hΦ hcur hev fun w' ρ' val hst hrel => hK _ _ ρ' ⟨?_, fun _ _ => ?_, fun _ => ?_⟩
  ·rw [hdst]
   rw [hdst] at hd
   have h1 := hcur.step hd rfl (fun b hb => evalOp_tc hev hdq hb) hst hrel
   have e : curP I ((listed.setIfInBounds j true).getD I.p true) ((listed.setIfInBounds j true).getD I.q true) (s.put (some I.dp) .undef .none) = s.put (some I.dp) (.vec I.N) (.new [(I.N, I.k)]) := by
    rw [hset I.q hjq, hq0, ← hjp, hself]
    unfold curP
    rw [if_pos ⟨rfl, rfl⟩]
    simp only [aug, FS.put, FS.mk.injEq]
    refine ⟨?_, rfl⟩
    funext t
    by_cases ht : some I.dp = some t
    ·rw [if_pos ht, if_pos ht]
    ·rw [if_neg ht, if_neg ht, if_neg ht]
   rw [e]
   exact h1
  ·rw [hdst]; simp [FS.put]
  ·obtain ⟨h1, h2, h3⟩ := hqn hq0
   refine ⟨h1, fun t hrf => ?_, h3⟩
   simp only [FS.put] at hrf
   split at hrf
   ·cases hrf
   ·exact h2 t hrf
 rw [if_neg hjp] at hyy
 by_cases hjq : j = I.q
 ·rw [if_pos hjq] at hyy
  obtain ⟨t, t2, x, kk, ho, hx, rfl, rfl, hdst, hN, hedp, ha⟩ := hyy
  have hp1 : listed.getD I.p true = true := getD_tf (ready_waits hr (by rw [hjq]; exact hqp))
  have hq0 : listed.getD I.q true = false := by rw [← hjq]; exact hjun
  have hcur : SimF J ok w0 F n (aug I s) a w ρ := by
   unfold curP at hsim
   rw [if_pos ⟨hp1, hq0⟩] at hsim
   exact hsim
  obtain ⟨_, hre, hrb⟩ := hqn hq0
  have hae : ∀ t, t ≠ I.dp → (aug I s).e t = s.e t := fun t ht => by
   simp only [aug, FS.put]
   rw [if_neg (fun e => ht (Option.some.inj e).symm)]
  have had : (aug I s).e I.dp = .vec I.N := by simp [aug, FS.put]
  have hox : Ev.opd (aug I s).e x = Ev.opd s.e x := by
   cases x with
   | tmp t => exact hae t fun e => hx (by rw [e])
   | _ => rfl
  have hev : evalOp X (aug I s).e (aug I s).h I.dq o.op = some (.vec I.N, .change I.N kk) := by
   rw [ho, aug_h hN]
   show appendV X (augH I.N I.k s.h) I.dq t t2 ((aug I s).e I.dp) (Ev.opd (aug I s).e x) = _
   rw [had, hox]
   exact ha
  refine op_wpD hT hΛ hΦ hcur hev fun w' ρ' val hst hrel => hK _ _ ρ' ⟨?_, fun _ h => ?_, fun h => ?_⟩
  ·have e : curP I ((listed.setIfInBounds j true).getD I.p true) ((listed.setIfInBounds j true).getD I.q true) (s.put o.dst (.vec I.N) (.new [(I.N, kk)])) = s.put o.dst (.vec I.N) (.new [(I.N, kk)]) := by
    rw [← hjq, hself]
    unfold curP
    rw [if_neg (by simp)]
   rw [e, hdst]
   rw [hdst] at hd
   have hh : Eff.hp (aug I s).h (.change I.N kk) = (s.put (some I.dq) (.vec I.N) (.new [(I.N, kk)])).h := by
    rw [aug_h hN]
    funext b
    simp only [FS.put, Eff.hp, upd, either, hpScrub, augH]
    by_cases hb : b = I.N
    ·subst hb; rw [hN]; simp
    ·rw [if_neg hb, if_neg hb]
     cases hsb : s.h b with
     | none =>
      have hbb : (b == I.N) = false := by simpa using hb
      simp only [Option.map_none, List.lookup_cons, hbb, List.lookup_nil]
     | some k =>
      simp only [Option.map_some, Option.some.injEq]
      cases k with
      | box y => simp only [Blk.scrub]; rw [scrubB_off (hrb b y hsb)]
      | _ => rfl
   refine ⟨hcur.j, hcur.below.trans hst.below, by rw [← hh]; exact hst.inv, fun u => ?_, by rw [put_size]; exact hcur.size, by rw [Ev.put_defers]; exact hcur.defers, hcur.fr.step hst fun b hb => evalOp_tc hev hdq hb, hcur.small⟩
   rw [put_getD a (some I.dq) val u (by rw [hcur.size]; exact hd)]
   simp only [FS.put]
   split
   ·exact hrel
   ·by_cases hu : u = I.dp
    ·rw [hu, hedp]; exact .ro (.undef _)
    ·have h1 := hst.rel _ _ (hcur.rel u)
     rw [hae u hu] at h1
     have h2 : Eff.tr (.change I.N kk) (s.e u) = s.e u := scrub_off (hre u)
     rw [h2] at h1
     exact h1
  ·rw [← hjq, hself] at h; cases h
  ·rw [← hjq, hself] at h; cases h
 rw [if_neg hjq] at hyy
 obtain ⟨hmild, hev, _⟩ := hyy
 have hpS := hset I.p hjp
 have hqS := hset I.q hjq
 have hwf : listed.getD I.q true = false → I.wq.contains j = false := fun hq0 => by
  cases hc : I.wq.contains j with
  | false => rfl
  | true =>
   have h1 := getD_tf (ready_waits hr (hwq j (List.contains_iff_mem.1 hc)))
   rw [hq0] at h1
   cases h1
 have hdst : o.dst ≠ some I.dp := hds.resolve_left hjp
 have hlook : I.dp ∉ o.looksAt ops := hlk.resolve_left hjq
 have hedp : (s.put o.dst v f).e I.dp = s.e I.dp := by
  simp only [FS.put]
  rw [if_neg hdst]
 by_cases hpend : listed.getD I.p true = true ∧ listed.getD I.q true = false
 ·have hcur : SimF J ok w0 F n (aug I s) a w ρ := by
   unfold curP at hsim
   rw [if_pos hpend] at hsim
   exact hsim
  have hoff := hyG.off hjq (hwf hpend.2)
  have hae : ∀ t, t ≠ I.dp → (aug I s).e t = s.e t := fun t ht => by
   simp only [aug, FS.put]
   rw [if_neg (fun e => ht (Option.some.inj e).symm)]
  have hev' : evalOp X (aug I s).e (aug I s).h (o.dst.getD 0) o.op = some (v, f) := by
   rw [evalOp_env fun y hy => opd_look (ops := ops) (o := o) (fun t ht => hae t fun e => hlook (by rw [← e]; exact ht)) hy]
   refine evalOp_mono hev hmild (fun y _ b hb k hk => ⟨hp_ge (.new [(I.N, I.k)]) rfl s.h hk, fun z _ b' _ k' hk' => hp_ge (.new [(I.N, I.k)]) rfl s.h hk'⟩) fun b hb => ?_
   refine (hp_has (.new [(I.N, I.k)]) rfl s.h b).2 ⟨evalOp_new hev hb, ?_⟩
   cases hc : Eff.has b (.new [(I.N, I.k)]) with
   | false => rfl
   | true =>
    have := has1 hc
    subst this
    rw [hoff.1] at hb
    cases hb
  refine op_wpD hT hΛ hΦ hcur hev' fun w' ρ' val hst hrel => hK _ _ ρ' ⟨?_, fun _ _ => ?_, fun _ => nr_put hyG hjq (hwf hpend.2) (hqn hpend.2)⟩
  ·rw [hpS, hqS]
   unfold curP
   rw [if_pos hpend, ← aug_comm hmild hdst hoff.1]
   exact hcur.step hd hmild (fun b hb => evalOp_tc hev' (dst_small' hd hcur.small) hb) hst hrel
  ·rw [hedp]; exact hdp hpend.1 hpend.2
 ·have hcur : SimF J ok w0 F n s a w ρ := by
   unfold curP at hsim
   rw [if_neg hpend] at hsim
   exact hsim
  refine op_wpD hT hΛ hΦ hcur hev fun w' ρ' val hst hrel => hK _ _ ρ' ⟨?_, fun h1 h2 => ?_, fun h => ?_⟩
  ·rw [hpS, hqS]
   unfold curP
   rw [if_neg hpend]
   exact hcur.step hd hmild (fun b hb => evalOp_tc hev (dst_small' hd hcur.small) hb) hst hrel
  ·rw [hpS] at h1
   rw [hqS] at h2
   exact absurd ⟨h1, h2⟩ hpend
  ·rw [hqS] at h
   exact nr_put hyG hjq (hwf h) (hqn h)
theorem head_soundP (hT : TOkX P X) (hΛ : LamAll P J X) (hΦ : ∀ g args r bs, X.Φ g args = some (r, bs) → SoundAt P J g args r bs) {I : PI} (hBP : drBP ops m I.p I.q I.dp I.dq I.wq = true) (hm : m ≤ ops.size) {Q : Exit → Act → World → Prop} (g : Nat) {s' : FS}
  (hend : ∀ listed a w ρ, SimP J ok w0 F n I listed s' a w ρ → HeadInv .any ops m listed → (∀ i, i < m → listed.getD i true = true) → wpAny P .any ops Q g listed a w) :
  ∀ (f : Nat) (rem : List Nat), rem.length = f → ∀ (listed : Array Bool) (s : FS) (a : Act) (w : World) (ρ : Nat → Option Value), SimP J ok w0 F n I listed s a w ρ → RnP X n ops I rem s s' → rem.Pairwise (· < ·) → (∀ i, i ∈ rem ↔ i < m ∧ listed.getD i true = false) → HeadInv .any ops m listed →
   wpAny P .any ops Q (f + g) listed a w
 | 0, rem, hl, listed, s, a, w, ρ, hs, hr, hp, hin, inv => by
  have : rem = [] := List.eq_nil_of_length_eq_zero hl
  subst this
  have hr : s = s' := hr
  subst hr
  rw [Nat.zero_add]
  refine hend listed a w ρ hs inv fun i hi => ?_
  cases hc : listed.getD i true with
  | true => rfl
  | false => exact absurd ((hin i).2 ⟨hi, hc⟩) (by simp)
 | f + 1, rem, hl, listed, s, a, w, ρ, hs, hr, hp, hin, inv => by
  obtain ⟨hB, hpq, hqm, hne, hdq, hqp, hwq, hall⟩ := drBP_spec hBP
  have hnd : rem.Nodup := hp.imp fun h => by omega
  have hfirst : ∃ i, i ∈ rem ∧ i ∈ Region.ready .any ops listed := by
   match rem, hl with
   | i :: rem', _ =>
    refine ⟨i, by simp, ?_⟩
    obtain ⟨him, hun⟩ := (hin i).1 (by simp)
    refine mem_ready.2 ⟨hun, ops[i], Array.getElem?_eq_getElem (by omega), fun e he hb => ?_⟩
    have hlt := drB_edges hB (Array.getElem?_eq_getElem (show i < ops.size by omega)) e he hb
    cases hc : listed.getD e.on false with
    | true => rfl
    | false =>
     exfalso
     have hon := (hin e.on).2 ⟨by omega, getD_in (by rw [inv.size]; omega) hc⟩
     rcases List.mem_cons.1 hon with h | h
     ·omega
     ·have := (List.pairwise_cons.1 hp).1 _ h; omega
  obtain ⟨i0, hi0, hr0⟩ := hfirst
  rw [show f + 1 + g = (f + g) + 1 by omega]
  refine ⟨fun h0 => (by rw [h0] at hr0; cases hr0), fun j hj => ?_⟩
  obtain ⟨hi0m, hun0⟩ := (hin i0).1 hi0
  have hjm := tail_not hB inv hi0m hun0 hj
  obtain ⟨hjun, oj, hoj, _⟩ := mem_ready.1 hj
  have hjrem := (hin j).2 ⟨hjm, hjun⟩
  obtain ⟨v, eff, hy, hd, _, hr'⟩ := pullP hoj hs.closed rem s hr hjrem hnd (fun i hi oi hoi hne hcon => by
    obtain ⟨him, hun⟩ := (hin i).1 hi
    refine ⟨drB_pair hB hoi hoj him hjm ?_ (ready_not_waits hj hun), fun hpq => ?_⟩
    ·have hsub : ∀ (l : List Nat), l.Pairwise (· < ·) → j ∈ l → (l.takeWhile (· != j)).contains i = true → i < j := by
      intro l
      induction l with
      | nil => intro _ h; cases h
      | cons x l ih =>
       intro hp hjl hc
       rw [List.takeWhile_cons] at hc
       by_cases hx : x = j
       ·subst hx; simp at hc
       ·have hx' : (x != j) = true := by simpa using hx
        rw [hx'] at hc
        simp only [if_true, List.contains_cons, Bool.or_eq_true, beq_iff_eq] at hc
        have hjl' : j ∈ l := by simpa [Ne.symm hx] using hjl
        rcases hc with hc | hc
        ·subst hc; exact (List.pairwise_cons.1 hp).1 j hjl'
        ·exact ih (List.pairwise_cons.1 hp).2 hjl' hc
     exact hsub rem hp hjrem hcon
    ·have hqs : I.q < listed.size := by rw [inv.size]; omega
     have hq0 : listed.getD I.q true = false := by
      rcases hpq with h | h
      ·exact waits_un inv hqp hqs (by rw [← h]; exact hun)
      ·rw [← h]; exact hun
     refine ⟨fun e => ?_, ?_⟩
     ·rcases hpq with h | h
      ·have h1 := getD_tf (ready_waits hj (by rw [e]; exact hqp))
       rw [← h, hun] at h1
       cases h1
      ·exact hne (by rw [h, e])
     ·cases hc : I.wq.contains j with
      | false => rfl
      | true =>
       have h1 := getD_tf (ready_waits hj (hwq j (List.contains_iff_mem.1 hc)))
       rw [hq0] at h1
       cases h1) (fun _ _ h => h) (fun _ _ => rfl)
  refine yp_wp hT hΛ hΦ hBP hm hs inv hoj hj hjm hy hd fun a' w' ρ' hs2 => ?_
  refine head_soundP hT hΛ hΦ hBP hm g hend f (rem.erase j) (by rw [List.length_erase_of_mem hjrem]; omega) _ _ a' w' ρ' hs2 hr' (hp.sublist List.erase_sublist) (fun i => ?_) (inv.set hj hjm)
  rw [hnd.mem_erase_iff, hin]
  by_cases hij : j = i
  ·subst hij
   have : j < listed.size := by rw [inv.size]; omega
   simp [this]
  ·rw [getD_set_ne true hij]
   constructor
   ·exact fun h => h.2
   ·exact fun h => ⟨fun he => hij he.symm, h⟩
theorem rn_none {I : PI} (hpq : I.p ≠ I.q) : ∀ (rem : List Nat) (s s' : FS), RnP X n ops I rem s s' → I.q ∈ rem → s.h I.N = none
 | [], _, _, _, h => by cases h
 | i :: rem, s, s', hr, hm => by
  obtain ⟨o, v, f, hi, hy, hd, hr⟩ := hr
  by_cases hq : i = I.q
  ·obtain ⟨_, hy⟩ := hy
   rw [if_neg (fun e => hpq (by rw [← e, hq])), if_pos hq] at hy
   obtain ⟨_, _, _, _, _, _, _, _, _, hN, _⟩ := hy
   exact hN
  ·have h1 := rn_none hpq rem _ s' hr ((List.mem_cons.1 hm).resolve_left fun e => hq e.symm)
   exact ((hp_has f hy.mild s.h I.N).1 h1).1
theorem dr_soundP (hmix : P.follows .mixedOrders = true) (hT : TOkX P X) (hΛ : LamAll P J X) (hΦ : ∀ g args r bs, X.Φ g args = some (r, bs) → SoundAt P J g args r bs) (_hJJ : Stable J) {p q dp dq : Nat} {wq : List Nat} {r : List (List Nat)} (hBP : drBP ops m p q dp dq wq = true) {id : Nat} {σ : St} {a : Act} {w : World} {Q : Exit → Act → World → Prop} {K : St → Prop}
  (h : evDr X n ops.toList (m, [p, q, dp, dq] :: wq :: r) σ K) (hs : Sims J ok w0 F n σ a w) (hQ : ∀ σ a w, K σ → Sims J ok w0 F n σ a w → Q .normal a w) : (Code.region id ops true).wp P Q a w := by
 simp only [evDr] at h
 have hB := (drBP_spec hBP).1
 obtain ⟨hpq, hqm⟩ : p < q ∧ q < m := ⟨(drBP_spec hBP).2.1, (drBP_spec hBP).2.2.1⟩
 have hm : m ≤ ops.size := by rcases drB_tail hB with rfl | ⟨h, _⟩ <;> omega
 obtain ⟨kk, _, pd', σ1, hK, hr⟩ := evHeadP_run (ops := ops) (ops.toList.take m) 0 none σ (fun j hj => by
  rw [List.length_take] at hj
  rw [List.getElem?_take_of_lt (by omega), Nat.zero_add]; simp) (fun _ => rfl) h
 obtain ⟨ρ, hs⟩ := hs
 refine wp_region_any hmix ?_
 have hdr : SimF J ok w0 F n σ.fs a { w with drawn := w.drawn + 1 } ρ := by
  have hb : Below w.heap.size w { w with drawn := w.drawn + 1 } := ⟨rfl, rfl, rfl, Nat.le_refl _, fun _ _ => rfl⟩
  have hmono : ∀ g, okAt ok F.B ρ w g → okAt ok F.B ρ { w with drawn := w.drawn + 1 } g ∧ (World.heap { w with drawn := w.drawn + 1 })[g]? = w.heap[g]? := fun g hg => ⟨hg, rfl⟩
  refine ⟨hs.j, hs.below.trans (hb.mono hs.inv.size), ⟨hs.inv.size, fun b k hk => ?_, hs.inv.dom, hs.inv.inj, hs.inv.new, hs.inv.fr⟩, fun t => (hs.rel t).mono hmono fun _ _ h => h, hs.size, hs.defers, ⟨hs.fr.keep, hs.fr.fresh, hs.fr.hdr, hs.fr.grow⟩, hs.small⟩
  obtain ⟨sv, hr, hb⟩ := hs.inv.blk b k hk
  exact ⟨sv, hr, hb.mono' hmono (Nat.le_refl _) (fun _ _ => rfl) fun _ _ h => h⟩
 have hpm : p < ops.size := by omega
 have hqm2 : q < ops.size := by omega
 have hrep : ∀ i d, i < ops.size → (Array.replicate ops.size false).getD i d = false := fun i d hi => by rw [Array.getD_eq_getD_getElem?, Array.getElem?_replicate, if_pos hi]; rfl
 have hlen : (List.range' 0 (ops.toList.take m).length).length = m := by simp; omega
 have hN : σ.fs.h (8 * dq) = none := rn_none (I := ⟨p, q, dp, dq, kk, wq⟩) (show p ≠ q by omega) _ _ _ hr (by
  show q ∈ _
  simp only [List.mem_range'_1, Nat.zero_le, Nat.zero_add, true_and, List.length_take, Array.length_toList]
  omega)
 have hsp : SimP J ok w0 F n ⟨p, q, dp, dq, kk, wq⟩ (Array.replicate ops.size false) σ.fs a { w with drawn := w.drawn + 1 } ρ := by
  refine ⟨?_, fun h1 => ?_, fun _ => ⟨hN, fun t ht => ?_, fun b x hb hx => ?_⟩⟩
  ·unfold curP
   rw [if_neg (by rw [hrep p true hpm]; simp)]
   exact hdr
  ·rw [hrep p true hpm] at h1; cases h1
  ·obtain ⟨k, hk⟩ := hdr.closed.env t _ ht
   rw [show PI.N ⟨p, q, dp, dq, kk, wq⟩ = 8 * dq from rfl, hN] at hk
   cases hk
  ·obtain ⟨k, hk⟩ := hdr.closed.box b x hb _ hx
   rw [show PI.N ⟨p, q, dp, dq, kk, wq⟩ = 8 * dq from rfl, hN] at hk
   cases hk
 have := head_soundP (Q := Q) hT hΛ hΦ (I := ⟨p, q, dp, dq, kk, wq⟩) hBP hm (ops.size - m) (s' := σ1.fs) (fun listed a w ρ hs1 inv hall => by
  have hl : (ops.toList.drop m).length = ops.size - m := by simp
  rw [← hl]
  have hs2 : SimF J ok w0 F n σ1.fs a w ρ := by
   have h1 := hs1.1
   unfold curP at h1
   rw [if_neg (by rw [hall q hqm]; simp)] at h1
   exact h1
  refine tail_sound hT hΛ hΦ _hJJ hB hQ (ops.toList.drop m) m listed σ1 a w (Nat.le_refl _) (by rw [hl]; omega) inv.size (fun j => by simp) (fun i hi => ?_) hK ⟨ρ, hs2.to rfl⟩
  rcases Nat.lt_or_ge i m with hlt | hge
  ·rw [hall i hlt]; simp; omega
  ·rw [inv.tail i hge hi]; simp; omega) m _ hlen (Array.replicate ops.size false) σ.fs a _ ρ hsp hr (by
   exact List.pairwise_lt_range') (fun i => by
   simp only [List.mem_range'_1, Nat.zero_le, Nat.zero_add, true_and, List.length_take, Array.length_toList]
   constructor
   ·intro hi; refine ⟨by omega, ?_⟩; rw [Array.getD_eq_getD_getElem?, Array.getElem?_replicate, if_pos (by omega)]; rfl
   ·intro hi; omega) ⟨by simp, (fun j oj hj hl => by rw [getD_replicate_false] at hl; exact absurd hl (by simp)), fun t ht ht' => by rw [Array.getD_eq_getD_getElem?, Array.getElem?_replicate, if_pos ht']; rfl⟩
 rwa [show m + (ops.size - m) = ops.size by omega] at this
end
section
variable {P : Program} {X : Ctx} {J : World → Prop} {ok : Nat → Prop} {w0 : World} {F : Fr} {n : Nat}
def Ex.to : Ex → Exit
 | .normal => .normal
 | .exit id => .exit id
 | .ret => .ret
theorem exists_least {p : Nat → Prop} : ∀ m, p m → ∃ k, p k ∧ ∀ j, p j → k ≤ j := by
 intro m
 induction m using Nat.strongRecOn with
 | _ m ih =>
  intro hm
  by_cases h : ∃ j, j < m ∧ p j
  ·obtain ⟨j, hj, hpj⟩ := h
   exact ih j hj hpj
  ·exact ⟨m, hm, fun j hpj => by
    rcases Nat.lt_or_ge j m with hlt | hge
    ·exact (h ⟨j, hlt, hpj⟩).elim
    ·exact hge⟩
open Classical in
noncomputable def least (p : Nat → Prop) : Nat := if h : ∃ k, p k ∧ ∀ j, p j → k ≤ j then Classical.choose h else 0
theorem least_spec {p : Nat → Prop} (h : ∃ n, p n) : p (least p) := by
 obtain ⟨m, hm⟩ := h
 have h' := exists_least m hm
 unfold least
 rw [dif_pos h']
 exact (Classical.choose_spec h').1
theorem least_le {p : Nat → Prop} {m : Nat} (h : p m) : least p ≤ m := by
 have h' := exists_least m h
 unfold least
 rw [dif_pos h']
 exact (Classical.choose_spec h').2 m h
theorem ev_sound (hmix : P.follows .mixedOrders = true) (hT : TOkX P X) (hΛ : LamAll P J X) (hΦ : ∀ g args r bs, X.Φ g args = some (r, bs) → SoundAt P J g args r bs) (hJJ : Stable J) : ∀ (c : Code) (Q : Ex → St → Prop) (σ : St) (a : Act) (w : World) (QW : Exit → Act → World → Prop),
  drAll X.dr c = true → ev X n c σ Q → Sims J ok w0 F n σ a w → (∀ e σ a w, Q e σ → Sims J ok w0 F n σ a w → QW e.to a w) → c.wp P QW a w := by
 intro c
 induction c with
 | skip => intro Q σ a w QW hdr h hs hQ; exact wp_skip (hQ .normal σ a w h hs)
 | region id ops draw =>
  intro Q σ a w QW hdr h hs hQ
  cases draw with
  | false =>
   simp only [ev] at h
   refine wp_region ?_
   unfold evReg at h
   have hq : ∀ σ a w, Q .normal (σ.drop (X.dead id)) → Sims J ok w0 F n σ a w → QW .normal a w := fun σ a w hk hs => by
    obtain ⟨ρ, hs⟩ := hs
    exact hQ .normal _ a w hk ⟨ρ, hs.drop _⟩
   split at h
   ·have := evOps_sound hT hΛ hΦ hJJ ops (Q := QW) (K := fun σ' => Q .normal (σ'.drop (X.dead id))) hq ops.toList 0 σ a w (fun j => by simp) h hs
    rw [Array.length_toList, ← List.range_eq_range'] at this
    exact this
   ·have := evTwo_sound hT hΛ hΦ hJJ ops (Q := QW) (K := fun σ' => Q .normal (σ'.drop (X.dead id))) hq ops.toList _ 0 σ a w (fun j => by simp) h hs
    rw [Array.length_toList, ← List.range_eq_range'] at this
    exact this
  | true =>
   simp only [ev] at h
   simp only [drAll] at hdr
   unfold onSome at h
   split at h
   ·rename_i m hm
    rw [hm] at hdr
    have hfin : ∀ σ a w, Q .normal (σ.drop (X.dead id)) → Sims J ok w0 F n σ a w → QW .normal a w := fun σ a w hk hs => by
     obtain ⟨ρ, hs⟩ := hs
     exact hQ .normal _ a w hk ⟨ρ, hs.drop _⟩
    obtain ⟨m, un⟩ := m
    cases un with
    | nil => exact dr_sound hmix hT hΛ hΦ hJJ hdr h hs hfin
    | cons u un =>
     match u, un, hdr, h with
     | [], un, hdr, h => exact dr_soundW hmix hT hΛ hΦ hJJ hdr h hs hfin
     | [p, q, dp, dq], wq :: un, hdr, h => exact dr_soundP hmix hT hΛ hΦ hJJ hdr h hs hfin
     | [p, q, dp, dq], [], hdr, h => exact h.elim
     | [_], _, hdr, h => exact h.elim
     | [_, _], _, hdr, h => exact h.elim
     | [_, _, _], _, hdr, h => exact h.elim
     | _ :: _ :: _ :: _ :: _ :: _, _, hdr, h => exact h.elim
   ·exact h.elim
 | seq x y ihx ihy =>
  intro Q σ a w QW hdr h hs hQ
  simp only [ev] at h
  simp only [drAll, Bool.and_eq_true] at hdr
  refine wp_seq (ihx _ σ a w _ hdr.1 h hs fun e σ' a' w' hq hs' => ?_)
  cases e with
  | normal => exact ihy _ σ' a' w' QW hdr.2 hq hs' hQ
  | exit id => exact hQ (.exit id) σ' a' w' hq hs'
  | ret => exact hQ .ret σ' a' w' hq hs'
 | cond c x y ihx ihy =>
  intro Q σ a w QW hdr h hs hQ
  simp only [drAll, Bool.and_eq_true] at hdr
  simp only [ev] at h
  unfold onBool at h
  split at h
  ·rename_i b hb
   have hs' := hs
   obtain ⟨ρ, hs'⟩ := hs'
   have hrel := hs'.opd c
   rw [hb] at hrel
   refine wp_cond hrel.bool_inv ?_
   unfold onIf at h
   cases b with
   | true => exact ihx Q σ a w QW hdr.1 (by simpa using h) hs hQ
   | false => exact ihy Q σ a w QW hdr.2 (by simpa using h) hs hQ
  ·exact h.elim
 | block id x ih =>
  intro Q σ a w QW hdr h hs hQ
  simp only [ev] at h
  simp only [drAll] at hdr
  refine wp_block (ih _ σ a w _ hdr h hs fun e σ' a' w' hq hs' => ?_)
  cases e with
  | normal => exact hQ .normal σ' a' w' hq hs'
  | ret => exact hQ .ret σ' a' w' hq hs'
  | exit i =>
   simp only [Ex.to, Exit.inBlock] at hq ⊢
   split
   ·rename_i hi; rw [if_pos hi] at hq; exact hQ .normal σ' a' w' hq hs'
   ·rename_i hi; rw [if_neg hi] at hq; exact hQ (.exit i) σ' a' w' hq hs'
 | loop x ih =>
  intro Q σ a w QW hdr h hs hQ
  simp only [drAll] at hdr
  simp only [ev] at h
  obtain ⟨ts, bs, I, μ, ⟨hcl, hI⟩, hround⟩ := h
  obtain ⟨ρ, hs⟩ := hs
  let p : Act → World → Nat → Prop := fun a w m => ∃ σ, I σ ∧ Sims J ok w0 F n σ a w ∧ μ σ = m
  refine wp_loop (fun a w => ∃ m, p a w m) (fun a w => least (p a w)) ⟨_, _, hI, ⟨_, hs.keep hcl⟩, rfl⟩ fun a1 w1 hex => ?_
  obtain ⟨σ1, hI1, hs1, hm⟩ := least_spec hex
  refine ih _ σ1 a1 w1 _ hdr (hround σ1 hI1) hs1 fun e σ' a' w' hq hs' => ?_
  cases e with
  | normal =>
   obtain ⟨hc', hI', hlt⟩ := hq
   obtain ⟨ρ', hs'⟩ := hs'
   have hp : p a' w' (μ (σ'.keep ts bs)) := ⟨_, hI', ⟨_, hs'.keep hc'⟩, rfl⟩
   refine ⟨⟨_, hp⟩, ?_⟩
   have h1 := least_le hp
   show least (p a' w') < least (p a1 w1)
   omega
  | exit id => exact hQ (.exit id) σ' a' w' hq hs'
  | ret => exact hQ .ret σ' a' w' hq hs'
 | exit id => intro Q σ a w QW hdr h hs hQ; exact wp_exit (hQ (.exit id) σ a w h hs)
 | ret => intro Q σ a w QW hdr h hs hQ; exact wp_ret (hQ .ret σ a w h hs)
 | _ => intro Q σ a w QW hdr h hs hQ; exact h.elim
end
/-! ### A function -/
def packC (ns : List Nat) : V → Option (V × List Nat)
 | .vec b => if ns.contains b = true then none else some (.vec ns.length, ns ++ [b])
 | v => if V.data v = true then some (v, ns) else none
def packL (f : List Nat → V → Option (V × List Nat)) (ns : List Nat) : List V → Option (List V × List Nat)
 | [] => some ([], ns)
 | v :: vs => match f ns v with
  | some (v', ns1) => match packL f ns1 vs with
   | some (vs', ns2) => some (v' :: vs', ns2)
   | none => none
  | none => none
def packV (ns : List Nat) : V → Option (V × List Nat)
 | .agg cs => match packL packC ns cs with
  | some (cs', ns') => some (.agg cs', ns')
  | none => none
 | v => packC ns v
def getBlks (hp : Hp) : List Nat → Option (List Blk)
 | [] => some []
 | b :: bs => match hp b, getBlks hp bs with
  | some (.vec T sz es), some ks => some (.vec T sz es :: ks)
  | some (.map kvs), some ks => some (.map kvs :: ks)
  | _, _ => none
def resV (X : Ctx) (σ : St) : List ResultVar → Option (List V)
 | [] => some []
 | .tmp t :: rs => match resV X σ rs with
  | some vs => some (σ.e t :: vs)
  | none => none
 | .cell t T :: rs => match evalOp X σ.e σ.h 0 (.load T (.tmp t)), resV X σ rs with
  | some (v, _), some vs => some (v :: vs)
  | _, _ => none
def wrapR : List V → V
 | [v] => v
 | vs => .tup vs
def retV (X : Ctx) (σ : St) (rs : List ResultVar) : Option (V × List Blk) :=
 match resV X σ rs with
 | some vs => match packL packV [] vs with
  | some (vs', ns) => match getBlks σ.h ns with
   | some bs => some (wrapR vs', bs)
   | none => none
  | none => none
 | none => none
def St.init (args : List V) : St := ⟨args.zipIdx.map fun p => (p.2, p.1), []⟩
def post (X : Ctx) (rs : List ResultVar) (r : V) (bs : List Blk) : Ex → St → Prop
 | .exit _, _ => False
 | _, σ => retV X σ rs = some (r, bs)
section
variable {P : Program} {X : Ctx} {J : World → Prop} {ok : Nat → Prop} {w0 w : World} {F : Fr} {n : Nat} {ρ : Nat → Option Value}
def packρ (ρ : Nat → Option Value) (ns : List Nat) : Nat → Option Value := fun j => (ns[j]?).bind ρ
theorem packC_spec {ok ok' : Nat → Prop} {ns ns' : List Nat} {v v' : V} {val : Value} (h : packC ns v = some (v', ns')) (hn : ns.Nodup) (hv : Rel w ok ρ v val) (hk : ∀ g, ok g → ok' g) :
  ns'.Nodup ∧ (∃ m, ns' = ns ++ m) ∧ ∀ m, Rel w ok' (packρ ρ (ns' ++ m)) v' val := by
 unfold packC at h
 split at h
 ·rename_i b
  split at h
  ·cases h
  ·rename_i hb
   simp at h
   obtain ⟨rfl, rfl⟩ := h
   simp at hb
   refine ⟨?_, ⟨[b], rfl⟩, fun m => ?_⟩
   ·rw [List.nodup_append]
    refine ⟨hn, by simp, ?_⟩
    intro x hx y hy e
    simp at hy
    subst e; subst hy
    exact hb hx
   ·have hr := hv.vec_inv
    have h1 : val.oneCell' = true := by
     cases hv with
     | ro h => cases h
     | vec _ _ _ h1 => exact h1
    exact .vec _ _ (by simp [packρ, hr]) h1
 ·split at h
  ·rename_i hd
   simp at h
   obtain ⟨rfl, rfl⟩ := h
   exact ⟨hn, ⟨[], by simp⟩, fun m => .ro ((hv.toD hd).mono fun g hg => ⟨hk g hg, rfl⟩)⟩
  ·cases h
theorem packL_spec {ok ok' : Nat → Prop} {f : List Nat → V → Option (V × List Nat)} (hf : ∀ {ns ns' : List Nat} {v v' : V} {val : Value}, f ns v = some (v', ns') → ns.Nodup → Rel w ok ρ v val → ns'.Nodup ∧ (∃ m, ns' = ns ++ m) ∧ ∀ m, Rel w ok' (packρ ρ (ns' ++ m)) v' val) :
  ∀ (vs : List V) (us : List Value) (ns ns' : List Nat) (vs' : List V), packL f ns vs = some (vs', ns') → ns.Nodup → vs.length = us.length → (∀ (j : Nat) c u, vs[j]? = some c → us[j]? = some u → Rel w ok ρ c u) →
   ns'.Nodup ∧ (∃ m, ns' = ns ++ m) ∧ vs'.length = us.length ∧ ∀ m (j : Nat) c u, vs'[j]? = some c → us[j]? = some u → Rel w ok' (packρ ρ (ns' ++ m)) c u
 | [], us, ns, ns', vs', h, hn, hl, hr => by
  simp [packL] at h
  obtain ⟨rfl, rfl⟩ := h
  exact ⟨hn, ⟨[], by simp⟩, hl, fun m j c u hc => by simp at hc⟩
 | v :: vs, [], ns, ns', vs', h, hn, hl, hr => by simp at hl
 | v :: vs, u :: us, ns, ns', vs', h, hn, hl, hr => by
  unfold packL at h
  split at h
  ·rename_i v1 ns1 h1
   split at h
   ·rename_i vs2 ns2 h2
    simp at h
    obtain ⟨rfl, rfl⟩ := h
    obtain ⟨n1, ⟨m1, e1⟩, r1⟩ := hf h1 hn (hr 0 v u rfl rfl)
    obtain ⟨n2, ⟨m2, e2⟩, l2, r2⟩ := packL_spec hf vs us ns1 ns2 vs2 h2 n1 (by simpa using hl) (fun j c x hc hx => hr (j + 1) c x (by simpa using hc) (by simpa using hx))
    refine ⟨n2, ⟨m1 ++ m2, by rw [e2, e1, List.append_assoc]⟩, by simpa using l2, fun m j c x hc hx => ?_⟩
    cases j with
    | zero =>
     simp at hc hx
     subst hc; subst hx
     have := r1 (m2 ++ m)
     rwa [← List.append_assoc, ← e2] at this
    | succ j => exact r2 m j c x (by simpa using hc) (by simpa using hx)
   ·cases h
  ·cases h
theorem packV_spec {ok ok' : Nat → Prop} {ns ns' : List Nat} {v v' : V} {val : Value} (hk : ∀ g, ok g → ok' g) (h : packV ns v = some (v', ns')) (hn : ns.Nodup) (hv : Rel w ok ρ v val) :
  ns'.Nodup ∧ (∃ m, ns' = ns ++ m) ∧ ∀ m, Rel w ok' (packρ ρ (ns' ++ m)) v' val := by
 unfold packV at h
 split at h
 ·rename_i cs
  split at h
  ·rename_i cs' ns1 h1
   simp at h
   obtain ⟨rfl, rfl⟩ := h
   obtain ⟨vs, rfl, hl, ho, hr⟩ := hv.agg_inv
   obtain ⟨n1, m1, l1, r1⟩ := packL_spec (ok := ok) (ok' := ok') (f := packC) (fun h hn hv => packC_spec h hn hv hk) cs vs ns ns1 cs' h1 hn hl hr
   exact ⟨n1, m1, fun m => .agg _ _ l1 ho (r1 m)⟩
  ·cases h
 ·exact packC_spec h hn hv hk
theorem getBlks_spec {hp : Hp} : ∀ {ns : List Nat} {bs : List Blk}, getBlks hp ns = some bs → bs.length = ns.length ∧ ∀ (j : Nat) k, bs[j]? = some k → ∃ b, ns[j]? = some b ∧ hp b = some k ∧ noBox k = true
 | [], bs, h => by simp [getBlks] at h; subst h; simp
 | b :: ns, bs, h => by
  unfold getBlks at h
  split at h
  ·rename_i T sz es ks h1 h2
   simp at h
   subst h
   obtain ⟨l, g⟩ := getBlks_spec h2
   refine ⟨by simp [l], fun j k hk => ?_⟩
   cases j with
   | zero => simp at hk; subst hk; exact ⟨b, rfl, h1, rfl⟩
   | succ j => simpa using g j k (by simpa using hk)
  ·rename_i kvs ks h1 h2
   simp at h
   subst h
   obtain ⟨l, g⟩ := getBlks_spec h2
   refine ⟨by simp [l], fun j k hk => ?_⟩
   cases j with
   | zero => simp at hk; subst hk; exact ⟨b, rfl, h1, rfl⟩
   | succ j => simpa using g j k (by simpa using hk)
  ·cases h
theorem Inv.pack {B : Nat} {hp : Hp} {ns : List Nat} {bs : List Blk} (h : Inv ok B w ρ hp) (hB : ∀ g, B ≤ g → ok g) (hn : ns.Nodup) (hb : getBlks hp ns = some bs) :
  Inv ok B w (packρ ρ ns) (fun j => bs[j]?) ∧ ∀ g, okAt ok B ρ w g → okAt ok B (packρ ρ ns) w g := by
 obtain ⟨hl, hg⟩ := getBlks_spec hb
 have hρ : ∀ j sv, packρ ρ ns j = some sv → ∃ b, ns[j]? = some b ∧ ρ b = some sv := by
  intro j sv hr
  unfold packρ at hr
  cases hj : ns[j]? with
  | none => simp [hj] at hr
  | some b => simp [hj] at hr; exact ⟨b, rfl, hr⟩
 have hok : ∀ g, okAt ok B ρ w g → okAt ok B (packρ ρ ns) w g := by
  intro g hg
  exact ⟨hg.1, hg.2.1, fun j sv hr => by obtain ⟨b, _, hr'⟩ := hρ j sv hr; exact hg.2.2 b sv hr'⟩
 refine ⟨⟨h.size, ?_, ?_, ?_, h.new, fun j sv g hr ho => .inr (by obtain ⟨b, _, hr'⟩ := hρ j sv hr; exact hB g (h.own_ge hr' ho).1)⟩, hok⟩
 ·intro j k hk
  obtain ⟨b, hb1, hb2, hb3⟩ := hg j k hk
  obtain ⟨sv, hr, hblk⟩ := h.blk b k hb2
  refine ⟨sv, by simp [packρ, hb1, hr], ?_⟩
  cases k with
  | box v => simp [noBox] at hb3
  | map kvs => exact hblk
  | vec T sz es => exact ⟨hblk.1, hblk.2.mono (fun g hg => ⟨hok g hg, rfl⟩) fun _ _ => rfl⟩
 ·intro j sv hr
  obtain ⟨b, hb1, _⟩ := hρ j sv hr
  have hlt : j < bs.length := by have := (List.getElem?_eq_some_iff.1 hb1).1; omega
  exact ⟨_, List.getElem?_eq_getElem hlt⟩
 ·intro j j' sv sv' g h1 h2 o1 o2
  obtain ⟨b, hb1, hr1⟩ := hρ j sv h1
  obtain ⟨b', hb2, hr2⟩ := hρ j' sv' h2
  have := h.inj b b' sv sv' g hr1 hr2 o1 o2
  subst this
  have l1 := (List.getElem?_eq_some_iff.1 hb1)
  have l2 := (List.getElem?_eq_some_iff.1 hb2)
  obtain ⟨l1, e1⟩ := l1
  obtain ⟨l2, e2⟩ := l2
  rcases Nat.lt_trichotomy j j' with hlt | he | hgt
  ·exact ((List.pairwise_iff_getElem.1 hn) j j' l1 l2 hlt (e1.trans e2.symm)).elim
  ·exact he
  ·exact ((List.pairwise_iff_getElem.1 hn) j' j l2 l1 hgt (e2.trans e1.symm)).elim
theorem res_run (hT : TOkX P X) {σ : St} {a : Act} (hs : Sim J ok w0 F n σ a w ρ) : ∀ (rs : List ResultVar) (vs : List V), resV X σ rs = some vs →
  ∃ us : List Value, (rs.mapM fun (r : ResultVar) => match r with | .tmp t => (pure (a.tmps.getD t Go.undef) : Sem Value) | .cell b t => do loadVar t (← asAddr (a.tmps.getD b Go.undef))).run P w = .ok us w ∧
   vs.length = us.length ∧ ∀ (j : Nat) c u, vs[j]? = some c → us[j]? = some u → Rel w (okAt ok F.B ρ w) ρ c u
 | [], vs, h => by simp [resV] at h; subst h; exact ⟨[], by simp, rfl, by simp⟩
 | .tmp t :: rs, vs, h => by
  unfold resV at h
  split at h
  ·rename_i vs' h'
   simp at h
   subst h
   obtain ⟨us, hr, hl, hh⟩ := res_run hT hs rs vs' h'
   refine ⟨a.tmps.getD t Go.undef :: us, by simp only [List.mapM_cons, Sem.run_bind, Sem.run_pure, Result.andThen_ok, hr], by simp [hl], fun j c u hc hu => ?_⟩
   cases j with
   | zero => simp only [List.getElem?_cons_zero, Option.some.injEq] at hc hu; subst hc; subst hu; exact hs.rel t
   | succ j => exact hh j c u (by simpa using hc) (by simpa using hu)
  ·cases h
 | .cell t T :: rs, vs, h => by
  unfold resV at h
  split at h
  ·rename_i v e vs' h1 h'
   simp at h
   subst h
   obtain ⟨us, hr, hl, hh⟩ := res_run hT hs rs vs' h'
   obtain ⟨_, val, hrun, hrel⟩ := load_val (P := P) hT.1 hs.inv (hs.opd (.tmp t)) h1
   have hval : (do loadVar T (← asAddr (a.tmps.getD t Go.undef)) : Sem Value).run P w = .ok val w := by
    have : a.eval (.tmp t) = a.tmps.getD t Go.undef := rfl
    rw [this] at hrun
    generalize a.tmps.getD t Go.undef = x at hrun ⊢
    cases x <;> simp [Instr.loadAt, Instr.sureAddr, stuck, Sem.run] at hrun
    rename_i ad
    cases ad <;> simp [Sem.run] at hrun
    simpa [asAddr] using hrun
   refine ⟨val :: us, by simp only [List.mapM_cons, Sem.run_bind, Sem.run_pure] at hval ⊢; rw [hval]; simp only [Result.andThen_ok, hr], by simp [hl], fun j c u hc hu => ?_⟩
   cases j with
   | zero => simp only [List.getElem?_cons_zero, Option.some.injEq] at hc hu; subst hc; subst hu; exact hrel
   | succ j => exact hh j c u (by simpa using hc) (by simpa using hu)
  ·cases h
theorem sound_fn (hmix : P.follows .mixedOrders = true) (hT : TOkX P X) (hΛ : LamAll P J X) (hΦ : ∀ g args r bs, X.Φ g args = some (r, bs) → SoundAt P J g args r bs) (hJJ : Stable J) {f : FuncId} {fn : Func} {c : Code} {args : List V} {r : V} {bs : List Blk}
  (hf : P.funcs[f]? = some fn) (hname : (fn.name == "runtime.NumGoroutine") = false) (hb : fn.body = some c) (hn : args.length ≤ fn.ntmps) (hsm : fn.ntmps ≤ 100000) (hdr : drAll X.dr c = true)
  (h : ev X fn.ntmps c (St.init args) (post X fn.results.toList r bs)) : SoundAt P J f args r bs := by
 refine ⟨⟨fn, hf, hname, by rw [hb]; rfl⟩, fun w ok vals hJ hok hlen hrel => ?_⟩
 refine calls_of_wp hf hb ?_
 have hsim : Sim J (upto w ok) w ⟨w, fun _ => none, w.heap.size, []⟩ fn.ntmps (St.init args) { tmps := vals.toArray ++ Array.replicate (fn.ntmps - vals.toArray.size) Go.undef, defers := [] } w (fun _ => none) := by
  refine ⟨fun w' hb => hJJ w w' hJ hb, .refl _ _, ⟨Nat.le_refl _, fun b k hk => (by simp [St.h, St.init, look] at hk), fun b sv hr => (by cases hr), fun b b' sv sv' g h1 => (by cases h1), fun g hg hlt => by omega, fun b sv g h1 => by cases h1⟩, fun t => ?_, by simp; omega, rfl, ⟨fun _ _ _ => rfl, (fun b sv g h1 => by cases h1), (fun b hb sv h1 => by cases h1), Nat.le_refl _⟩, hsm⟩
  have key : ∀ (l : List V) (k t : Nat), look t ((l.zipIdx k).map fun p => (p.2, p.1)) = if k ≤ t then l[t - k]? else none := by
   intro l
   induction l with
   | nil => intro k t; simp [look]
   | cons x l ih =>
    intro k t
    rw [List.zipIdx_cons, List.map_cons]
    simp only [look]
    rw [ih]
    by_cases h1 : t = k
    ·subst h1; simp
    ·rw [if_neg h1]
     by_cases h2 : k ≤ t
     ·rw [if_pos (by omega), if_pos h2, show t - k = (t - (k + 1)) + 1 by omega]; simp
     ·rw [if_neg (by omega), if_neg h2]
  have he : (St.init args).e t = (args[t]?).getD .undef := by
   have := key args 0 t
   simp only [St.e, St.init]
   rw [this]
   simp
  rw [he]
  by_cases ht : t < args.length
  ·have hv : t < vals.length := by omega
   rw [List.getElem?_eq_getElem ht]
   have hget : (vals.toArray ++ Array.replicate (fn.ntmps - vals.toArray.size) Go.undef).getD t Go.undef = vals[t] := by
    rw [Array.getD_eq_getD_getElem?, Array.getElem?_append_left (by simpa using hv)]
    simp [hv]
   rw [hget]
   exact .ro ((hrel t _ _ (List.getElem?_eq_getElem ht) (List.getElem?_eq_getElem hv)).mono fun g hg => ⟨⟨fun _ => hg, hok g hg, fun _ _ h => by cases h⟩, rfl⟩)
  ·rw [List.getElem?_eq_none (by omega)]
   exact .ro (.undef _)
 refine ev_sound hmix hT hΛ hΦ hJJ c _ _ _ w _ hdr h ⟨_, hsim⟩ fun e σ a w' hq hs => ?_
 have fin : retV X σ fn.results.toList = some (r, bs) → a.defers = [] ∧ ∃ v, (results fn a.tmps).run P w' = .ok v w' ∧ ∃ val ρr, Ending.returned v = .returned val ∧ Below w.heap.size w w' ∧ Inv (upto w ok) w.heap.size w' ρr (fun j => bs[j]?) ∧ Rel w' (okAt (upto w ok) w.heap.size ρr w') ρr r val := by
  intro hret
  obtain ⟨ρ, hs⟩ := hs
  unfold retV at hret
  split at hret
  ·rename_i vs hvs
   split at hret
   ·rename_i vs' ns hpk
    split at hret
    ·rename_i bs' hbs
     simp at hret
     obtain ⟨rfl, rfl⟩ := hret
     obtain ⟨us, hrun, hl, hr⟩ := res_run hT hs fn.results.toList vs hvs
     have hnd : ns.Nodup := by
      have := packL_spec (w := w') (ρ := ρ) (ok := okAt (upto w ok) w.heap.size ρ w') (ok' := okAt (upto w ok) w.heap.size ρ w') (f := packV) (fun h hn hv => packV_spec (fun g hg => hg) h hn hv) vs us [] ns vs' hpk (by simp) hl hr
      exact this.1
     obtain ⟨hinv, hokk⟩ := hs.inv.pack (fun g (hg : w.heap.size ≤ g) hlt => by omega) hnd hbs
     obtain ⟨_, _, hl', hr'⟩ := packL_spec (w := w') (ρ := ρ) (ok := okAt (upto w ok) w.heap.size ρ w') (ok' := okAt (upto w ok) w.heap.size (packρ ρ ns) w') (f := packV) (fun h hn hv => packV_spec hokk h hn hv) vs us [] ns vs' hpk (by simp) hl hr
     have hr' := hr' []
     rw [List.append_nil] at hr'
     refine ⟨hs.defers, if h : us.toArray.size = 1 then us.toArray[0] else .tuple us.toArray, ?_, _, _, rfl, hs.below, hinv, ?_⟩
     ·have hm : (fn.results.mapM fun (r : ResultVar) => match r with | .tmp t => (pure (a.tmps.getD t Go.undef) : Sem Value) | .cell b t => do loadVar t (← asAddr (a.tmps.getD b Go.undef))).run P w' = .ok us.toArray w' := by
       rw [Array.mapM_eq_mapM_toList]
       simp only [Sem.run_map, hrun, Result.andThen_ok]
      unfold results
      rw [Sem.run_bind]
      refine (congrArg (fun x => Result.andThen x _) hm).trans ?_
      simp
     ·split
      ·rename_i h1
       match us, h1, hl', hr' with
       | [u], _, hl', hr' =>
        match vs', hl', hr' with
        | [v], _, hr' => exact hr' 0 v u rfl rfl
      ·rename_i h1
       have : wrapR vs' = .tup vs' := by
        match vs', hl' with
        | [], _ => rfl
        | [v], hl' => simp at h1; simp at hl'; omega
        | _ :: _ :: _, _ => rfl
       rw [this]
       exact .tup _ _ hl' hr'
    ·cases hret
   ·cases hret
  ·cases hret
 cases e with
 | normal => exact fin hq
 | ret => exact fin hq
 | exit id => exact hq.elim
end
/-! ### A function that is lent a row -/
def St.lent (T : TypeId) (sz : Nat) (es as : List V) : St := ⟨((V.vec 1000000) :: as).zipIdx.map fun p => (p.2, p.1), [(1000000, .vec T sz es)]⟩
def postL (T : TypeId) (sz : Nat) (es' : List V) : Ex → St → Prop
 | .exit _, _ => False
 | _, σ => look 1000000 σ.hp = some (.vec T sz es')
section
variable {P : Program} {X : Ctx} {J : World → Prop}
theorem OwnV.plain {w : World} {ok ok' : Nat → Prop} {B : Nat} {T : TypeId} {sz : Nat} {sv : Value} {es : List V} (h : OwnV w ok B T sz sv es) (hp : ∀ e ∈ es, V.plain e = true) : OwnV w ok' B T sz sv es := by
 obtain ⟨vs, hl, hs, h1, hr, ho⟩ := h
 exact ⟨vs, hl, hs, h1, fun i e v he hv => (hr i e v he hv).plain (hp e (List.mem_of_getElem? he)), ho⟩
theorem one_key {k : Nat} {sv : Value} : ∀ b s, Ev.one k sv b = some s → b = k ∧ s = sv := by
 intro b s hs
 unfold Ev.one at hs
 split at hs
 ·rename_i e; simp at hs; exact ⟨e, hs.symm⟩
 ·cases hs
theorem lent_sim {n : Nat} {T : TypeId} {sz : Nat} {es as : List V} {w : World} {B : Nat} {ok : Nat → Prop} {sv : Value} {vals : List Value} (hn : as.length + 1 ≤ n) (hsm : n ≤ 100000) (hJ : ∀ w', Below B w w' → J w') (hB : B ≤ w.heap.size) (hok : ∀ g, ok g → g < w.heap.size ∧ own sv ≠ some g)
  (hone : sv.oneCell' = true) (hpos : 0 < sz) (hown : OwnV w ok B T sz sv es) (hlen : as.length = vals.length) (hrel : ∀ (j : Nat) c u, as[j]? = some c → vals[j]? = some u → RelD w ok c u) :
  Sim J (upto w ok) w ⟨w, Ev.one 1000000 sv, B, []⟩ n (St.lent T sz es as) { tmps := (sv :: vals).toArray ++ Array.replicate (n - (sv :: vals).toArray.size) Go.undef, defers := [] } w (Ev.one 1000000 sv) := by
 have hokk : ∀ g, ok g → okAt (upto w ok) B (Ev.one 1000000 sv) w g ∧ w.heap[g]? = w.heap[g]? := by
  intro g hg
  refine ⟨?_, rfl⟩
  refine ⟨fun _ => hg, (hok g hg).1, fun b s hs => ?_⟩
  unfold Ev.one at hs
  split at hs
  ·simp at hs; subst hs; exact (hok g hg).2
  ·cases hs
 have hone1 := one_key (k := 1000000) (sv := sv)
 refine ⟨hJ, .refl _ _, ⟨hB, fun b k hk => ?_, fun b s hs => ?_, fun b b' s s' g h1 h2 _ _ => ?_, fun g hg hlt => by omega, fun b s g h1 _ => .inl (by rw [(hone1 b s h1).1]; exact Nat.le_refl _)⟩, fun t => ?_, by simp; omega, rfl, ⟨fun _ _ _ => rfl, fun b s g hs ho => .inr ⟨b, s, hs, ho⟩, fun b _ s hs => hs, Nat.le_refl _⟩, hsm⟩
 ·simp only [St.h, St.lent, look] at hk
  split at hk
  ·rename_i e
   simp at hk
   subst hk
   exact ⟨sv, by simp [Ev.one, e], hpos, hown.mono hokk fun _ _ => rfl⟩
  ·cases hk
 ·obtain ⟨rfl, rfl⟩ := hone1 b s hs
  exact ⟨.vec T sz es, by simp [St.h, St.lent, look]⟩
 ·exact (hone1 b s h1).1.trans (hone1 b' s' h2).1.symm
 ·have key : ∀ (l : List V) (k t : Nat), look t ((l.zipIdx k).map fun p => (p.2, p.1)) = if k ≤ t then l[t - k]? else none := by
   intro l
   induction l with
   | nil => intro k t; simp [look]
   | cons x l ih =>
    intro k t
    rw [List.zipIdx_cons, List.map_cons]
    simp only [look]
    rw [ih]
    by_cases h1 : t = k
    ·subst h1; simp
    ·rw [if_neg h1]
     by_cases h2 : k ≤ t
     ·rw [if_pos (by omega), if_pos h2, show t - k = (t - (k + 1)) + 1 by omega]; simp
     ·rw [if_neg (by omega), if_neg h2]
  have he : (St.lent T sz es as).e t = (((V.vec 1000000) :: as)[t]?).getD .undef := by
   have := key ((V.vec 1000000) :: as) 0 t
   simp only [St.e, St.lent]
   rw [this]
   simp
  rw [he]
  cases t with
  | zero =>
   have hget : ((sv :: vals).toArray ++ Array.replicate (n - (sv :: vals).toArray.size) Go.undef).getD 0 Go.undef = sv := by
    rw [Array.getD_eq_getD_getElem?, Array.getElem?_append_left (by simp)]
    simp
   rw [hget]
   exact .vec 1000000 sv (by simp [Ev.one]) hone
  | succ t =>
   by_cases ht : t < as.length
   ·have hv : t < vals.length := by omega
    have hget : ((sv :: vals).toArray ++ Array.replicate (n - (sv :: vals).toArray.size) Go.undef).getD (t + 1) Go.undef = vals[t] := by
     rw [Array.getD_eq_getD_getElem?, Array.getElem?_append_left (by simpa using hv)]
     simp [hv]
    rw [hget, List.getElem?_cons_succ, List.getElem?_eq_getElem ht]
    exact .ro ((hrel t _ _ (List.getElem?_eq_getElem ht) (List.getElem?_eq_getElem hv)).mono hokk)
   ·rw [List.getElem?_cons_succ, List.getElem?_eq_none (by omega)]
    exact .ro (.undef _)
theorem sound_lend (hmix : P.follows .mixedOrders = true) (hT : TOkX P X) (hΛ : LamAll P J X) (hΦ : ∀ g args r bs, X.Φ g args = some (r, bs) → SoundAt P J g args r bs) (hJJ : Stable J)
  {f : FuncId} {fn : Func} {c : Code} {T : TypeId} {sz : Nat} {es as es' : List V} (hf : P.funcs[f]? = some fn) (hname : (fn.name == "runtime.NumGoroutine") = false) (hb : fn.body = some c) (hn : as.length + 1 ≤ fn.ntmps) (hsm : fn.ntmps ≤ 100000) (hdr : drAll X.dr c = true)
  (hres : fn.results = #[]) (hpl : ∀ e ∈ es', V.plain e = true) (h : ev X fn.ntmps c (St.lent T sz es as) (postL T sz es')) : LendAt P J f T sz es as es' := by
 refine ⟨⟨fn, hf, hname, by rw [hb]; rfl⟩, fun w B ok sv vals hJ hB hok hone hpos hown hlen hrel => ?_⟩
 refine calls_of_wp hf hb ?_
 have hone1 := one_key (k := 1000000) (sv := sv)
 have hsim := lent_sim hn hsm hJ hB hok hone hpos hown hlen hrel
 refine ev_sound hmix hT hΛ hΦ hJJ c _ _ _ w _ hdr h ⟨_, hsim⟩ fun e σ a w' hq hs => ?_
 have fin : look 1000000 σ.hp = some (.vec T sz es') → a.defers = [] ∧ ∃ v, (results fn a.tmps).run P w' = .ok v w' ∧ (Ending.returned v = .returned (.tuple #[]) ∧ Below B w w' ∧ (∀ g, g < w.heap.size → own sv ≠ some g → w'.heap[g]? = w.heap[g]?) ∧ w.heap.size ≤ w'.heap.size ∧ OwnV w' (fun _ => False) B T sz sv es') := by
  intro hl
  obtain ⟨ρ, hs⟩ := hs
  obtain ⟨s, hsr, _, hown'⟩ := hs.inv.blk 1000000 _ hl
  have hss := (hone1 1000000 s (hs.fr.hdr 1000000 (Nat.le_refl _) s hsr)).2
  subst hss
  refine ⟨hs.defers, .tuple #[], by simp [results, hres], rfl, hs.below, fun g hg hno => hs.fr.keep g hg fun b s' hs' => ?_, hs.fr.grow, hown'.plain hpl⟩
  obtain ⟨_, rfl⟩ := hone1 b s' hs'
  exact hno
 cases e with
 | normal => exact fin hq
 | ret => exact fin hq
 | exit id => exact hq.elim
end
/-! ### A function that takes a row and gives it, or its first part, back -/
def takeR (hp : Hp) : V → Option (TypeId × Nat × List V)
 | .vec b => match hp b with
  | some (.vec T sz es) => some (T, sz, es)
  | _ => none
 | .sub b sz 0 k => match hp b with
  | some (.vec T sz' es) => if sz = sz' ∧ k ≤ es.length then some (T, sz, es.take k) else none
  | _ => none
 | _ => none
def postT (t : Nat) (T : TypeId) (sz : Nat) (es' : List V) : Ex → St → Prop
 | .exit _, _ => False
 | _, σ => takeR σ.h (σ.e t) = some (T, sz, es')
theorem postT_ret (t : Nat) (T : TypeId) (sz : Nat) (es' : List V) (σ : St) : postT t T sz es' .ret σ = (takeR σ.h (σ.e t) = some (T, sz, es')) := rfl
theorem postT_normal (t : Nat) (T : TypeId) (sz : Nat) (es' : List V) (σ : St) : postT t T sz es' .normal σ = (takeR σ.h (σ.e t) = some (T, sz, es')) := rfl
section
variable {P : Program} {X : Ctx} {J : World → Prop}
end
/-! ### A function that is lent blocks -/
def St.mut (ks : List Blk) (args : List V) : St := ⟨args.zipIdx.map fun p => (p.2, p.1), names 1000000 ks⟩
def lentN (k : Nat) (nn : List Nat) : List Nat := newN1 1000000 k ++ nn
def hasN (ms : List Nat) (σ : St) : List Nat → List Blk → Prop
 | [], [] => True
 | b :: bs, k :: ks => (match look b σ.hp with
  | some x => Blk.mv ms x = some k
  | none => False) ∧ hasN ms σ bs ks
 | _, _ => False
def resM (X : Ctx) (ms : List Nat) (σ : St) (rs : List ResultVar) (r : V) : Prop :=
 match resV X σ rs with
 | some vs => V.mv ms (wrapR vs) = some r
 | none => False
def postM (X : Ctx) (ms : List Nat) (rs : List ResultVar) (r : V) (ks' : List Blk) : Ex → St → Prop
 | .exit _, _ => False
 | _, σ => resM X ms σ rs r ∧ hasN ms σ ms ks'
section
variable {P : Program} {X : Ctx} {J : World → Prop}
theorem hasN_get {ms : List Nat} {σ : St} : ∀ {bs : List Nat} {ks : List Blk}, hasN ms σ bs ks → ∃ ks2, getB σ.h bs = some ks2 ∧ mvB ms ks2 = some ks
 | [], [], _ => ⟨[], rfl, rfl⟩
 | [], k :: ks, h => h.elim
 | b :: bs, [], h => h.elim
 | b :: bs, k :: ks, h => by
  obtain ⟨h1, h2⟩ := h
  obtain ⟨ks2, g1, g2⟩ := hasN_get h2
  cases hx : look b σ.hp with
  | none => rw [hx] at h1; exact h1.elim
  | some x =>
   rw [hx] at h1
   simp only at h1
   have hh : σ.h b = some x := hx
   exact ⟨x :: ks2, by simp only [getB, hh, g1], by simp only [mvB, h1, g2]⟩
theorem newN1_get : ∀ (n b j : Nat), j < n → (newN1 b n)[j]? = some (b + j)
 | 0, b, j, h => by omega
 | n + 1, b, 0, _ => rfl
 | n + 1, b, j + 1, h => by
  rw [newN1, List.getElem?_cons_succ, newN1_get n (b + 1) j (by omega)]
  congr 1
  omega
theorem mut_sim {n : Nat} {ks : List Blk} {args : List V} {w : World} {B : Nat} {ρ : Nat → Option Value} {vals : List Value} (hn : args.length ≤ n) (hsm : n ≤ 100000) (hJ : ∀ w', Below B w w' → J w') {ok : Nat → Prop} (hI : Inv (upto w ok) B w (shift 1000000 ρ) (shift 1000000 fun j => ks[j]?))
  (hlen : args.length = vals.length) (hrel : ∀ (j : Nat) c u, args[j]? = some c → vals[j]? = some u → Rel w (okAt (upto w ok) B (shift 1000000 ρ) w) (shift 1000000 ρ) c u) :
  Sim J (upto w ok) w ⟨w, shift 1000000 ρ, B, []⟩ n (St.mut ks args) { tmps := vals.toArray ++ Array.replicate (n - vals.toArray.size) Go.undef, defers := [] } w (shift 1000000 ρ) := by
 have hh : (St.mut ks args).h = shift 1000000 fun j => ks[j]? := by
  rw [← names_lookup]
  funext b
  simp only [St.h, St.mut, look_lookup]
 refine ⟨hJ, .refl _ _, by rw [hh]; exact hI, fun t => ?_, by simp; omega, rfl, ⟨fun _ _ _ => rfl, fun b sv g hs ho => .inr ⟨b, sv, hs, ho⟩, fun b _ s hs => hs, Nat.le_refl _⟩, hsm⟩
 have key : ∀ (l : List V) (k t : Nat), look t ((l.zipIdx k).map fun p => (p.2, p.1)) = if k ≤ t then l[t - k]? else none := by
  intro l
  induction l with
  | nil => intro k t; simp [look]
  | cons x l ih =>
   intro k t
   rw [List.zipIdx_cons, List.map_cons]
   simp only [look]
   rw [ih]
   by_cases h1 : t = k
   ·subst h1; simp
   ·rw [if_neg h1]
    by_cases h2 : k ≤ t
    ·rw [if_pos (by omega), if_pos h2, show t - k = (t - (k + 1)) + 1 by omega]; simp
    ·rw [if_neg (by omega), if_neg h2]
 have he : (St.mut ks args).e t = (args[t]?).getD .undef := by
  have := key args 0 t
  simp only [St.e, St.mut]
  rw [this]
  simp
 rw [he]
 by_cases ht : t < args.length
 ·have hv : t < vals.length := by omega
  rw [List.getElem?_eq_getElem ht]
  have hget : (vals.toArray ++ Array.replicate (n - vals.toArray.size) Go.undef).getD t Go.undef = vals[t] := by
   rw [Array.getD_eq_getD_getElem?, Array.getElem?_append_left (by simpa using hv)]
   simp [hv]
  rw [hget]
  exact hrel t _ _ (List.getElem?_eq_getElem ht) (List.getElem?_eq_getElem hv)
 ·rw [List.getElem?_eq_none (by omega)]
  exact .ro (.undef _)
theorem sound_mut (hmix : P.follows .mixedOrders = true) (hT : TOkX P X) (hΛ : LamAll P J X) (hΦ : ∀ g args r bs, X.Φ g args = some (r, bs) → SoundAt P J g args r bs) (hJJ : Stable J)
  {f : FuncId} {fn : Func} {c : Code} {ks ks' : List Blk} {args : List V} {r : V} {nn : List Nat} (hf : P.funcs[f]? = some fn) (hname : (fn.name == "runtime.NumGoroutine") = false) (hb : fn.body = some c) (hn : args.length ≤ fn.ntmps) (hsm : fn.ntmps ≤ 100000) (hdr : drAll X.dr c = true)
  (hnn : noDup (lentN ks.length nn) = true) (h : ev X fn.ntmps c (St.mut ks args) (postM X (lentN ks.length nn) fn.results.toList r ks')) : MutAt P J f ks args r ks' := by
 intro ok w B ρ vals hJ hok hI hlen hrel
 refine .inl ⟨⟨fn, hf, hname, by rw [hb]; rfl⟩, ?_⟩
 refine calls_of_wp hf hb ?_
 have hsim := mut_sim hn hsm hJ hI hlen hrel
 generalize hms : lentN ks.length nn = ms at hnn h
 have hnd := noDup_spec hnn
 have hfst : ∀ j, j < ks.length → ms[j]? = some (1000000 + j) := fun j hj => by
  rw [← hms, lentN, List.getElem?_append_left (by rw [newN1_len]; exact hj)]
  exact newN1_get _ _ _ hj
 refine ev_sound hmix hT hΛ hΦ hJJ c _ _ _ w _ hdr h ⟨_, hsim⟩ fun e σ a w' hq hs => ?_
 have fin : resM X ms σ fn.results.toList r ∧ hasN ms σ ms ks' → a.defers = [] ∧ ∃ v, (results fn a.tmps).run P w' = .ok v w' ∧ ∃ val ρ', Ending.returned v = .returned val ∧ Below B w w' ∧ Kp (shift 1000000 ρ) w w' ∧ (∀ j, j < ks.length → ρ' j = ρ j) ∧ (∀ j sv g, ks.length ≤ j → ρ' j = some sv → own sv = some g → w.heap.size ≤ g) ∧
   Inv (upto w ok) B w' (shift 1000000 ρ') (shift 1000000 fun j => ks'[j]?) ∧ Rel w' (okAt (upto w ok) B (shift 1000000 ρ') w') (shift 1000000 ρ') r val := by
  rintro ⟨hret, hks2⟩
  obtain ⟨ρ2, hs⟩ := hs
  obtain ⟨ks2, hg2, hm2⟩ := hasN_get hks2
  obtain ⟨lg, gg⟩ := getB_get hg2
  have hInv := lent_inv (ok' := upto w ok) hs.inv (fun g hg => hg.1) (fun g h1 h2 => by have := hs.fr.grow; simp only at this; omega) hnd hg2 hm2
  have hold : ∀ j, j < ks.length → ∃ sv, ρ2 (1000000 + j) = some sv ∧ ρ j = some sv := fun j hj => by
   have h1 := hfst j hj
   have hlt := (List.getElem?_eq_some_iff.1 h1).1
   obtain ⟨b, h2, h3⟩ := gg j (ks2[j]'(by omega)) (List.getElem?_eq_getElem (by omega))
   rw [h1] at h2
   cases h2
   obtain ⟨sv, h4, _⟩ := hs.inv.blk _ _ h3
   have h5 : shift 1000000 ρ (1000000 + j) = some sv := hs.fr.hdr _ (by omega) sv h4
   exact ⟨sv, h4, by obtain ⟨_, h6⟩ := shift_some h5; rwa [Nat.add_sub_cancel_left] at h6⟩
  unfold resM at hret
  split at hret
  ·rename_i vs hvs
   obtain ⟨us, hrun, hl, hrr⟩ := res_run hT hs fn.results.toList vs hvs
   refine ⟨hs.defers, if h : us.toArray.size = 1 then us.toArray[0] else .tuple us.toArray, ?_, _, lentρ ms ρ2, rfl, hs.below, ⟨fun g hg hno => hs.fr.keep g hg hno, hs.fr.grow⟩, fun j hj => ?_, fun j sv g hj hr ho => ?_, hInv, ?_⟩
   ·have hm : (fn.results.mapM fun (r : ResultVar) => match r with | .tmp t => (pure (a.tmps.getD t Go.undef) : Sem Value) | .cell b t => do loadVar t (← asAddr (a.tmps.getD b Go.undef))).run P w' = .ok us.toArray w' := by
     rw [Array.mapM_eq_mapM_toList]
     simp only [Sem.run_map, hrun, Result.andThen_ok]
    unfold results
    rw [Sem.run_bind]
    refine (congrArg (fun x => Result.andThen x _) hm).trans ?_
    simp
   ·obtain ⟨sv, h1, h2⟩ := hold j hj
    unfold lentρ
    rw [hfst j hj, h2]
    exact h1
   ·unfold lentρ at hr
    cases hx : ms[j]? with
    | none => rw [hx] at hr; cases hr
    | some b =>
     rw [hx] at hr
     have hr : ρ2 b = some sv := hr
     rcases hs.fr.fresh b sv g hr ho with h1 | ⟨b0, sv0, h1, h2⟩
     ·exact h1
     ·exfalso
      obtain ⟨hb0, h3⟩ := shift_some h1
      obtain ⟨k, hk⟩ := hI.dom b0 sv0 h1
      obtain ⟨_, hk⟩ := shift_some hk
      have hlt := (List.getElem?_eq_some_iff.1 hk).1
      obtain ⟨s1, h4, h5⟩ := hold (b0 - 1000000) hlt
      rw [h3] at h5
      cases h5
      rw [show 1000000 + (b0 - 1000000) = b0 by omega] at h4
      have := hs.inv.inj b b0 sv sv0 g hr h4 ho h2
      subst this
      have h6 := hfst (b - 1000000) hlt
      rw [show 1000000 + (b - 1000000) = b by omega] at h6
      obtain ⟨p1, e1⟩ := List.getElem?_eq_some_iff.1 h6
      obtain ⟨p2, e2⟩ := List.getElem?_eq_some_iff.1 hx
      exact (List.pairwise_iff_getElem.1 hnd) _ _ p1 p2 (by omega) (e1.trans e2.symm)
   ·have hR : Rel w' (okAt (upto w ok) B ρ2 w') ρ2 (wrapR vs) (if h : us.toArray.size = 1 then us.toArray[0] else .tuple us.toArray) := by
     split
     ·rename_i h1
      match us, h1, hl, hrr with
      | [u], _, hl, hrr =>
       match vs, hl, hrr with
       | [v], _, hrr => exact hrr 0 v u rfl rfl
     ·rename_i h1
      have : wrapR vs = .tup vs := by
       match vs, hl with
       | [], _ => rfl
       | [v], hl => simp at h1; simp at hl; omega
       | _ :: _ :: _, _ => rfl
      rw [this]
      exact .tup _ _ hl hrr
    exact hR.mv (fun g hg => ⟨⟨hg.1, hg.2.1, fun b1 s1 h1 => by obtain ⟨b2, _, h2⟩ := lent_sub h1; exact hg.2.2 b2 s1 h2⟩, rfl⟩) hret
  ·exact hret.elim
 cases e with
 | normal => exact fin hq
 | ret => exact fin hq
 | exit id => exact hq.elim
end
/-! ### Contracts: tables of them, and bridges to those of the elder kind -/
def Snd (P : Program) (J : World → Prop) (f : FuncId) (F : List V → Option (V × List Blk)) : Prop := ∀ args r bs, F args = some (r, bs) → SoundAt P J f args r bs
abbrev Phi := List (FuncId × (List V → Option (V × List Blk)))
def phi : Phi → FuncId → List V → Option (V × List Blk)
 | [], _, _ => none
 | (f', F) :: l, f, args => if f = f' then F args else phi l f args
def PhiOk (P : Program) (J : World → Prop) : Phi → Prop
 | [] => True
 | (f, F) :: l => Snd P J f F ∧ PhiOk P J l
theorem phi_sound {P : Program} {J : World → Prop} : ∀ {l : Phi}, PhiOk P J l → ∀ g args r bs, phi l g args = some (r, bs) → SoundAt P J g args r bs
 | [], _, g, args, r, bs, h => by simp [phi] at h
 | (f, F) :: l, hl, g, args, r, bs, h => by
  simp only [phi] at h
  split at h
  ·rename_i he; subst he; exact hl.1 args r bs h
  ·exact phi_sound hl.2 g args r bs h
abbrev Lam := List (FuncId × Bool × (TypeId → Nat → List V → List V → Option (List V)))
def LamOk (P : Program) (J : World → Prop) : Lam → Prop
 | [] => True
 | (g, L) :: l => (∀ T sz es as es', L.2 T sz es as = some es' → LentAt P J L.1 g T sz es as es') ∧ LamOk P J l
theorem lam_sound {P : Program} {J : World → Prop} : ∀ {l : Lam}, LamOk P J l → ∀ g L T sz es as es', look g l = some L → L.2 T sz es as = some es' → LentAt P J L.1 g T sz es as es'
 | [], _, g, L, T, sz, es, as, es', h, _ => by simp [look] at h
 | (f, F) :: l, hl, g, L, T, sz, es, as, es', h, he => by
  simp only [look] at h
  split at h
  ·rename_i hgf; subst hgf; simp at h; subst h; exact hl.1 T sz es as es' he
  ·exact lam_sound hl.2 g L T sz es as es' h he
def Mu (P : Program) (J : World → Prop) (f : FuncId) (M : List Blk → List V → Option (V × List Blk)) : Prop := ∀ ks as r ks', M ks as = some (r, ks') → MutAt P J f ks as r ks'
def Sr (P : Program) (J : World → Prop) (f : FuncId) (S : TypeId → FuncId → Nat → TypeId → Nat → List V → Option (List V)) : Prop := ∀ t lf k T sz es es', S t lf k T sz es = some es' → SrtAt P J f t lf k T sz es es'
structure Mts where
 mt : List (FuncId × (List Blk → List V → Option (V × List Blk)))
 ln : Nat → List Nat
 st : List (FuncId × (TypeId → FuncId → Nat → TypeId → Nat → List V → Option (List V)))
def MtOk (P : Program) (J : World → Prop) : List (FuncId × (List Blk → List V → Option (V × List Blk))) → Prop
 | [] => True
 | (g, L) :: l => Mu P J g L ∧ MtOk P J l
def StOk (P : Program) (J : World → Prop) : List (FuncId × (TypeId → FuncId → Nat → TypeId → Nat → List V → Option (List V))) → Prop
 | [] => True
 | (g, L) :: l => Sr P J g L ∧ StOk P J l
def MtsOk (P : Program) (J : World → Prop) (m : Mts) : Prop := MtOk P J m.mt ∧ StOk P J m.st
theorem mt_sound {P : Program} {J : World → Prop} : ∀ {l : List (FuncId × (List Blk → List V → Option (V × List Blk)))}, MtOk P J l → ∀ g M, look g l = some M → Mu P J g M
 | [], _, g, M, h => by simp [look] at h
 | (f, F) :: l, hl, g, M, h => by
  simp only [look] at h
  split at h
  ·rename_i hgf; subst hgf; simp at h; subst h; exact hl.1
  ·exact mt_sound hl.2 g M h
theorem st_sound {P : Program} {J : World → Prop} : ∀ {l : List (FuncId × (TypeId → FuncId → Nat → TypeId → Nat → List V → Option (List V)))}, StOk P J l → ∀ g M, look g l = some M → Sr P J g M
 | [], _, g, M, h => by simp [look] at h
 | (f, F) :: l, hl, g, M, h => by
  simp only [look] at h
  split at h
  ·rename_i hgf; subst hgf; simp at h; subst h; exact hl.1
  ·exact st_sound hl.2 g M h
theorem lamAll_of {P : Program} {J : World → Prop} {X : Ctx} {lam : Lam} {ms : Mts} (hl : LamOk P J lam) (hm : MtsOk P J ms) (h1 : X.Λ = fun g => look g lam) (h2 : X.M = fun g => look g ms.mt) (h3 : X.S = fun g => look g ms.st) : LamAll P J X :=
 ⟨fun g L T sz es as es' h he => lam_sound hl g L T sz es as es' (by rw [h1] at h; exact h) he, fun g M ks as r ks' h he => mt_sound hm.1 g M (by rw [h2] at h; exact h) ks as r ks' he, fun g S t lf k T sz es es' h he => st_sound hm.2 g S (by rw [h3] at h; exact h) t lf k T sz es es' he⟩
def ms0 : Mts := ⟨[], fun _ => [], []⟩
theorem ms0_ok {P : Program} {J : World → Prop} : MtsOk P J ms0 := ⟨trivial, trivial⟩
def V.toC : V → Option Value
 | .int k n => some (.int k n)
 | .bool b => some (.bool b)
 | .str s => some (.string s)
 | _ => none
def V.toA : V → Option Value
 | .agg cs => (cs.mapM V.toC).map fun vs => .agg vs.toArray
 | v => V.toC v
def V.toV : V → Option Value
 | .tup cs => (cs.mapM V.toA).map fun vs => .tuple vs.toArray
 | v => V.toA v
theorem toC_rel {w : World} {ok : Nat → Prop} {v : V} {u : Value} (h : V.toC v = some u) : RelD w ok v u ∧ u.oneCell' = true ∧ ∀ val, RelD w ok v val → val = u := by
 cases v <;> simp [V.toC] at h <;> subst h
 ·exact ⟨.int _ _, rfl, fun val hv => by cases hv; rfl⟩
 ·exact ⟨.bool _, rfl, fun val hv => by cases hv; rfl⟩
 ·exact ⟨.str _, rfl, fun val hv => by cases hv; rfl⟩
theorem mapM_spec {α β : Type} {f : α → Option β} : ∀ {l : List α} {r : List β}, l.mapM f = some r → l.length = r.length ∧ ∀ (j : Nat) c v, l[j]? = some c → r[j]? = some v → f c = some v
 | [], r, h => by simp at h; subst h; simp
 | c :: l, r, h => by
  rw [List.mapM_cons] at h
  cases hf : f c with
  | none => simp [hf] at h
  | some y =>
   cases hl : l.mapM f with
   | none => simp [hf, hl] at h
   | some ys =>
    simp [hf, hl] at h
    subst h
    obtain ⟨h1, h2⟩ := mapM_spec hl
    refine ⟨by simp [h1], fun j c' v hc hv => ?_⟩
    cases j with
    | zero => simp at hc hv; subst hc; subst hv; exact hf
    | succ j => exact h2 j c' v (by simpa using hc) (by simpa using hv)
theorem list_eq {α : Type} {xs ys : List α} (hl : xs.length = ys.length) (h : ∀ (j : Nat) x y, xs[j]? = some x → ys[j]? = some y → x = y) : xs = ys := by
 apply List.ext_getElem hl
 intro j h1 h2
 exact h j _ _ (List.getElem?_eq_getElem h1) (List.getElem?_eq_getElem h2)
theorem toA_rel {w : World} {ok : Nat → Prop} {v : V} {u : Value} (h : V.toA v = some u) : RelD w ok v u ∧ ∀ val, RelD w ok v val → val = u := by
 unfold V.toA at h
 split at h
 ·rename_i cs
  simp only [Option.map_eq_some_iff] at h
  obtain ⟨vs, hm, rfl⟩ := h
  obtain ⟨hl, hg⟩ := mapM_spec hm
  refine ⟨.agg cs vs hl (fun x hx => ?_) (fun j c v hc hv => (toC_rel (hg j c v hc hv)).1), fun val hv => ?_⟩
  ·obtain ⟨j, hj⟩ := List.getElem?_of_mem hx
   have hlt := (List.getElem?_eq_some_iff.1 hj).1
   exact (toC_rel (w := w) (ok := ok) (hg j _ _ (List.getElem?_eq_getElem (by omega)) hj)).2.1
  ·cases hv with
   | agg _ vs' hl' _ hh =>
    rw [list_eq (xs := vs') (ys := vs) (by omega) fun j x y hx hy => by
     have hlt := (List.getElem?_eq_some_iff.1 hx).1
     exact (toC_rel (hg j _ y (List.getElem?_eq_getElem (by omega)) hy)).2.2 x (hh j _ x (List.getElem?_eq_getElem (by omega)) hx)]
 ·have := toC_rel (w := w) (ok := ok) h
  exact ⟨this.1, this.2.2⟩
theorem toV_rel {w : World} {ok : Nat → Prop} {v : V} {u : Value} (h : V.toV v = some u) : RelD w ok v u ∧ ∀ val, RelD w ok v val → val = u := by
 unfold V.toV at h
 split at h
 ·rename_i cs
  simp only [Option.map_eq_some_iff] at h
  obtain ⟨vs, hm, rfl⟩ := h
  obtain ⟨hl, hg⟩ := mapM_spec hm
  refine ⟨.tup cs vs hl (fun j c v hc hv => (toA_rel (hg j c v hc hv)).1), fun val hv => ?_⟩
  cases hv with
  | tup _ vs' hl' hh =>
   rw [list_eq (xs := vs') (ys := vs) (by omega) fun j x y hx hy => by
    have hlt := (List.getElem?_eq_some_iff.1 hx).1
    exact (toA_rel (hg j _ y (List.getElem?_eq_getElem (by omega)) hy)).2 x (hh j _ x (List.getElem?_eq_getElem (by omega)) hx)]
 ·exact toA_rel h
theorem sound_plain {P : Program} {J : World → Prop} {f : FuncId} {args : List V} {vals : List Value} {r : V} {rv : Value} (hcal : Callable P f) (ha : args.mapM V.toV = some vals) (hr : V.toV r = some rv)
  (h : ∀ w, J w → Calls P f vals.toArray w fun e w' => e = .returned rv ∧ Below w.heap.size w w') : SoundAt P J f args r [] := by
 refine ⟨hcal, fun w ok us hJ hok hlen hrel => ?_⟩
 obtain ⟨hl, hg⟩ := mapM_spec ha
 have hus : us = vals := list_eq (by omega) fun j x y hx hy => by
  have hlt := (List.getElem?_eq_some_iff.1 hx).1
  exact (toV_rel (hg j _ y (List.getElem?_eq_getElem (by omega)) hy)).2 x (hrel j _ x (List.getElem?_eq_getElem (by omega)) hx)
 subst hus
 refine (h w hJ).mono ?_
 rintro e w' ⟨rfl, hb⟩
 refine ⟨rv, fun _ => none, rfl, hb, ⟨hb.size, fun b k hk => (by simp at hk), fun b sv hr => (by cases hr), fun b b' sv sv' g h1 => (by cases h1), fun g hg hlt => by have := hb.size; omega, fun b sv g h1 => by cases h1⟩, .ro (toV_rel hr).1⟩
theorem SoundAt.calls {P : Program} {J : World → Prop} {f : FuncId} {args : List V} {r : V} {bs : List Blk} {rv : Value} (h : SoundAt P J f args r bs) (hr : V.toV r = some rv) {w : World} (hJ : J w) {vals : List Value} (hlen : args.length = vals.length)
  (hrel : ∀ (j : Nat) c v, args[j]? = some c → vals[j]? = some v → RelD w (fun g => g < w.heap.size) c v) : Calls P f vals.toArray w fun e w' => e = .returned rv ∧ Below w.heap.size w w' := by
 refine (h.2 w (fun g => g < w.heap.size) vals hJ (fun g hg => hg) hlen hrel).mono ?_
 rintro e w' ⟨val, ρr, rfl, hb, _, hrr⟩
 refine ⟨?_, hb⟩
 cases hrr with
 | ro hd => rw [(toV_rel hr).2 _ hd]
 | ptr => cases hr
 | eptr => cases hr
 | vec => cases hr
 | sub => cases hr
 | fn => cases hr
 | ifc => cases hr
 | agg cs vs hl h1 hh =>
  have := (toV_rel (w := w') (ok := okAt (upto w fun g => g < w.heap.size) w.heap.size ρr w') hr).2 (.agg vs.toArray) (.agg cs vs hl h1 fun j c v hc hv => ?_)
  ·rw [this]
  ·unfold V.toV V.toA at hr
   simp only [Option.map_eq_some_iff] at hr
   obtain ⟨us, hm, _⟩ := hr
   obtain ⟨hl2, hg⟩ := mapM_spec hm
   have hj := (List.getElem?_eq_some_iff.1 hc).1
   have ht := hg j c _ hc (List.getElem?_eq_getElem (by omega))
   have := hh j c v hc hv
   cases c <;> simp [V.toC] at ht <;> exact this.toD rfl
 | tup cs vs hl hh =>
  have := (toV_rel (w := w') (ok := okAt (upto w fun g => g < w.heap.size) w.heap.size ρr w') hr).2 (.tuple vs.toArray) (.tup cs vs hl fun j c v hc hv => ?_)
  ·rw [this]
  ·unfold V.toV at hr
   simp only [Option.map_eq_some_iff] at hr
   obtain ⟨us, hm, _⟩ := hr
   obtain ⟨hl2, hg⟩ := mapM_spec hm
   have hj := (List.getElem?_eq_some_iff.1 hc).1
   have ht := hg j c _ hc (List.getElem?_eq_getElem (by omega))
   refine (hh j c v hc hv).toD ?_
   unfold V.toA at ht
   split at ht
   ·rename_i ds
    simp only [Option.map_eq_some_iff] at ht
    obtain ⟨us2, hm2, _⟩ := ht
    obtain ⟨hl3, hg3⟩ := mapM_spec hm2
    rw [V.data, dataL_iff]
    intro x hx
    obtain ⟨i, hi⟩ := List.getElem?_of_mem hx
    have hii := (List.getElem?_eq_some_iff.1 hi).1
    have ht3 := hg3 i x _ hi (List.getElem?_eq_getElem (by omega))
    cases x <;> simp [V.toC] at ht3 <;> rfl
   ·cases c <;> simp [V.toC] at ht <;> rfl
theorem SoundAt.row {P : Program} {J : World → Prop} {f : FuncId} {args : List V} {r : V} {bs : List Blk} (j : Nat) {sz : Nat} {es : List V} (hj : args[j]? = some (.row sz es)) (hcal : Callable P f) (h : es.length ≤ maxLen → SoundAt P J f args r bs) : SoundAt P J f args r bs := by
 refine ⟨hcal, fun w ok vals hJ hok hlen hrel => ?_⟩
 have hlt := (List.getElem?_eq_some_iff.1 hj).1
 have hr := hrel j _ _ hj (List.getElem?_eq_getElem (show j < vals.length by omega))
 have hle : es.length ≤ maxLen := by
  generalize vals[j] = x at hr
  cases hr with
  | nil => exact Nat.zero_le _
  | row _ _ g o cap vs hok hcap hmax => omega
 exact (h hle).2 w ok vals hJ hok hlen hrel
theorem refsIn_data {bs : List Nat} : ∀ {v : V}, V.data v = true → V.refsIn bs v = true
 | .agg cs, h => by
  rw [V.refsIn, refsInL_iff]; rw [V.data, dataL_iff] at h
  exact fun c hc => refsIn_data (h c hc)
 | .tup cs, h => by
  rw [V.refsIn, refsInL_iff]; rw [V.data, dataL_iff] at h
  exact fun c hc => refsIn_data (h c hc)
 | .fn f cs, h => by
  rw [V.refsIn, refsInL_iff]; rw [V.data, dataL_iff] at h
  exact fun c hc => refsIn_data (h c hc)
 | .ptr _ _, h => by simp [V.data] at h
 | .eptr _ _ _ _, h => by simp [V.data] at h
 | .vec _, h => by simp [V.data] at h
 | .sub _ _ _ _, h => by simp [V.data] at h
 | .int _ _, _ => rfl
 | .bool _, _ => rfl
 | .str _, _ => rfl
 | .row _ _, _ => rfl
 | .zero, _ => rfl
 | .rd _ _, _ => rfl
 | .undef, _ => rfl
 | .raw _, _ => rfl
 | .ifc _ v, h => by rw [V.data] at h; rw [V.refsIn]; exact refsIn_data h
theorem refsInL_data {bs : List Nat} {cs : List V} (h : V.dataL cs = true) : V.refsInL bs cs = true := by
 rw [refsInL_iff]; rw [dataL_iff] at h
 exact fun c hc => refsIn_data (h c hc)
theorem map_fix {α : Type} {f : α → α} : ∀ {l : List α}, (∀ x ∈ l, f x = x) → l.map f = l
 | [], _ => rfl
 | x :: l, h => by rw [List.map_cons, h x (by simp), map_fix fun y hy => h y (List.mem_cons_of_mem _ hy)]
theorem scrub_data {b : Nat} {r : V} : ∀ {v : V}, V.data v = true → V.scrub b r v = v
 | .agg cs, h => by
  rw [V.data, dataL_iff] at h
  rw [V.scrub, scrubL_eq, map_fix fun c hc => scrub_data (h c hc)]
 | .tup cs, h => by
  rw [V.data, dataL_iff] at h
  rw [V.scrub, scrubL_eq, map_fix fun c hc => scrub_data (h c hc)]
 | .fn f cs, h => by
  rw [V.data, dataL_iff] at h
  rw [V.scrub, scrubL_eq, map_fix fun c hc => scrub_data (h c hc)]
 | .ptr _ _, h => by simp [V.data] at h
 | .eptr _ _ _ _, h => by simp [V.data] at h
 | .vec _, h => by simp [V.data] at h
 | .sub _ _ _ _, h => by simp [V.data] at h
 | .int _ _, _ => by rw [V.scrub]
 | .bool _, _ => by rw [V.scrub]
 | .str _, _ => by rw [V.scrub]
 | .row _ _, _ => by rw [V.scrub]
 | .zero, _ => by rw [V.scrub]
 | .rd _ _, _ => by rw [V.scrub]
 | .undef, _ => by rw [V.scrub]
 | .raw _, _ => by rw [V.scrub]
 | .ifc _ v, h => by rw [V.data] at h; rw [V.scrub, scrub_data h]
theorem scrubL_data {b : Nat} {r : V} {cs : List V} (h : V.dataL cs = true) : V.scrubL b r cs = cs := by
 rw [dataL_iff] at h
 rw [scrubL_eq, map_fix fun c hc => scrub_data (h c hc)]
/-! ### Rules for running the machine: what comes next stands where simp does not look -/
class K1 (α : Type) where
 k : α → Prop
class KQ where
 q : Ex → St → Prop
class KC where
 c : Code
class KO where
 ops : List Oper
 os : List Oper
class KA where
 p : Prop
class KB where
 p : Prop
def oS {α : Type} (x : Option α) [K : K1 α] : Prop := onSome x K.k
def oB (x : V) [K : K1 Bool] : Prop := onBool x K.k
def oI (b : Bool) [x : KA] [y : KB] : Prop := onIf b x.p y.p
def oE (e : Ex) [q : KA] [r : KQ] (σ : St) : Prop := match e with
 | .normal => q.p
 | e => r.q e σ
def evQ (X : Ctx) (n : Nat) [c : KC] (σ : St) [Q : KQ] : Prop := ev X n c.c σ Q.q
def evO (X : Ctx) (n : Nat) [o : KO] (σ : St) [K : K1 St] : Prop := evOps X n o.ops o.os σ K.k
def evR (X : Ctx) (n : Nat) (x : Option (Nat × List (List Nat))) [o : KO] (σ : St) [K : K1 St] : Prop := evReg X n x o.ops o.os σ K.k
def evT (X : Ctx) (n : Nat) (l : List (List Nat)) [o : KO] (σ : St) [K : K1 St] : Prop := evTwo X n o.ops o.os l σ K.k
def oW (x : Option ((V × Eff) × (V × Eff))) [A : K1 ((V × Eff) × (V × Eff))] [y : KB] : Prop := onTwo x A.k y.p
def evP (X : Ctx) (n : Nat) (p : Nat × List (List Nat)) [o : KO] (σ : St) [K : K1 St] : Prop := evDr X n o.ops p σ K.k
def evW (X : Ctx) (n : Nat) (un : List (List Nat)) (k : Nat) (L : List (Nat × Ent)) [o : KO] (σ : St) [K : K1 St] : Prop := evHeadW X n o.ops ((o.os.take un.length).zip un) k L σ fun σ1 => evOps X n o.ops (o.os.drop un.length) σ1 K.k
structure PH where
 p : Nat
 q : Nat
 dp : Nat
 dq : Nat
 wq : List Nat
def evH (X : Ctx) (n : Nat) (I : PH) (k m : Nat) (pd : Option Blk) [o : KO] (σ : St) [K : K1 St] : Prop := evHeadP X n I.p I.q I.dp I.dq I.wq (o.os.take m) k pd σ fun _ σ1 => evOps X n o.ops (o.os.drop m) σ1 K.k
def hpA (n : Nat) (dst : Option Nat) (dp dq : Nat) (r : V × Eff) [C : K1 Blk] : Prop := match r with
 | (.vec b, .new [(b', kk)]) => (dst = some dp ∧ b = 8 * dq ∧ b' = 8 * dq ∧ dstOk n dst) ∧ C.k kk
 | _ => False
def hpB (n : Nat) (dst : Option Nat) (dp dq : Nat) (σ : St) (r : V × Eff) [C : K1 Blk] : Prop := match r with
 | (.vec b, .change b' k2) => (dst = some dq ∧ b = 8 * dq ∧ b' = 8 * dq ∧ dstOk n dst ∧ (σ.h (8 * dq)).isNone = true ∧ σ.e dp = .undef) ∧ C.k k2
 | _ => False
def evD (X : Ctx) (n m : Nat) [o : KO] (σ : St) [K : K1 St] : Prop := evHead X n o.ops (o.os.take m) σ fun σ1 => evOps X n o.ops (o.os.drop m) σ1 K.k
theorem ev_start {X : Ctx} {n : Nat} {c : Code} {σ : St} {Q : Ex → St → Prop} (h : @evQ X n ⟨c⟩ σ ⟨Q⟩) : ev X n c σ Q := h
section
variable (X : Ctx) (n : Nat) (σ : St) (Q : Ex → St → Prop)
theorem oS_some {α : Type} (a : α) (K : α → Prop) : @oS α (some a) ⟨K⟩ = K a := rfl
theorem oS_none {α : Type} (K : α → Prop) : @oS α none ⟨K⟩ = False := rfl
theorem oS_ite {α : Type} (c : Prop) [Decidable c] (x : Option α) (K : α → Prop) : @oS α (if c then x else none) ⟨K⟩ = (c ∧ @oS α x ⟨K⟩) := by by_cases h : c <;> simp [h, oS, onSome]
theorem oS_ite' {α : Type} (c : Prop) [Decidable c] (x : Option α) (K : α → Prop) : @oS α (if c then none else x) ⟨K⟩ = (¬ c ∧ @oS α x ⟨K⟩) := by by_cases h : c <;> simp [h, oS, onSome]
theorem oB_bool (b : Bool) (K : Bool → Prop) : @oB (.bool b) ⟨K⟩ = K b := rfl
theorem oI_true (x y : Prop) : @oI true ⟨x⟩ ⟨y⟩ = x := rfl
theorem oI_false (x y : Prop) : @oI false ⟨x⟩ ⟨y⟩ = y := rfl
theorem oI_not (b : Bool) (x y : Prop) : @oI (!b) ⟨x⟩ ⟨y⟩ = @oI b ⟨y⟩ ⟨x⟩ := by cases b <;> rfl
theorem evO_nil (ops : List Oper) (K : St → Prop) : @evO X n ⟨ops, []⟩ σ ⟨K⟩ = K σ := rfl
theorem evO_cons (ops : List Oper) (dst : Option Nat) (op : Op) (ty : TypeId) (pos : String) (after : Array Edge) (os : List Oper) (K : St → Prop) :
  @evO X n ⟨ops, ⟨dst, op, ty, pos, after, none⟩ :: os⟩ σ ⟨K⟩ = @oS _ (freezeL (X.frz (dst.getD 0)) σ) ⟨fun σ => @oS _ (evalOp X σ.e σ.h (dst.getD 0) op) ⟨fun p => dstOk n dst ∧ @evO X n ⟨ops, os⟩ (σ.app p.2 dst p.1) ⟨K⟩⟩⟩ := rfl
theorem evO_guard (ops : List Oper) (dst : Option Nat) (op : Op) (ty : TypeId) (pos : String) (after : Array Edge) (j : Nat) (want : Bool) (os : List Oper) (K : St → Prop) :
  @evO X n ⟨ops, ⟨dst, op, ty, pos, after, some (j, want)⟩ :: os⟩ σ ⟨K⟩ = @oS _ (guardT ops j) ⟨fun t => @oS _ (gOf (σ.e t)) ⟨fun b =>
   @oI (b == some want) ⟨@oS _ (evalOp X σ.e σ.h (dst.getD 0) op) ⟨fun p => dstOk n dst ∧ @evO X n ⟨ops, os⟩ (σ.app p.2 dst p.1) ⟨K⟩⟩⟩ ⟨dstOk n dst ∧ @evO X n ⟨ops, os⟩ (σ.app .none dst (.raw Go.undef)) ⟨K⟩⟩⟩⟩ := rfl
theorem evQ_skip : @evQ X n ⟨.skip⟩ σ ⟨Q⟩ = Q .normal σ := rfl
theorem evQ_region (id : Nat) (ops : List Oper) : @evQ X n ⟨.region id ops.toArray false⟩ σ ⟨Q⟩ = @evR X n (look id X.dr) ⟨ops, ops⟩ σ ⟨fun σ' => Q .normal (σ'.drop (X.dead id))⟩ := rfl
theorem evR_none (ops os : List Oper) (K : St → Prop) : @evR X n none ⟨ops, os⟩ σ ⟨K⟩ = @evO X n ⟨ops, os⟩ σ ⟨K⟩ := rfl
theorem evR_some (q : Nat) (l : List (List Nat)) (ops os : List Oper) (K : St → Prop) : @evR X n (some (q, l)) ⟨ops, os⟩ σ ⟨K⟩ = @evT X n l ⟨ops, os⟩ σ ⟨K⟩ := rfl
theorem evT_cons (ops : List Oper) (x : List Nat) (l : List (List Nat)) (dst : Option Nat) (op : Op) (ty : TypeId) (pos : String) (after : Array Edge) (os : List Oper) (K : St → Prop) :
  @evT X n (x :: l) ⟨ops, ⟨dst, op, ty, pos, after, none⟩ :: os⟩ σ ⟨K⟩ = @oS _ (freezeL (X.frz (dst.getD 0)) σ) ⟨fun σ => @oS _ (evalOp X σ.e σ.h (dst.getD 0) op) ⟨fun p => dstOk n dst ∧ @evT X n l ⟨ops, os⟩ (σ.app p.2 dst p.1) ⟨K⟩⟩⟩ := rfl
theorem evT_nil (ops : List Oper) (dst : Option Nat) (op : Op) (ty : TypeId) (pos : String) (after : Array Edge) (os : List Oper) (K : St → Prop) :
  @evT X n [] ⟨ops, ⟨dst, op, ty, pos, after, none⟩ :: os⟩ σ ⟨K⟩ = @oS _ (freezeL (X.frz (dst.getD 0)) σ) ⟨fun σ => @oW (twoOp X σ.e σ.h (dst.getD 0) op) ⟨fun r => dstOk n dst ∧ @evO X n ⟨ops, os⟩ (σ.app r.1.2 dst r.1.1) ⟨K⟩ ∧ @evO X n ⟨ops, os⟩ (σ.app r.2.2 dst r.2.1) ⟨K⟩⟩
   ⟨@oS _ (evalOp X σ.e σ.h (dst.getD 0) op) ⟨fun p => dstOk n dst ∧ @evO X n ⟨ops, os⟩ (σ.app p.2 dst (toSub p.1 p.2)) ⟨K⟩⟩⟩⟩ := rfl
theorem oW_some (r : (V × Eff) × (V × Eff)) (K : (V × Eff) × (V × Eff) → Prop) (y : Prop) : @oW (some r) ⟨K⟩ ⟨y⟩ = K r := rfl
theorem oW_none (K : (V × Eff) × (V × Eff) → Prop) (y : Prop) : @oW none ⟨K⟩ ⟨y⟩ = y := rfl
theorem two_append (e : Env) (h : Hp) (d : Nat) (s x : Operand) (t t2 : TypeId) : twoOp X e h d (.call ⟨.builtin .append, #[s, x], #[t, t2]⟩) = tailV X h d t t2 (opd e s) (opd e x) := rfl
theorem evQ_dr (id : Nat) (ops : List Oper) : @evQ X n ⟨.region id ops.toArray true⟩ σ ⟨Q⟩ = @oS _ (look id X.dr) ⟨fun m => @evP X n m ⟨ops, ops⟩ σ ⟨fun σ' => Q .normal (σ'.drop (X.dead id))⟩⟩ := rfl
theorem evP_D (m : Nat) (ops : List Oper) (K : St → Prop) : @evP X n (m, []) ⟨ops, ops⟩ σ ⟨K⟩ = @evD X n m ⟨ops, ops⟩ σ ⟨K⟩ := (rfl)
theorem evP_W (m : Nat) (un : List (List Nat)) (ops : List Oper) (K : St → Prop) : @evP X n (m, [] :: un) ⟨ops, ops⟩ σ ⟨K⟩ = @evW X n ([] :: un) 0 [] ⟨ops, ops⟩ σ ⟨K⟩ := (rfl)
theorem evP_P (m p q dp dq : Nat) (wq : List Nat) (r : List (List Nat)) (ops : List Oper) (K : St → Prop) : @evP X n (m, [p, q, dp, dq] :: wq :: r) ⟨ops, ops⟩ σ ⟨K⟩ = @evH X n ⟨p, q, dp, dq, wq⟩ 0 m none ⟨ops, ops⟩ σ ⟨K⟩ := (rfl)
theorem evH_zero (I : PH) (k : Nat) (pd : Option Blk) (ops os : List Oper) (K : St → Prop) : @evH X n I k 0 pd ⟨ops, os⟩ σ ⟨K⟩ = @evO X n ⟨ops, os⟩ σ ⟨K⟩ := (rfl)
theorem evH_cons (p q dp dq : Nat) (wq : List Nat) (k m : Nat) (pd : Option Blk) (ops : List Oper) (dst : Option Nat) (op : Op) (ty : TypeId) (pos : String) (after : Array Edge) (os : List Oper) (K : St → Prop) :
  @evH X n ⟨p, q, dp, dq, wq⟩ k (m + 1) pd ⟨ops, ⟨dst, op, ty, pos, after, none⟩ :: os⟩ σ ⟨K⟩ =
   @oI (k == p) ⟨@oS _ (evalOp X σ.e σ.h dq op) ⟨fun r => @hpA n dst dp dq r ⟨fun kk => @evH X n ⟨p, q, dp, dq, wq⟩ (k + 1) m (some kk) ⟨ops, os⟩ (σ.app .none dst .undef) ⟨K⟩⟩⟩⟩
    ⟨@oI (k == q) ⟨@oS _ pd ⟨fun kk => @oS _ (appP X dp dq kk σ.e σ.h op) ⟨fun r => @hpB n dst dp dq σ r ⟨fun k2 => @evH X n ⟨p, q, dp, dq, wq⟩ (k + 1) m (some kk) ⟨ops, os⟩ (σ.app (.new [(8 * dq, k2)]) dst (.vec (8 * dq))) ⟨K⟩⟩⟩⟩⟩
     ⟨@oS _ (evalOp X σ.e σ.h (dst.getD 0) op) ⟨fun r => (dstOk n dst ∧ r.2.mild = true ∧ (wq.contains k || (V.noRef (8 * dq) r.1 && nrEff (8 * dq) r.2)) = true) ∧ @evH X n ⟨p, q, dp, dq, wq⟩ (k + 1) m pd ⟨ops, os⟩ (σ.app r.2 dst r.1) ⟨K⟩⟩⟩⟩ := by
 unfold evH
 simp only [List.take_succ_cons, evHeadP]
 by_cases h1 : k = p
 ·have e1 : (k == p) = true := by simpa using h1
  rw [if_pos h1, e1, oI_true]
  rfl
 ·have e1 : (k == p) = false := by simpa using h1
  rw [if_neg h1, e1, oI_false]
  by_cases h2 : k = q
  ·have e2 : (k == q) = true := by simpa using h2
   rw [if_pos h2, e2, oI_true]
   cases pd <;> rfl
  ·have e2 : (k == q) = false := by simpa using h2
   rw [if_neg h2, e2, oI_false]
   rfl
theorem hpA_eq (dst : Option Nat) (dp dq b b' : Nat) (kk : Blk) (C : Blk → Prop) : @hpA n dst dp dq (.vec b, .new [(b', kk)]) ⟨C⟩ = ((dst = some dp ∧ b = 8 * dq ∧ b' = 8 * dq ∧ dstOk n dst) ∧ C kk) := rfl
theorem hpB_eq (dst : Option Nat) (dp dq b b' : Nat) (kk : Blk) (C : Blk → Prop) : @hpB n dst dp dq σ (.vec b, .change b' kk) ⟨C⟩ = ((dst = some dq ∧ b = 8 * dq ∧ b' = 8 * dq ∧ dstOk n dst ∧ (σ.h (8 * dq)).isNone = true ∧ σ.e dp = .undef) ∧ C kk) := rfl
theorem augH_eq (N : Nat) (k : Blk) (h : Hp) (b : Nat) : augH N k h b = if b = N then some k else h b := rfl
theorem evW_nil (k : Nat) (L : List (Nat × Ent)) (ops os : List Oper) (K : St → Prop) : @evW X n [] k L ⟨ops, os⟩ σ ⟨K⟩ = @evO X n ⟨ops, os⟩ σ ⟨K⟩ := (rfl)
theorem evW_cons (k : Nat) (L : List (Nat × Ent)) (u : List Nat) (un : List (List Nat)) (ops : List Oper) (dst : Option Nat) (op : Op) (ty : TypeId) (pos : String) (after : Array Edge) (os : List Oper) (K : St → Prop) :
  @evW X n (u :: un) k L ⟨ops, ⟨dst, op, ty, pos, after, none⟩ :: os⟩ σ ⟨K⟩ = @oS _ (evalOp X σ.e σ.h (dst.getD 0) op) ⟨fun p => (dstOk n dst ∧ okW L u (touchOf σ.e op) p.2 = true) ∧ @evW X n un (k + 1) ((k, ⟨touchOf σ.e op, p.2.wb⟩) :: L) ⟨ops, os⟩ (σ.app p.2 dst p.1) ⟨K⟩⟩ := (rfl)
theorem evW_guard (k : Nat) (L : List (Nat × Ent)) (u : List Nat) (un : List (List Nat)) (ops : List Oper) (dst : Option Nat) (op : Op) (ty : TypeId) (pos : String) (after : Array Edge) (j : Nat) (want : Bool) (os : List Oper) (K : St → Prop) :
  @evW X n (u :: un) k L ⟨ops, ⟨dst, op, ty, pos, after, some (j, want)⟩ :: os⟩ σ ⟨K⟩ = @oS _ (guardT ops j) ⟨fun t => @oS _ (gOf (σ.e t)) ⟨fun b =>
   @oI (b == some want) ⟨@oS _ (evalOp X σ.e σ.h (dst.getD 0) op) ⟨fun p => (dstOk n dst ∧ okW L u (touchOf σ.e op) p.2 = true) ∧ @evW X n un (k + 1) ((k, ⟨touchOf σ.e op, p.2.wb⟩) :: L) ⟨ops, os⟩ (σ.app p.2 dst p.1) ⟨K⟩⟩⟩ ⟨dstOk n dst ∧ @evW X n un (k + 1) ((k, ⟨some [], none⟩) :: L) ⟨ops, os⟩ (σ.app .none dst (.raw Go.undef)) ⟨K⟩⟩⟩⟩ := (rfl)
theorem okW_eq (L : List (Nat × Ent)) (un : List Nat) (us : Option (List V)) (eff : Eff) : okW L un us eff = (eff.tame && (us.isSome || eff.wb.isNone) && un.all fun i => okU (look i L) ⟨us, eff.wb⟩) := rfl
theorem tame_none : Eff.tame .none = true := rfl
theorem tame_new (l : List (Nat × Blk)) : Eff.tame (.new l) = true := rfl
theorem tame_write (b : Nat) (k : Blk) : Eff.tame (.write b k) = true := rfl
theorem wb_none : Eff.wb .none = none := rfl
theorem wb_new (l : List (Nat × Blk)) : Eff.wb (.new l) = none := rfl
theorem wb_write (b : Nat) (k : Blk) : Eff.wb (.write b k) = some b := rfl
theorem okU_some (x y : Ent) : okU (some x) y = (offW x.w y.us && offW y.w x.us) := rfl
theorem offW_none (us : Option (List V)) : offW none us = true := rfl
theorem offW_some (b : Nat) (l : List V) : offW (some b) (some l) = l.all (V.noRef b) := rfl
theorem evD_zero (ops os : List Oper) (K : St → Prop) : @evD X n 0 ⟨ops, os⟩ σ ⟨K⟩ = @evO X n ⟨ops, os⟩ σ ⟨K⟩ := (rfl)
theorem evD_nil (m : Nat) (ops : List Oper) (K : St → Prop) : @evD X n m ⟨ops, []⟩ σ ⟨K⟩ = K σ := by
 unfold evD
 simp only [List.take_nil, List.drop_nil]
 rfl
theorem evD_cons (m : Nat) (ops : List Oper) (dst : Option Nat) (op : Op) (ty : TypeId) (pos : String) (after : Array Edge) (os : List Oper) (K : St → Prop) :
  @evD X n (m + 1) ⟨ops, ⟨dst, op, ty, pos, after, none⟩ :: os⟩ σ ⟨K⟩ = @oS _ (evalOp X σ.e σ.h (dst.getD 0) op) ⟨fun p => (dstOk n dst ∧ p.2.mild = true) ∧ @evD X n m ⟨ops, os⟩ (σ.app p.2 dst p.1) ⟨K⟩⟩ := (rfl)
theorem evD_guard (m : Nat) (ops : List Oper) (dst : Option Nat) (op : Op) (ty : TypeId) (pos : String) (after : Array Edge) (j : Nat) (want : Bool) (os : List Oper) (K : St → Prop) :
  @evD X n (m + 1) ⟨ops, ⟨dst, op, ty, pos, after, some (j, want)⟩ :: os⟩ σ ⟨K⟩ = @oS _ (guardT ops j) ⟨fun t => @oS _ (gOf (σ.e t)) ⟨fun b =>
   @oI (b == some want) ⟨@oS _ (evalOp X σ.e σ.h (dst.getD 0) op) ⟨fun p => (dstOk n dst ∧ p.2.mild = true) ∧ @evD X n m ⟨ops, os⟩ (σ.app p.2 dst p.1) ⟨K⟩⟩⟩ ⟨dstOk n dst ∧ @evD X n m ⟨ops, os⟩ (σ.app .none dst (.raw Go.undef)) ⟨K⟩⟩⟩⟩ := (rfl)
theorem mild_none : Eff.mild .none = true := rfl
theorem mild_new (l : List (Nat × Blk)) : Eff.mild (.new l) = true := rfl
theorem evQ_seq (x y : Code) : @evQ X n ⟨.seq x y⟩ σ ⟨Q⟩ = @evQ X n ⟨x⟩ σ ⟨fun e σ' => @oE e ⟨@evQ X n ⟨y⟩ σ' ⟨Q⟩⟩ ⟨Q⟩ σ'⟩ := by
 unfold evQ oE
 simp only [ev]
 all_goals (refine congrArg (ev X n x σ) ?_; funext e σ'; cases e <;> rfl)
theorem oE_normal (x : Prop) : @oE .normal ⟨x⟩ ⟨Q⟩ σ = x := rfl
theorem oE_exit (x : Prop) (i : Nat) : @oE (.exit i) ⟨x⟩ ⟨Q⟩ σ = Q (.exit i) σ := rfl
theorem oE_ret (x : Prop) : @oE .ret ⟨x⟩ ⟨Q⟩ σ = Q .ret σ := rfl
theorem evQ_cond (c : Operand) (x y : Code) : @evQ X n ⟨.cond c x y⟩ σ ⟨Q⟩ = @oB (opd σ.e c) ⟨fun b => @oI b ⟨@evQ X n ⟨x⟩ σ ⟨Q⟩⟩ ⟨@evQ X n ⟨y⟩ σ ⟨Q⟩⟩⟩ := rfl
def bQ (id : Nat) (Q : Ex → St → Prop) (e : Ex) (σ' : St) : Prop := match e with
 | .exit i => if i = id then Q .normal σ' else Q (.exit i) σ'
 | e => Q e σ'
theorem bQ_normal (id : Nat) : bQ id Q .normal σ = Q .normal σ := rfl
theorem bQ_ret (id : Nat) : bQ id Q .ret σ = Q .ret σ := rfl
theorem bQ_exit (id i : Nat) : bQ id Q (.exit i) σ = if i = id then Q .normal σ else Q (.exit i) σ := rfl
theorem evQ_block (id : Nat) (x : Code) : @evQ X n ⟨.block id x⟩ σ ⟨Q⟩ = @evQ X n ⟨x⟩ σ ⟨fun e σ' => bQ id Q e σ'⟩ := by
 unfold evQ
 simp only [ev]
 rfl
theorem evQ_exit (id : Nat) : @evQ X n ⟨.exit id⟩ σ ⟨Q⟩ = Q (.exit id) σ := rfl
theorem evQ_ret : @evQ X n ⟨.ret⟩ σ ⟨Q⟩ = Q .ret σ := rfl
def lQ (ts bs : List Nat) (I : St → Prop) (μ : St → Nat) (m : Nat) (Q : Ex → St → Prop) (e : Ex) (σ' : St) : Prop := match e with
 | .normal => (σ'.keep ts bs).closed bs = true ∧ I (σ'.keep ts bs) ∧ μ (σ'.keep ts bs) < m
 | e => Q e σ'
theorem lQ_normal (ts bs : List Nat) (I : St → Prop) (μ : St → Nat) (m : Nat) : lQ ts bs I μ m Q .normal σ = ((σ.keep ts bs).closed bs = true ∧ I (σ.keep ts bs) ∧ μ (σ.keep ts bs) < m) := rfl
theorem lQ_ret (ts bs : List Nat) (I : St → Prop) (μ : St → Nat) (m : Nat) : lQ ts bs I μ m Q .ret σ = Q .ret σ := rfl
theorem lQ_exit (ts bs : List Nat) (I : St → Prop) (μ : St → Nat) (m i : Nat) : lQ ts bs I μ m Q (.exit i) σ = Q (.exit i) σ := rfl
theorem evQ_loop {X : Ctx} {n : Nat} {x : Code} {σ : St} {Q : Ex → St → Prop} (ts bs : List Nat) (I : St → Prop) (μ : St → Nat) (h0 : (σ.keep ts bs).closed bs = true ∧ I (σ.keep ts bs))
  (h : ∀ σ, I σ → @evQ X n ⟨x⟩ σ ⟨fun e σ' => lQ ts bs I μ (μ σ) Q e σ'⟩) : @evQ X n ⟨.loop x⟩ σ ⟨Q⟩ := by
 refine ⟨ts, bs, I, μ, h0, fun σ hI => ?_⟩
 refine Eq.mp (congrArg (ev X n x σ) ?_) (h σ hI)
 funext e σ'
 cases e <;> rfl
end
class HX (α : Type) where
 v : α
class HY (α : Type) where
 v : α
def selB {α : Type} (c : Bool) [x : HX α] [y : HY α] : α := match c with
 | true => x.v
 | false => y.v
theorem selB_true {α : Type} (x y : α) : @selB α true ⟨x⟩ ⟨y⟩ = x := rfl
theorem selB_false {α : Type} (x y : α) : @selB α false ⟨x⟩ ⟨y⟩ = y := rfl
theorem e_mk (l : List (Nat × V)) (h : List (Nat × Blk)) (t : Nat) : St.e ⟨l, h⟩ t = (look t l).getD .undef := rfl
theorem h_mk (l : List (Nat × V)) (h : List (Nat × Blk)) (b : Nat) : St.h ⟨l, h⟩ b = look b h := rfl
theorem look_nil {α : Type} (t : Nat) : look t ([] : List (Nat × α)) = none := rfl
theorem look_cons {α : Type} (t t' : Nat) (v : α) (l : List (Nat × α)) : look t ((t', v) :: l) = @selB (Option α) (t == t') ⟨some v⟩ ⟨look t l⟩ := by
 simp only [look]
 by_cases h : t = t'
 ·subst h; rw [if_pos rfl, beq_self_eq_true]; rfl
 ·rw [if_neg h, beq_eq_false_iff_ne.2 h]; rfl
theorem setA_nil {α : Type} (t : Nat) (v : α) : setA t v [] = [(t, v)] := rfl
theorem setA_cons {α : Type} (t t' : Nat) (v v' : α) (l : List (Nat × α)) : setA t v ((t', v') :: l) = @selB _ (t == t') ⟨(t, v) :: l⟩ ⟨@selB _ (decide (t < t')) ⟨(t, v) :: (t', v') :: l⟩ ⟨(t', v') :: setA t v l⟩⟩ := by
 simp only [setA]
 by_cases h : t = t'
 ·subst h; rw [if_pos rfl, beq_self_eq_true]; rfl
 ·rw [if_neg h, beq_eq_false_iff_ne.2 h, selB_false]
  by_cases h2 : t < t'
  ·rw [if_pos h2, decide_eq_true h2]; rfl
  ·rw [if_neg h2, decide_eq_false h2]; rfl
theorem setH_nil {α : Type} (t : Nat) (v : α) : setH t v [] = [(t, v)] := rfl
theorem setH_cons {α : Type} (t t' : Nat) (v v' : α) (l : List (Nat × α)) : setH t v ((t', v') :: l) = @selB _ (t == t') ⟨(t, v) :: l⟩ ⟨(t', v') :: setH t v l⟩ := by
 simp only [setH]
 by_cases h : t = t'
 ·subst h; rw [if_pos rfl, beq_self_eq_true]; rfl
 ·rw [if_neg h, beq_eq_false_iff_ne.2 h]; rfl
theorem app_none (l : List (Nat × V)) (h : List (Nat × Blk)) (dst : Option Nat) (v : V) : St.app ⟨l, h⟩ .none dst v = ⟨putE dst v l, h⟩ := rfl
theorem app_new (l : List (Nat × V)) (h : List (Nat × Blk)) (dst : Option Nat) (v : V) (ks : List (Nat × Blk)) : St.app ⟨l, h⟩ (.new ks) dst v = ⟨putE dst v l, h ++ ks⟩ := rfl
theorem app_write (l : List (Nat × V)) (h : List (Nat × Blk)) (dst : Option Nat) (v : V) (b : Nat) (k : Blk) : St.app ⟨l, h⟩ (.write b k) dst v = ⟨putE dst v l, setH b k h⟩ := rfl
theorem app_change (l : List (Nat × V)) (h : List (Nat × Blk)) (dst : Option Nat) (v : V) (b : Nat) (k : Blk) : St.app ⟨l, h⟩ (.change b k) dst v = ⟨putE dst v (mapA (V.scrub b .undef) l), setH b k (mapA (Blk.scrub b .undef) h)⟩ := rfl
theorem putE_some (t : Nat) (v : V) (l : List (Nat × V)) : putE (some t) v l = setA t v l := rfl
theorem putE_none (v : V) (l : List (Nat × V)) : putE none v l = l := rfl
theorem mapA_nil {α : Type} (f : α → α) : mapA f [] = [] := rfl
theorem mapA_cons {α : Type} (f : α → α) (t : Nat) (v : α) (l : List (Nat × α)) : mapA f ((t, v) :: l) = (t, f v) :: mapA f l := rfl
def kpL {α : Type} (ts : List Nat) (l : List (Nat × α)) : List (Nat × α) := l.filter fun p => ts.contains p.1
def mem (t : Nat) (ts : List Nat) : Bool := ts.contains t
theorem mem_nil (t : Nat) : mem t [] = false := rfl
theorem mem_cons (t x : Nat) (ts : List Nat) : mem t (x :: ts) = @selB Bool (t == x) ⟨true⟩ ⟨mem t ts⟩ := by
 simp only [mem, List.contains_cons]
 cases t == x <;> rfl
theorem kpL_nil {α : Type} (ts : List Nat) : kpL ts ([] : List (Nat × α)) = [] := rfl
theorem kpL_cons {α : Type} (ts : List Nat) (t : Nat) (v : α) (l : List (Nat × α)) : kpL ts ((t, v) :: l) = @selB _ (mem t ts) ⟨(t, v) :: kpL ts l⟩ ⟨kpL ts l⟩ := by
 unfold kpL mem
 rw [List.filter_cons]
 simp only
 cases ts.contains t <;> rfl
def drL (ts : List Nat) (l : List (Nat × V)) : List (Nat × V) := l.filter fun p => !ts.contains p.1
theorem drL_nil (ts : List Nat) : drL ts [] = [] := rfl
theorem drL_cons (ts : List Nat) (t : Nat) (v : V) (l : List (Nat × V)) : drL ts ((t, v) :: l) = @selB _ (mem t ts) ⟨drL ts l⟩ ⟨(t, v) :: drL ts l⟩ := by
 unfold drL mem
 rw [List.filter_cons]
 simp only
 cases ts.contains t <;> rfl
theorem drop_mk (l : List (Nat × V)) (h : List (Nat × Blk)) (ts : List Nat) : St.drop ⟨l, h⟩ ts = ⟨drL ts l, h⟩ := rfl
theorem drop_nil (σ : St) : St.drop σ [] = σ := by obtain ⟨l, h⟩ := σ; simp [St.drop]
theorem keep_mk (l : List (Nat × V)) (h : List (Nat × Blk)) (ts bs : List Nat) : St.keep ⟨l, h⟩ ts bs = ⟨kpL ts l, kpL bs h⟩ := rfl
theorem closed_mk (l : List (Nat × V)) (h : List (Nat × Blk)) (bs : List Nat) : St.closed ⟨l, h⟩ bs = ((l.all fun p => V.refsIn bs p.2) && h.all fun p => Blk.refsIn bs p.2) := rfl
theorem opd_tmp (e : Env) (t : Nat) : opd e (.tmp t) = e t := rfl
theorem opd_const (e : Env) (v : Value) : opd e (.const v) = ofC v := rfl
theorem opd_func (e : Env) (f : FuncId) : opd e (.func f) = .fn f [] := rfl
theorem ofC_int (k : IntKind) (n : Int) : ofC (.int k n) = .int k n := rfl
theorem ofC_bool (b : Bool) : ofC (.bool b) = .bool b := rfl
theorem ofC_str (s : ByteArray) : ofC (.string s) = .str s := rfl
theorem ofC_nil : ofC (.slice none 0 0) = .zero := rfl
theorem dstOk_some (n t : Nat) : dstOk n (some t) = (t < n) := rfl
theorem dstOk_none (n : Nat) : dstOk n none = True := rfl
theorem freezeL_nil (σ : St) : freezeL [] σ = some σ := rfl
theorem guardT_eq (ops : List Oper) (j : Nat) : guardT ops j = (ops[j]?).bind (·.dst) := rfl
theorem post_ret (X : Ctx) (rs : List ResultVar) (r : V) (bs : List Blk) (σ : St) : post X rs r bs .ret σ = (retV X σ rs = some (r, bs)) := rfl
theorem post_normal (X : Ctx) (rs : List ResultVar) (r : V) (bs : List Blk) (σ : St) : post X rs r bs .normal σ = (retV X σ rs = some (r, bs)) := rfl
section
variable (k : IntKind) (a b : Int)
theorem bin_add : binV .add (.int k a) (.int k b) = some (.int k (k.wrap (a + b))) := by unfold binV; simp
theorem bin_sub : binV .sub (.int k a) (.int k b) = some (.int k (k.wrap (a - b))) := by unfold binV; simp
theorem bin_mul : binV .mul (.int k a) (.int k b) = some (.int k (k.wrap (a * b))) := by unfold binV; simp
theorem bin_quo : binV .quo (.int k a) (.int k b) = if b = 0 then none else some (.int k (k.wrap (a.tdiv b))) := by unfold binV; simp
theorem bin_rem : binV .rem (.int k a) (.int k b) = if b = 0 then none else some (.int k (a.tmod b)) := by unfold binV; simp
theorem bin_eql : binV .eql (.int k a) (.int k b) = some (.bool (decide (a = b))) := by
 unfold binV; simp; exact Bool.beq_eq_decide_eq a b
theorem bin_neq : binV .neq (.int k a) (.int k b) = some (.bool (!decide (a = b))) := by
 unfold binV; simp [bne]; exact Bool.beq_eq_decide_eq a b
theorem bin_lss : binV .lss (.int k a) (.int k b) = some (.bool (decide (a < b))) := by unfold binV; simp
theorem bin_leq : binV .leq (.int k a) (.int k b) = some (.bool (decide (a ≤ b))) := by unfold binV; simp
theorem bin_gtr : binV .gtr (.int k a) (.int k b) = some (.bool (decide (b < a))) := by unfold binV; simp
theorem bin_geq : binV .geq (.int k a) (.int k b) = some (.bool (decide (b ≤ a))) := by unfold binV; simp
theorem un_neg : unV .neg (.int k a) = some (.int k (k.wrap (0 - a))) := rfl
theorem un_not (t : Bool) : unV .not (.bool t) = some (.bool (!t)) := rfl
end
theorem idx_nat (len k : Nat) (h : k < len) : idx len (k : Int) = some k := by simp [idx]; omega
theorem wrap_of {x : Int} (h : -9223372036854775808 ≤ x ∧ x ≤ 9223372036854775807) : IntKind.i64.wrap x = x := by rw [IntKind.wrap_i64]; omega
theorem phi_nil (f : FuncId) (args : List V) : phi [] f args = none := rfl
theorem phi_cons (f' : FuncId) (F : List V → Option (V × List Blk)) (l : Phi) (f : FuncId) (args : List V) : phi ((f', F) :: l) f args = @selB _ (f == f') ⟨F args⟩ ⟨phi l f args⟩ := by
 simp only [phi]
 by_cases h : f = f'
 ·subst h; rw [if_pos rfl, beq_self_eq_true]; rfl
 ·rw [if_neg h, beq_eq_false_iff_ne.2 h]; rfl
theorem bin_eql_bool (p q : Bool) : binV .eql (.bool p) (.bool q) = none := rfl
theorem bin_neq_bool (p q : Bool) : binV .neq (.bool p) (.bool q) = none := rfl
theorem bin_eql_agg (p q : List V) : binV .eql (.agg p) (.agg q) = none := rfl
theorem bin_neq_agg (p q : List V) : binV .neq (.agg p) (.agg q) = none := rfl
theorem eqK_int (k k1 : IntKind) (a b : Int) : eqK (.int k) (.int k1 a) (.int k1 b) = some (decide (a = b)) := by simp [eqK]
theorem eqK_bool' (a b : Bool) : eqK .bool (.bool a) (.bool b) = some (a == b) := rfl
theorem eqK_str (a b : ByteArray) : eqK .str (.str a) (.str b) = some (a.toList == b.toList) := rfl
theorem gOf_bool (b : Bool) : gOf (.bool b) = some (some b) := rfl
theorem gOf_skip : gOf (.raw Go.undef) = some none := rfl
theorem g_some (b want : Bool) : ((some b : Option Bool) == some want) = (b == want) := rfl
theorem g_none (want : Bool) : ((none : Option Bool) == some want) = false := rfl
theorem orE_some (b : Bool) (c : Option Bool) : orE (some b) c = some b := rfl
theorem orE_none (c : Option Bool) : orE none c = c := rfl
theorem ifcQ_nil (X : Ctx) (T : TypeId) (v : V) : ifcQ X T v (.const .nilIface) = match X.T T with
  | some ⟨.iface, _, _, _⟩ => (match v with
   | .raw .nilIface => some true
   | .ifc _ _ => some false
   | _ => none)
  | _ => none := rfl
theorem ofC_nilI : ofC .nilIface = .raw .nilIface := rfl
theorem bin_eql_raw (v : Value) (y : V) : binV .eql (.raw v) y = none := by cases y <;> rfl
theorem bin_neq_raw (v : Value) (y : V) : binV .neq (.raw v) y = none := by cases y <;> rfl
theorem bin_eql_ifc (t : TypeId) (v y : V) : binV .eql (.ifc t v) y = none := by cases y <;> rfl
theorem bin_neq_ifc (t : TypeId) (v y : V) : binV .neq (.ifc t v) y = none := by cases y <;> rfl
theorem app_lend (l : List (Nat × V)) (h : List (Nat × Blk)) (dst : Option Nat) (v : V) (b : Nat) (k : Blk) : St.app ⟨l, h⟩ (.lend b k) dst v = ⟨putE dst v (mapA (V.scrub b (.vec b)) l), setH b k (mapA (Blk.scrub b (.vec b)) h)⟩ := rfl
theorem callW_fn (X : Ctx) (hp : Hp) (d : Nat) (g : FuncId) (cs args : List V) : callW X hp d (.fn g cs) args = match X.M g with
  | some M => mutV M hp d (X.lnd d) (args ++ cs)
  | none => match X.S g with
   | some S => sortV S hp (args ++ cs)
   | none => match X.Λ g with | some (true, L) => takeV L hp args cs | some (false, L) => lendV L hp args cs | none => callV X hp d (.fn g cs) args := rfl
theorem app_writes (l : List (Nat × V)) (h : List (Nat × Blk)) (dst : Option Nat) (v : V) (m : List (Nat × Blk)) : St.app ⟨l, h⟩ (.writes m) dst v = ⟨putE dst v l, setHL m h⟩ := rfl
theorem postM_ret (X : Ctx) (ms : List Nat) (rs : List ResultVar) (r : V) (ks' : List Blk) (σ : St) : postM X ms rs r ks' .ret σ = (resM X ms σ rs r ∧ hasN ms σ ms ks') := rfl
theorem postM_normal (X : Ctx) (ms : List Nat) (rs : List ResultVar) (r : V) (ks' : List Blk) (σ : St) : postM X ms rs r ks' .normal σ = (resM X ms σ rs r ∧ hasN ms σ ms ks') := rfl
theorem names_nil (n : Nat) : names n [] = [] := rfl
theorem names_cons (n : Nat) (k : Blk) (l : List Blk) : names n (k :: l) = (n, k) :: names (n + 1) l := by
 unfold names
 rw [List.zipIdx_cons, List.map_cons, Nat.zero_add]
 refine congrArg (_ :: ·) ?_
 have key : ∀ (l : List Blk) (i m : Nat), ((l.zipIdx (i + 1)).map fun (k, j) => (m + j, k)) = (l.zipIdx i).map fun (k, j) => (m + 1 + j, k) := by
  intro l
  induction l with
  | nil => intro i m; rfl
  | cons x l ih =>
   intro i m
   rw [List.zipIdx_cons, List.zipIdx_cons, List.map_cons, List.map_cons, ih (i + 1) m]
   refine congrArg (· :: _) ?_
   show (m + (i + 1), x) = (m + 1 + i, x)
   rw [show m + (i + 1) = m + 1 + i by omega]
 exact key l 0 n
theorem ms0_mt : ms0.mt = [] := rfl
theorem ms0_st : ms0.st = [] := rfl
theorem setHL_nil {α : Type} (h : List (Nat × α)) : setHL [] h = h := rfl
theorem setHL_cons {α : Type} (b : Nat) (k : α) (l h : List (Nat × α)) : setHL ((b, k) :: l) h = setH b k (setHL l h) := rfl
theorem hasN_nil (ms : List Nat) (σ : St) : hasN ms σ [] [] = True := rfl
theorem hasN_cons (ms : List Nat) (σ : St) (b : Nat) (bs : List Nat) (k : Blk) (l : List Blk) : hasN ms σ (b :: bs) (k :: l) = ((match look b σ.hp with
  | some x => Blk.mv ms x = some k
  | none => False) ∧ hasN ms σ bs l) := rfl
theorem postL_ret (T : TypeId) (sz : Nat) (es' : List V) (σ : St) : postL T sz es' .ret σ = (look 1000000 σ.hp = some (.vec T sz es')) := rfl
theorem postL_normal (T : TypeId) (sz : Nat) (es' : List V) (σ : St) : postL T sz es' .normal σ = (look 1000000 σ.hp = some (.vec T sz es')) := rfl
/-! ### A statement's arguments, as data -/
def aggT (P : Program) (t : TypeId) : Bool := match P.underlying t with
 | some (.struct _) => true
 | _ => false
def lay (P : Program) (total : Nat) : Nat → List Field → Bool
 | o, [] => o == total
 | o, f :: fs => f.offset == o && lay P total (o + P.cellsOf f.type) fs
def gdB (P : Program) : Nat → TypeId → Bool
 | 0, _ => false
 | n + 1, t => match P.underlying t with
  | some .bool => P.cellsOf t == 1
  | some (.int _) => P.cellsOf t == 1
  | some .string => P.cellsOf t == 1
  | some (.slice e) => P.cellsOf t == 1 && gdB P n e && decide (0 < P.cellsOf e) && (aggT P e || P.cellsOf e == 1)
  | some (.struct fs) => lay P (P.cellsOf t) 0 fs.toList && fs.all fun f => gdB P n f.type
  | _ => false
def TyC (P : Program) : Nat → TypeId → List V → Prop
 | 0, _, _ => False
 | n + 1, t, cs => match P.underlying t with
  | some .bool => ∃ b, cs = [.bool b]
  | some (.int k) => ∃ m, cs = [.int k m] ∧ (Lit.int k m).wf = true
  | some .string => ∃ s, cs = [.str s] ∧ s.size ≤ maxLen
  | some (.slice e) => ∃ es, cs = [.row (P.cellsOf e) es] ∧ es.length ≤ maxLen ∧ ∀ x ∈ es, (if aggT P e = true then ∃ ds, x = .agg ds ∧ TyC P n e ds else TyC P n e [x])
  | some (.struct fs) => cs.length = P.cellsOf t ∧ ∀ f ∈ fs, TyC P n f.type ((cs.drop f.offset).take (P.cellsOf f.type))
  | _ => False
section
variable {H : Type} {enc : TypeId × Value → H} {P : Program} {w : World} {base : Nat} {held : Bool}
def Reads (w : World) (cs : List V) (vals : List Value) : Prop :=
 cs.length = vals.length ∧ (∀ v ∈ vals, v.oneCell' = true) ∧ ∀ (j : Nat) c v, cs[j]? = some c → vals[j]? = some v → RelD w (fun g => g < w.heap.size) c v
theorem Reads.one {c : V} {v : Value} (h1 : v.oneCell' = true) (h : RelD w (fun g => g < w.heap.size) c v) : Reads w [c] [v] :=
 ⟨rfl, by simpa using h1, fun j c' v' hc hv => by
  cases j with
  | zero => simp at hc hv; subst hc; subst hv; exact h
  | succ j => simp at hc⟩
theorem Reads.append {cs ds : List V} {vs us : List Value} (h : Reads w cs vs) (h' : Reads w ds us) : Reads w (cs ++ ds) (vs ++ us) := by
 refine ⟨by simp [h.1, h'.1], fun v hv => ?_, fun j c v hc hv => ?_⟩
 ·rcases List.mem_append.1 hv with hv | hv
  ·exact h.2.1 v hv
  ·exact h'.2.1 v hv
 ·by_cases hj : j < cs.length
  ·rw [List.getElem?_append_left hj] at hc
   rw [List.getElem?_append_left (by have := h.1; omega)] at hv
   exact h.2.2 j c v hc hv
  ·rw [List.getElem?_append_right (by omega)] at hc
   rw [List.getElem?_append_right (by have := h.1; omega), ← h.1] at hv
   exact h'.2.2 _ c v hc hv
theorem fields_read {n : Nat} {total : Nat} {vals : List Value} (hl : vals.length = total) : ∀ (fs : List Field) (o : Nat), lay P total o fs = true → o ≤ total →
  (∀ f ∈ fs, ∃ p, Reads w p ((vals.drop f.offset).take (P.cellsOf f.type)) ∧ TyC P n f.type p ∧ p.length = P.cellsOf f.type) →
  ∃ cs, Reads w cs (vals.drop o) ∧ ∀ f ∈ fs, o ≤ f.offset ∧ TyC P n f.type ((cs.drop (f.offset - o)).take (P.cellsOf f.type))
 | [], o, h, ho, _ => by
  simp only [lay, beq_iff_eq] at h
  subst h
  exact ⟨[], ⟨by simp [hl], by simp [← hl], by simp⟩, by simp⟩
 | f :: fs, o, h, ho, hf => by
  simp only [lay, Bool.and_eq_true, beq_iff_eq] at h
  obtain ⟨h0, h1⟩ := h
  obtain ⟨p, hp, ht, hpl⟩ := hf f (by simp)
  rw [h0] at hp
  have hps := hp.1
  rw [hpl, List.length_take, List.length_drop, hl] at hps
  have hle : o + P.cellsOf f.type ≤ total := by omega
  obtain ⟨cs, hcs, hts⟩ := fields_read hl fs _ h1 hle fun f' hf' => hf f' (List.mem_cons_of_mem _ hf')
  refine ⟨p ++ cs, ?_, ?_⟩
  ·have := hp.append hcs
   rwa [← List.drop_drop, List.take_append_drop] at this
  ·intro f' hf'
   rcases List.mem_cons.1 hf' with rfl | hf'
   ·refine ⟨by omega, ?_⟩
    rw [h0, Nat.sub_self, List.drop_zero, ← hpl, List.take_left]
    exact ht
   ·obtain ⟨h2, h3⟩ := hts f' hf'
    refine ⟨by omega, ?_⟩
    rw [List.drop_append, List.drop_eq_nil_of_le (by omega), List.nil_append, hpl, show f'.offset - o - P.cellsOf f.type = f'.offset - (o + P.cellsOf f.type) by omega]
    exact h3
theorem trod_len {m : Nat} {t : TypeId} {vals : List Value} {fuel : Nat} {x : DataW H × List MemPlace} (hg : gdB P m t = true) (h : DataW.trod enc P w base (fun _ => true) held fuel t vals = some x) : vals.length = P.cellsOf t := by
 cases m with
 | zero => cases hg
 | succ m =>
  unfold gdB at hg
  cases hu : P.underlying t with
  | none => rw [hu] at hg; cases hg
  | some d =>
   rw [hu] at hg
   cases d <;> simp only [Bool.false_eq_true, Bool.and_eq_true, beq_iff_eq] at hg
   case bool => obtain ⟨b, rfl, _⟩ := DataW.trod_bool hu h; exact hg.symm
   case int k => obtain ⟨n, rfl, _, hw⟩ := DataW.trod_int hu h; exact hg.symm
   case string => obtain ⟨s, rfl, _, hs⟩ := DataW.trod_string hu h; exact hg.symm
   case struct fs => obtain ⟨xs, n, _, _, hl, _⟩ := DataW.trod_struct hu h; exact hl
   case slice e =>
    rcases DataW.trod_slice hu h with ⟨rfl, _⟩ | ⟨a, len, cap, elems, rest, n, _, rfl, _⟩ <;> exact hg.1.1.1.symm
theorem trod_read : ∀ (m : Nat) (t : TypeId) (vals : List Value) (fuel : Nat) (x : DataW H × List MemPlace), gdB P m t = true → DataW.trod enc P w base (fun _ => true) held fuel t vals = some x →
  ∃ cs, Reads w cs vals ∧ TyC P m t cs
 | 0, _, _, _, _, hg, _ => by cases hg
 | m + 1, t, vals, fuel, x, hg, h => by
  unfold gdB at hg
  unfold TyC
  cases hu : P.underlying t with
  | none => rw [hu] at hg; cases hg
  | some d =>
   rw [hu] at hg
   cases d <;> simp only [Bool.false_eq_true] at hg ⊢
   case bool =>
    obtain ⟨b, rfl, _⟩ := DataW.trod_bool hu h
    exact ⟨_, Reads.one rfl (.bool b), b, rfl⟩
   case int k =>
    obtain ⟨n, rfl, _, hw⟩ := DataW.trod_int hu h
    exact ⟨_, Reads.one rfl (.int k n), n, rfl, hw⟩
   case string =>
    obtain ⟨s, rfl, _, hs⟩ := DataW.trod_string hu h
    exact ⟨_, Reads.one rfl (.str s), s, rfl, hs⟩
   case struct fs =>
    simp only [Bool.and_eq_true] at hg
    obtain ⟨xs, n, _, _, hl, hxl, hf⟩ := DataW.trod_struct hu h
    obtain ⟨cs, hr, ht⟩ := fields_read (n := m) hl fs.toList 0 hg.1 (Nat.zero_le _) fun f hfm => by
     obtain ⟨i, hi⟩ := Array.getElem?_of_mem (by simpa using hfm : f ∈ fs)
     have hti := hf i f hi
     have hlt : i < xs.length := by rw [hxl]; exact (Array.getElem?_eq_some_iff.1 hi).1
     rw [List.getElem?_eq_getElem hlt] at hti
     obtain ⟨p, hp, htp⟩ := trod_read m f.type _ n _ (Array.all_eq_true_iff_forall_mem.1 hg.2 f (by simpa using hfm)) hti
     refine ⟨p, hp, htp, ?_⟩
     rw [hp.1]
     exact trod_len (Array.all_eq_true_iff_forall_mem.1 hg.2 f (by simpa using hfm)) hti
    refine ⟨cs, by simpa using hr, by rw [hr.1]; simpa using hl, fun f hfm => ?_⟩
    have := (ht f (by simpa using hfm)).2
    simpa using this
   case slice e =>
    simp only [Bool.and_eq_true, decide_eq_true_eq] at hg
    obtain ⟨⟨⟨_, hge⟩, hpos⟩, hone⟩ := hg
    rcases DataW.trod_slice hu h with ⟨rfl, _⟩ | ⟨a, len, cap, elems, rest, n, _, rfl, _, hb, hl, hm, hlen, hel, hsp, _⟩
    ·exact ⟨_, Reads.one rfl (.nil _ none), [], rfl, Nat.zero_le _, by simp⟩
    ·by_cases hc : cap = 0
     ·have h0 : len = 0 := by omega
      rw [hc, h0]
      exact ⟨_, Reads.one rfl (.nil _ _), [], rfl, Nat.zero_le _, by simp⟩
     ·have spot : a.spot = none ∧ a.block < w.heap.size := by
       have fin : ∀ (z : List Value), w.cells? base (a.add (0 * P.cellsOf e)) (P.cellsOf e) = some z → a.spot = none ∧ a.block < w.heap.size := fun z hz => by
        obtain ⟨_, hzl, hzc⟩ := World.cells?_some hz
        have h1 := hzc 0 hpos
        rw [List.getElem?_eq_getElem (by omega)] at h1
        have h2 := World.cell?_spot h1
        have h3 := block_lt_of_cell h1
        rw [Nat.zero_mul] at h2 h3
        exact ⟨by simpa [Addr.add] using h2, by simpa [Addr.add] using h3⟩
       by_cases hl0 : len = 0
       ·obtain ⟨hrl, hr⟩ := hsp rfl
        have := hr 0 (by omega)
        rw [hl0, Nat.zero_add, List.getElem?_eq_getElem (by omega), Option.bind_eq_some_iff] at this
        obtain ⟨z, hz, _⟩ := this
        exact fin z hz
       ·have := hel 0 (by omega)
        rw [List.getElem?_eq_getElem (by omega), Option.bind_eq_some_iff] at this
        obtain ⟨z, hz, _⟩ := this
        exact fin z hz
      -- element by element
      have each : ∀ i, i < len → ∃ (ev : V) (val : Value), val.cells.size = P.cellsOf e ∧ (∀ u ∈ val.cells.toList, u.oneCell' = true) ∧ w.rangeAt a.block (a.off + i * P.cellsOf e) val.cells.toList ∧
        RelD w (fun g => g < w.heap.size) ev val ∧ (if aggT P e = true then ∃ ds, ev = .agg ds ∧ TyC P m e ds else TyC P m e [ev]) := fun i hi => by
       have := hel i hi
       rw [List.getElem?_eq_getElem (by omega), Option.bind_eq_some_iff] at this
       obtain ⟨z, hz, hzt⟩ := this
       obtain ⟨ds, hr, htc⟩ := trod_read m e z n _ hge hzt
       obtain ⟨_, hzl, hzc⟩ := World.cells?_some hz
       have hra : w.rangeAt a.block (a.off + i * P.cellsOf e) z := fun j u hj => by
        have hjl := (List.getElem?_eq_some_iff.1 hj).1
        have := hzc j (by omega)
        rw [hj] at this
        obtain ⟨ab, ao, as⟩ := a
        obtain ⟨rfl, _⟩ := spot
        rw [Go.WideShapes.add_plain, Go.WideShapes.add_plain] at this
        exact this
       by_cases hag : aggT P e = true
       ·refine ⟨.agg ds, .agg z.toArray, by simpa [Value.cells] using hzl, by simpa [Value.cells] using hr.2.1, by simpa [Value.cells] using hra, .agg ds z hr.1 hr.2.1 hr.2.2, ?_⟩
        rw [if_pos hag]
        exact ⟨ds, rfl, htc⟩
       ·have h1 : P.cellsOf e = 1 := by
         rcases Bool.or_eq_true _ _ ▸ hone with h | h
         ·exact absurd h hag
         ·simpa using h
        match z, ds, hr with
        | [u], [c], hr =>
         have hu1 := hr.2.1 u (by simp)
         refine ⟨c, u, by rw [cells_one hu1, h1]; rfl, by rw [cells_one hu1]; simpa using hu1, by rw [cells_one hu1]; exact hra, hr.2.2 0 c u rfl rfl, ?_⟩
         rw [if_neg hag]
         exact htc
        | [], _, _ => simp at hzl; omega
        | _ :: _ :: _, _, _ => simp at hzl; omega
        | [u], [], hr => have := hr.1; simp at this
        | [u], _ :: _ :: _, hr => have := hr.1; simp at this
      have hex : ∀ k, k ≤ len → ∃ (es : List V) (vs : List Value), es.length = k ∧ vs.length = k ∧ (∀ v ∈ vs, v.cells.size = P.cellsOf e) ∧ (∀ v ∈ vs, ∀ u ∈ v.cells.toList, u.oneCell' = true) ∧
        (∀ (i : Nat) v, vs[i]? = some v → w.rangeAt a.block (a.off + i * P.cellsOf e) v.cells.toList) ∧ (∀ (i : Nat) ev v, es[i]? = some ev → vs[i]? = some v → RelD w (fun g => g < w.heap.size) ev v) ∧
        (∀ x ∈ es, if aggT P e = true then ∃ ds, x = .agg ds ∧ TyC P m e ds else TyC P m e [x]) := by
       intro k
       induction k with
       | zero => intro _; exact ⟨[], [], rfl, rfl, by simp, by simp, by simp, by simp, by simp⟩
       | succ k ih =>
        intro hk
        obtain ⟨es, vs, h1, h2, h3, h4, h5, h6, h7⟩ := ih (by omega)
        obtain ⟨ev, val, g1, g2, g3, g4, g5⟩ := each k (by omega)
        refine ⟨es ++ [ev], vs ++ [val], by simp [h1], by simp [h2], ?_, ?_, ?_, ?_, ?_⟩
        ·intro v hv
         rcases List.mem_append.1 hv with hv | hv
         ·exact h3 v hv
         ·simp at hv; subst hv; exact g1
        ·intro v hv
         rcases List.mem_append.1 hv with hv | hv
         ·exact h4 v hv
         ·simp at hv; subst hv; exact g2
        ·intro i v hv
         by_cases hi : i < vs.length
         ·rw [List.getElem?_append_left hi] at hv; exact h5 i v hv
         ·rw [List.getElem?_append_right (by omega)] at hv
          have : i - vs.length = 0 := by
           have := (List.getElem?_eq_some_iff.1 hv).1; simp at this; omega
          rw [this] at hv
          simp at hv
          subst hv
          rw [show i = k by omega]
          exact g3
        ·intro i ev' v he hv
         by_cases hi : i < vs.length
         ·rw [List.getElem?_append_left hi] at hv
          rw [List.getElem?_append_left (by omega)] at he
          exact h6 i ev' v he hv
         ·rw [List.getElem?_append_right (by omega)] at hv he
          have h0 : i - vs.length = 0 := by
           have := (List.getElem?_eq_some_iff.1 hv).1; simp at this; omega
          rw [h0] at hv
          rw [show i - es.length = 0 by omega] at he
          simp at hv he
          subst hv; subst he
          exact g4
        ·intro x hx
         rcases List.mem_append.1 hx with hx | hx
         ·exact h7 x hx
         ·simp at hx; subst hx; exact g5
      obtain ⟨es, vs, h1, h2, h3, h4, h5, h6, h7⟩ := hex len (Nat.le_refl _)
      refine ⟨_, Reads.one rfl ?_, es, rfl, by omega, h7⟩
      have := RelD.row (w := w) (ok := fun g => g < w.heap.size) (P.cellsOf e) es a.block a.off cap vs spot.2 (by omega) hm (by omega) h3 h4 h5 h6
      rw [h1] at this
      obtain ⟨ab, ao, as⟩ := a
      obtain ⟨rfl, _⟩ := spot
      exact this
def TyV (P : Program) (m : Nat) (t : TypeId) (c : V) : Prop := if aggT P t = true then ∃ ds, c = .agg ds ∧ TyC P m t ds else TyC P m t [c]
theorem arg_read {base' m : Nat} {t : TypeId} {v : Value} {d : DataW H} {p : List MemPlace} (hg : gdB P m t = true) (hok : Value.okWide P w .any base' t v) (h : DataW.Trod enc P w base (fun _ => true) held t v d p) :
  ∃ c, RelD w (fun g => g < w.heap.size) c v ∧ TyV P m t c := by
 obtain ⟨fuel, h⟩ := h
 obtain ⟨cs, hr, ht⟩ := trod_read m t _ fuel _ hg h
 unfold TyV
 cases m with
 | zero => cases hg
 | succ m =>
  unfold gdB at hg
  unfold Value.okWide at hok
  cases hu : P.underlying t with
  | none => rw [hu] at hg; cases hg
  | some D =>
   rw [hu] at hg hok
   by_cases hag : aggT P t = true
   ·simp only [hag, if_true]
    cases D <;> first | (simp [aggT, hu] at hag; done) | skip
    obtain ⟨zs, rfl, _⟩ := hok
    obtain ⟨zs⟩ := zs
    exact ⟨.agg cs, .agg cs zs (by simpa [Value.cells] using hr.1) (by simpa [Value.cells] using hr.2.1) (by simpa [Value.cells] using hr.2.2), cs, rfl, ht⟩
   ·simp only [hag, Bool.false_eq_true, if_false]
    have hone : v.cells = #[v] := by
     cases v <;> first | rfl | skip
     exfalso
     cases D <;> first | (simp [aggT, hu] at hag; done) | (cases hg; done) | (simp [Cell.okWide, hu, Cell.ok] at hok; done)
    rw [hone] at hr
    match cs, hr with
    | [c], hr => exact ⟨c, hr.2.2 0 c v rfl rfl, ht⟩
    | [], hr => have := hr.1; simp at this
    | _ :: _ :: _, hr => have := hr.1; simp at this
end
section
variable {P : Program}
theorem ty_one {m : Nat} {t : TypeId} {c : V} {d : TypeDesc} (h : TyV P m t c) (hu : P.underlying t = some d) (hd : ∀ fs, d ≠ .struct fs) : TyC P m t [c] := by
 unfold TyV at h
 have : aggT P t = false := by unfold aggT; rw [hu]; cases d <;> first | rfl | exact absurd rfl (hd _)
 rw [this] at h
 simpa using h
theorem ty_int {m : Nat} {t : TypeId} {c : V} {k : IntKind} (h : TyV P (m + 1) t c) (hu : P.underlying t = some (.int k)) : ∃ n, c = .int k n ∧ (Lit.int k n).wf = true := by
 have h := ty_one h hu (fun _ => by simp)
 unfold TyC at h
 rw [hu] at h
 obtain ⟨n, h1, h2⟩ := h
 exact ⟨n, by simpa using h1, h2⟩
theorem rels_nil {w : World} {ok : Nat → Prop} : ∀ (j : Nat) (c : V) (v : Value), ([] : List V)[j]? = some c → ([] : List Value)[j]? = some v → RelD w ok c v := fun j c v h => by simp at h
theorem rels_cons {w : World} {ok : Nat → Prop} {c0 : V} {v0 : Value} {cs : List V} {vs : List Value} (h : RelD w ok c0 v0) (hs : ∀ (j : Nat) c v, cs[j]? = some c → vs[j]? = some v → RelD w ok c v) :
  ∀ (j : Nat) c v, (c0 :: cs)[j]? = some c → (v0 :: vs)[j]? = some v → RelD w ok c v
 | 0, c, v, hc, hv => by simp at hc hv; subst hc; subst hv; exact h
 | j + 1, c, v, hc, hv => hs j c v (by simpa using hc) (by simpa using hv)
end
end Go.Ev
