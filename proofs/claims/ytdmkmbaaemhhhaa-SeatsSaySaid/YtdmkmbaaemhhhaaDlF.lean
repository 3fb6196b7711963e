/-
  Seats dealt out by votes, as the document does it, run by the machine: what may be, all that may be had, sorted and counted.
-/
import Derived.Test.YtdmkmbaaemhhhaaDlE
import Derived.Test.YtdmkmbaaemhhhaaStD
namespace Go.Dl
open Go.Srt
/-- the claims of those ahead -/
def pfx (l : List Int) (n i : Nat) : List Pr := (List.range i).flatMap fun i => if 0 < vt l i then (List.range n).map (fun s => (i, s)) else []
theorem pfx_all (l : List Int) (n : Nat) : pfx l n l.length = allP l n := rfl
theorem pfx_succ (l : List Int) (n i : Nat) : pfx l n (i + 1) = pfx l n i ++ (if 0 < vt l i then (List.range n).map (fun s => (i, s)) else []) := by
  unfold pfx
  rw [List.range_succ, List.flatMap_append, List.flatMap_cons, List.flatMap_nil, List.append_nil]
def row1 (i s : Nat) : List Pr := (List.range s).map fun s => (i, s)
theorem row1_succ (i s : Nat) : row1 i (s + 1) = row1 i s ++ [(i, s)] := by unfold row1; rw [List.range_succ, List.map_append]; rfl
def clsI (way : Int) (l : List Int) (n i s : Nat) : List Cl := (pfx l n i ++ row1 i s).map (cl way l)
theorem clsI_zero (way : Int) (l : List Int) (n i : Nat) : clsI way l n i 0 = (pfx l n i).map (cl way l) := by unfold clsI row1; simp
theorem clsI_succ (way : Int) (l : List Int) (n i s : Nat) : clsI way l n i (s + 1) = clsI way l n i s ++ [cl way l (i, s)] := by
  unfold clsI
  rw [row1_succ, ← List.append_assoc, List.map_append]
  rfl
theorem clsI_next (way : Int) (l : List Int) (n i : Nat) (h : 0 < vt l i) : clsI way l n (i + 1) 0 = clsI way l n i n := by
  rw [clsI_zero, pfx_succ, if_pos h]
  rfl
theorem clsI_skip (way : Int) (l : List Int) (n i : Nat) (h : ¬ 0 < vt l i) : clsI way l n (i + 1) 0 = clsI way l n i 0 := by
  rw [clsI_zero, clsI_zero, pfx_succ, if_neg h, List.append_nil]
theorem clsI_end (way : Int) (l : List Int) (n : Nat) : clsI way l n l.length 0 = (allP l n).map (cl way l) := by rw [clsI_zero, pfx_all]
theorem clsI_len (way : Int) (l : List Int) (n s : Nat) : ∀ i, (clsI way l n i s).length ≤ i * n + s := by
  intro i
  have key : (pfx l n i).length ≤ i * n := by
    induction i with
    | zero => simp [pfx]
    | succ i ih =>
      rw [pfx_succ, List.length_append, Nat.succ_mul]
      split
      · rw [List.length_map, List.length_range]; omega
      · rw [List.length_nil]; omega
  unfold clsI row1
  rw [List.length_map, List.length_append, List.length_map, List.length_range]
  omega
theorem cnt_take {S : List Cl} {k : Nat} (o : List Int) (h : k < S.length) : cntG (S.take (k + 1)) o = cnt1 (cntG (S.take k) o) S[k] := by
  unfold cntG
  rw [List.take_succ_eq_append_getElem h, List.foldl_append]
  rfl
theorem cnt_len (S : List Cl) : ∀ o, (cntG S o).length = o.length := by
  induction S with
  | nil => intro o; rfl
  | cons c S ih => intro o; show (cntG S (cnt1 o c)).length = _; rw [ih]; unfold cnt1; rw [List.length_set]
theorem cnt_bd (S : List Cl) : ∀ (o : List Int) (m : Int), (∀ i, 0 ≤ vt o i ∧ vt o i ≤ m) → ∀ i, 0 ≤ vt (cntG S o) i ∧ vt (cntG S o) i ≤ m + S.length := by
  induction S with
  | nil => intro o m h i; have := h i; show 0 ≤ vt o i ∧ _; simp only [List.length_nil]; exact ⟨this.1, by show vt o i ≤ _; omega⟩
  | cons c S ih =>
    intro o m h i
    have := ih (cnt1 o c) (m + 1) (fun j => by
      have h1 := h j
      have h2 := h c.2.2.toNat
      unfold cnt1
      by_cases hb : c.2.2.toNat < o.length
      · rw [vt_set hb]
        split <;> omega
      · rw [List.set_eq_of_length_le (by omega)]
        omega) i
    have e : cntG (c :: S) o = cntG S (cnt1 o c) := rfl
    rw [e, List.length_cons]
    omega
theorem mem_srtL {α : Type} [Inhabited α] {lt : α → α → Prop} {l : List α} {a b : Nat} (hb : b ≤ l.length) {x : α} (h : x ∈ srtL lt l a b) : x ∈ l := mem_tab (fun _ hk => (srt_permOn (Lt lt l) a b).lt hb hk) h
theorem lift_cd {C : List Cl} (h : ∀ c ∈ C, (1 ≤ c.1 ∧ c.1 ≤ 1000000) ∧ 0 ≤ c.2.1 ∧ c.2.1 ≤ 3000) : ∃ F : List So.Cd, F.map (·.1) = C := by
  induction C with
  | nil => exact ⟨[], rfl⟩
  | cons c C ih =>
    obtain ⟨F, hF⟩ := ih fun x hx => h x (List.mem_cons_of_mem _ hx)
    exact ⟨⟨c, h c (by simp)⟩ :: F, by rw [List.map_cons, hF]⟩
end Go.Dl
namespace Go.Proofs.Ytdmkmbaaemhhhaa
open Go Go.Ev Go.RowKit Go.Dl Go.Srt Go.So
set_option maxHeartbeats 4000000
set_option linter.unusedSimpArgs false
set_option linter.unusedVariables false

def vo1F : List V → Option (V × List Blk)
  | [.int .i64 u] => some (.bool (vbad u), [])
  | _ => none
theorem vo1_snd {J : World → Prop} (hJ : Stable J) : Snd Try.prog J 23 vo1F := by
  intro args r bs h
  unfold vo1F at h
  split at h
  · rename_i u
    obtain ⟨rfl, rfl⟩ := some_pair h
    refine evFn (l := [(19, withinF)]) (nv := nv0) (fz := fz0) (dr := dr23) (dd := dd23) (lam := []) (ms := ms0) ⟨within_snd hJ, trivial⟩ hJ trivial ms0_ok Try.func23 rfl rfl (Nat.le_of_ble_eq_true rfl) (Nat.le_of_ble_eq_true rfl) drOk23 ?_
    dsimp only [Try.f23, dr23, dd23, Option.getD_some]
    refine ev_start ?_
    by_cases h1 : 0 ≤ u ∧ u ≤ 1000000
    · have e1 : decide (0 ≤ u ∧ u ≤ 1000000) = true := decide_eq_true h1
      have e2 : vbad u = false := by unfold vbad; rw [decide_eq_false_iff_not]; omega
      simp (disch := omega) only [withinF_eq, e1, e2, go_sem, evP_D, evD_guard, evD_cons, evD_zero, evD_nil]
    · have e1 : decide (0 ≤ u ∧ u ≤ 1000000) = false := decide_eq_false h1
      have e2 : vbad u = true := by unfold vbad; rw [decide_eq_true_iff]; omega
      simp (disch := omega) only [withinF_eq, e1, e2, go_sem, evP_D, evD_guard, evD_cons, evD_zero, evD_nil]
  · cases h
def vo2F : List V → Option (V × List Blk)
  | [.int .i64 u] => some (.bool (posV u), [])
  | _ => none
theorem vo2_snd {J : World → Prop} (hJ : Stable J) : Snd Try.prog J 24 vo2F := by
  intro args r bs h
  unfold vo2F at h
  split at h
  · rename_i u
    obtain ⟨rfl, rfl⟩ := some_pair h
    refine evFn (l := []) (nv := nv0) (fz := fz0) (dr := dr24) (dd := dd24) (lam := []) (ms := ms0) trivial hJ trivial ms0_ok Try.func24 rfl rfl (Nat.le_of_ble_eq_true rfl) (Nat.le_of_ble_eq_true rfl) drOk24 ?_
    dsimp only [Try.f24, dr24, dd24, Option.getD_some]
    refine ev_start ?_
    by_cases h1 : 0 < u
    · have e2 : posV u = true := decide_eq_true h1
      simp (disch := omega) only [h1, e2, go_sem, evP_D, evD_guard, evD_cons, evD_zero, evD_nil]
    · have e2 : posV u = false := decide_eq_false h1
      simp (disch := omega) only [h1, e2, go_sem, evP_D, evD_guard, evD_cons, evD_zero, evD_nil]
  · cases h
noncomputable def coF (l : List Int) : List V → Option (V × List Blk) := fun x => open Classical in
  if x = [.row 1 (l.map (V.int .i64)), .fn 23 []] then some (.bool (l.any vbad), [])
  else if x = [.row 1 (l.map (V.int .i64)), .fn 24 []] then some (.bool (l.any posV), []) else none
theorem coF_1 (l : List Int) : coF l [.row 1 (l.map (V.int .i64)), .fn 23 []] = some (.bool (l.any vbad), []) := if_pos rfl
theorem coF_2 (l : List Int) : coF l [.row 1 (l.map (V.int .i64)), .fn 24 []] = some (.bool (l.any posV), []) := by
  unfold coF
  rw [if_neg (by simp), if_pos rfl]
theorem co_snd {J : World → Prop} (hJ : Stable J) (l : List Int) : Snd Try.prog J 22 (coF l) := by
  intro args r bs h
  unfold coF at h
  split at h
  · rename_i ha
    obtain ⟨rfl, rfl⟩ := some_pair h
    rw [ha]
    exact containsI_sound hJ _ [] vo1F (vo1_snd hJ) rfl vbad l fun _ _ => rfl
  · split at h
    · rename_i ha
      obtain ⟨rfl, rfl⟩ := some_pair h
      rw [ha]
      exact containsI_sound hJ _ [] vo2F (vo2_snd hJ) rfl posV l fun _ _ => rfl
    · cases h
theorem rvotes_sound {J : World → Prop} (hJ : Stable J) (n : Int) (l : List Int) : SoundAt Try.prog J 14 [.int .i64 n, .row 1 (l.map (V.int .i64))] (.int .i64 (lkE n l)) [] := by
  refine SoundAt.row 1 rfl (callOk Try.func14 rfl rfl) fun hlen => ?_
  simp only [maxLen, List.length_map] at hlen
  refine evFn (l := [(19, withinF), (22, coF l)]) (nv := nv0) (fz := fz0) (dr := dr14) (dd := dd14) (lam := []) (ms := ms0) ⟨within_snd hJ, co_snd hJ l, trivial⟩ hJ trivial ms0_ok Try.func14 rfl rfl (Nat.le_of_ble_eq_true rfl) (Nat.le_of_ble_eq_true rfl) drOk14 ?_
  dsimp only [Try.f14, dr14, dd14, Option.getD_some]
  refine ev_start ?_
  by_cases h3 : 40 < l.length
  · have h3' : (40 : Int) < l.length := by omega
    have e2 : lkE n l = 2 := by unfold lkE; rw [if_pos h3]
    simp (disch := omega) only [h3', e2, go_sem, evP_D, evD_guard, evD_cons, evD_zero, evD_nil]
  have h3' : ¬ (40 : Int) < l.length := by omega
  have c1 := coF_1 l
  have c2 := coF_2 l
  cases hb : l.any vbad with
  | true =>
    have e2 : lkE n l = 1 := by unfold lkE; rw [if_neg h3, if_pos hb]
    rw [hb] at c1
    simp (disch := omega) only [h3', c1, e2, go_sem, evP_D, evD_guard, evD_cons, evD_zero, evD_nil]
  | false =>
    rw [hb] at c1
    have hb' : ¬ l.any vbad = true := by rw [hb]; simp
    by_cases hw : 0 ≤ n ∧ n ≤ 1000
    case neg =>
      have e1 : decide (0 ≤ n ∧ n ≤ 1000) = false := decide_eq_false hw
      have e2 : lkE n l = 1 := by unfold lkE; rw [if_neg h3, if_neg hb', if_pos (by omega)]
      simp (disch := omega) only [h3', c1, withinF_eq, e1, e2, go_sem, evP_D, evD_guard, evD_cons, evD_zero, evD_nil]
    have e1 : decide (0 ≤ n ∧ n ≤ 1000) = true := decide_eq_true hw
    have hz := vsum_zero (okV_of hb)
    cases hp : l.any posV with
    | true =>
      rw [hp] at c2 hz
      have e2 : lkE n l = 0 := by unfold lkE; rw [if_neg h3, if_neg hb', if_neg (by omega), if_neg (fun h => by have := hz.1 h; cases this)]
      simp (disch := omega) only [h3', c1, c2, withinF_eq, e1, e2, go_sem, evP_D, evD_guard, evD_cons, evD_zero, evD_nil]
    | false =>
      rw [hp] at c2 hz
      have e2 : lkE n l = 6 := by unfold lkE; rw [if_neg h3, if_neg hb', if_neg (by omega), if_pos (hz.2 rfl)]
      simp (disch := omega) only [h3', c1, c2, withinF_eq, e1, e2, go_sem, evP_D, evD_guard, evD_cons, evD_zero, evD_nil]
theorem plainC (C : List Cl) : ((C.map cdV).all fun v => V.plain v && V.data v) = true := by
  rw [List.all_eq_true]
  intro v hv
  obtain ⟨c, _, rfl⟩ := List.mem_map.1 hv
  rfl
def dlSt (env : List (Nat × V)) (bx : V) (C : List Cl) : St := match C with
  | [] => ⟨env, [(56, .box .zero)]⟩
  | c :: r => ⟨env, [(56, .box bx), (360, .vec 62 3 ((c :: r).map cdV))]⟩
/-- nothing to sort -/
theorem stable_nil {J : World → Prop} (c : V) : SoundAt Try.prog J 25 [.ifc 60 .zero, .fn 26 [c]] (.tup []) [] := by
  refine ⟨callOk Try.func25 rfl rfl, fun w ok us hJ hok hlen hrel => ?_⟩
  match us, hlen with
  | [u1, u2], _ =>
    have h1 := hrel 0 _ u1 rfl rfl
    have h2 := hrel 1 _ u2 rfl rfl
    cases h1 with
    | ifc _ _ val h1 =>
      cases h1
      cases h2 with
      | fn _ _ vs hl h2 =>
        have hf : Try.prog.funcs.findIdx? (·.name == "internal/reflectlite" ++ ".Swapper$" ++ toString (Lib.swapperK 0 scE 25)) = some 32 := by kernel_rfl
        refine (Any.sort_SliceStable_tiny Try.laysGt8 60 62 scT scE (by kernel_rfl) (by kernel_rfl) (by kernel_rfl) (by kernel_rfl) 25 (fun _ => by kernel_rfl) none 0 0 (by omega) _ hf (.func 26) #[] vs.toArray w).mono ?_
        rintro e w' ⟨rfl, os, rfl⟩
        exact ⟨.tuple #[], fun _ => none, rfl, below_grow (Nat.le_refl _) os, ⟨by rw [Sort.size_grow]; omega, fun b k hk => (by simp at hk), fun b sv hr => (by cases hr), fun b b' sv sv' g h1 => (by cases h1)⟩, .ro (.tup [] [] rfl fun j c v hc => by simp at hc)⟩
set_option maxHeartbeats 8000000 in
set_option maxRecDepth 8000 in
theorem rdeal_sound {J : World → Prop} (hJ : Stable J) (way : Int) (n : Nat) (l : List Int) (he : lkE n l = 0) (w0 : 0 ≤ way) (w1 : way ≤ 2) :
    SoundAt Try.prog J 15 [.int .i64 way, .int .i64 n, .row 1 (l.map (V.int .i64))] (.vec 0) [.vec 3 1 ((dealG way l n).map (V.int .i64))] := by
  obtain ⟨h1, h2, h3, h4, h5, hex⟩ := lk_0 he
  have ho := okV_all h2
  have f1 : (0 : Int) ≤ l.length := by omega
  have f2 : (l.length : Int) * 8 ≤ 140737488355328 := by omega
  have f3 : (l.length : Int) ≤ 9223372036854775807 := by omega
  have hAl := allP_len (n := n) hex
  have hAm := allP_max l n
  have hAm2 : (allP l n).length ≤ 40000 := Nat.le_trans hAm (Nat.le_trans (Nat.mul_le_mul h1 (show n ≤ 1000 by omega)) (by omega))
  have hlaw := deal_law (way := way) (l := l) (n := n) (fun i => (ho i).1) hex hAl
  have hbd : ∀ c ∈ (allP l n).map (cl way l), (1 ≤ c.1 ∧ c.1 ≤ 1000000) ∧ 0 ≤ c.2.1 ∧ c.2.1 ≤ 3000 := fun c hc => by
    obtain ⟨x, hx, rfl⟩ := List.mem_map.1 hc
    obtain ⟨x1, x2⟩ := allP_mem.1 hx
    have hv := ho x.1
    refine ⟨⟨by show 1 ≤ vt l x.1; omega, hv.2⟩, ?_, ?_⟩
    · show 0 ≤ dv way x.2; unfold dv; (repeat' split) <;> omega
    · show dv way x.2 ≤ 3000; unfold dv; (repeat' split) <;> omega
  by_cases hn : n = 0
  · subst hn
    have hstn := stable_nil (J := J) (.rd .zero 0)
    refine SoundAt.row 2 rfl (callOk Try.func15 rfl rfl) fun hlen => ?_
    simp only [maxLen, List.length_map] at hlen
    refine evFn (l := [(25, at1 _ (_, []))]) (nv := nv0) (fz := fz0) (dr := dr15) (dd := dd15) (lam := []) (ms := ms0) ⟨at1_snd hstn, trivial⟩ hJ trivial ms0_ok Try.func15 rfl rfl (Nat.le_of_ble_eq_true rfl) (Nat.le_of_ble_eq_true rfl) drOk15 ?_
    dsimp only [Try.f15, dr15, dd15, Option.getD_some]
    refine ev_start ?_
    have e0 : ((0 : Nat) : Int) = 0 := rfl
    rw [e0]
    simp (disch := omega) only [go_sem, evP_D, evD_guard, evD_cons, evD_zero, evD_nil]
    refine evQ_loop [0, 1, 2, 7, 14, 15, 16] [56] (fun σ => ∃ (i : Nat), i ≤ l.length ∧ σ = ⟨[(0, .int .i64 way), (1, .int .i64 0), (2, .row 1 (l.map (V.int .i64))), (7, .ptr 56 0), (14, .row 1 (l.map (V.int .i64))), (15, .int .i64 l.length), (16, .int .i64 i)], [(56, .box .zero)]⟩)
      (fun σ => l.length - (match Ev.look 16 σ.env with | some (.int _ n) => n.toNat | _ => 0)) ?_ ?_
    · simp only [List.length_map, go_sem, evP_D, evD_guard, evD_cons, evD_zero, evD_nil]
      exact ⟨0, Nat.zero_le _, rfl⟩
    · rintro σ ⟨i, hi, rfl⟩
      by_cases hil : i < l.length
      · have hil' : (i : Int) < l.length := by omega
        have hg : l[i]? = some (vt l i) := vt_some hil
        have hvi := ho i
        have hms : l.length - ((i : Int) + 1).toNat < l.length - (i : Int).toNat := by
          have e3 : ((i : Int) + 1).toNat = i + 1 := by omega
          rw [e3, Int.toNat_natCast]; omega
        simp (disch := (first | omega | assumption)) only [hil', idx_nat, List.length_map, List.getElem?_map, hg, go_sem, evP_D, evD_guard, evD_cons, evD_zero, evD_nil]
        refine evQ_loop [0, 1, 2, 7, 8, 9, 10, 14, 15, 16] [56] (fun σ => σ = ⟨[(0, .int .i64 way), (1, .int .i64 0), (2, .row 1 (l.map (V.int .i64))), (7, .ptr 56 0), (8, .int .i64 i), (9, .int .i64 (vt l i)), (10, .int .i64 0), (14, .row 1 (l.map (V.int .i64))), (15, .int .i64 l.length), (16, .int .i64 i)], [(56, .box .zero)]⟩)
          (fun σ => 0) ?_ ?_
        · simp only [go_sem, evP_D, evD_guard, evD_cons, evD_zero, evD_nil]
        · rintro σ rfl
          simp (disch := (first | omega | assumption)) only [Int.lt_irrefl, go_sem, evP_D, evD_guard, evD_cons, evD_zero, evD_nil]
          exact ⟨⟨i + 1, hil, rfl⟩, hms⟩
      · have hi' : i = l.length := by omega
        subst hi'
        have hil' : ¬ ((l.length : Int) < l.length) := by omega
        simp (disch := (first | omega | assumption)) only [hil', at1_eq, makeV, f1, f2, f3, Int.toNat_natCast, List.length_map, List.length_replicate, go_sem, evP_D, evD_guard, evD_cons, evD_zero, evD_nil]
        refine evQ_loop [11, 56, 57, 58] [424] (fun σ => σ = ⟨[(11, .vec 424), (56, .zero), (57, .int .i64 0), (58, .int .i64 0)], [(424, .vec 3 1 ((List.replicate l.length (0 : Int)).map (V.int .i64)))]⟩) (fun σ => 0) ?_ ?_
        · simp only [List.map_replicate, go_sem, evP_D, evD_guard, evD_cons, evD_zero, evD_nil]
        · rintro σ rfl
          simp (disch := (first | omega | assumption)) only [Int.lt_irrefl, go_sem, evP_D, evD_guard, evD_cons, evD_zero, evD_nil]
          rfl
  obtain ⟨W, rfl⟩ : ∃ W : Nat, way = W := ⟨way.toNat, by omega⟩
  have hW : W < 3 := by omega
  obtain ⟨A, hA⟩ : ∃ A, A = (allP l n).map (cl W l) := ⟨_, rfl⟩
  have hAlen : A.length = (allP l n).length := by rw [hA, List.length_map]
  rw [← hA, ← hAlen] at hlaw
  rw [← hA] at hbd
  obtain ⟨F, hF⟩ := lift_cd hbd
  have hS := stable_claims hJ F (by have := congrArg List.length hF; rw [List.length_map] at this; omega)
  obtain ⟨S, hSd⟩ : ∃ S, S = srtL clt A 0 A.length := ⟨_, rfl⟩
  have hFl : F.length = A.length := by rw [← hF, List.length_map]
  have hSF : (srtL (fun x y : Cd => clt x.1 y.1) F 0 F.length).map (·.1) = S := by
    rw [hSd, srtL_map (fun x : Cd => x.1) (lt := fun x y : Cd => clt x.1 y.1) (lt' := clt) (fun _ _ => Iff.rfl) cd_swo clt_swo F, hF, hFl]
  have hS1 : F.map cdE = A.map cdV := by rw [← hF, List.map_map]; rfl
  have hS2 : (srtL (fun x y : Cd => clt x.1 y.1) F 0 F.length).map cdE = S.map cdV := by rw [← hSF, List.map_map]; rfl
  rw [hS1, hS2] at hS
  have hSl : S.length = A.length := by rw [hSd, srtL_len]
  have hSm : ∀ c ∈ S, c ∈ A := fun c hc => mem_srtL (by omega) (hSd ▸ hc)
  rw [← hSd] at hlaw
  have hAw : ∀ c ∈ A, ∃ i : Nat, c.2.2 = i ∧ i < l.length := fun c hc => by
    rw [hA] at hc
    obtain ⟨x, hx, rfl⟩ := List.mem_map.1 hc
    refine ⟨x.1, rfl, ?_⟩
    rcases Nat.lt_or_ge x.1 l.length with h | h
    · exact h
    · have := (allP_mem.1 hx).1; rw [vt_out h] at this; omega
  have hcl := clsI_end W l n
  rw [← hA] at hcl
  clear hSd hSF hS1 hS2 hF hA
  refine SoundAt.row 2 rfl (callOk Try.func15 rfl rfl) fun hlen => ?_
  simp only [maxLen, List.length_map] at hlen
  refine evFn (l := []) (nv := (nvL [(38, (3, 1)), (44, (62, 3))])) (fz := fz0) (dr := dr15) (dd := dd15) (lam := []) (ms := ⟨[], fun _ => [], [(25, st1 60 26 0 62 3 (A.map cdV) (S.map cdV))]⟩) trivial hJ trivial ⟨trivial, st1_ok hS, trivial⟩ Try.func15 rfl rfl (Nat.le_of_ble_eq_true rfl) (Nat.le_of_ble_eq_true rfl) drOk15 ?_
  dsimp only [Try.f15, dr15, dd15, Option.getD_some]
  refine ev_start ?_
  simp (disch := omega) only [go_sem, evP_D, evD_guard, evD_cons, evD_zero, evD_nil]
  refine evQ_loop [0, 1, 2, 7, 14, 15, 16] [56, 360] (fun σ => ∃ (i : Nat) (bx : V), (i ≤ l.length ∧ (bx = .vec 360 ∨ bx = .agg [.vec 360])) ∧ σ = dlSt [(0, .int .i64 W), (1, .int .i64 n), (2, .row 1 (l.map (V.int .i64))), (7, .ptr 56 0), (14, .row 1 (l.map (V.int .i64))), (15, .int .i64 l.length), (16, .int .i64 i)] bx (clsI W l n i 0))
    (fun σ => l.length - (match Ev.look 16 σ.env with | some (.int _ n) => n.toNat | _ => 0)) ?_ ?_
  · simp only [List.length_map, go_sem, evP_D, evD_guard, evD_cons, evD_zero, evD_nil]
    exact ⟨0, .vec 360, ⟨Nat.zero_le _, .inl rfl⟩, rfl⟩
  · rintro σ ⟨i, bx, ⟨hi, hbx⟩, rfl⟩
    by_cases hil : i < l.length
    case pos =>
      have hil' : (i : Int) < l.length := by omega
      have hg : l[i]? = some (vt l i) := vt_some hil
      have hvi := ho i
      have hms : l.length - ((i : Int) + 1).toNat < l.length - (i : Int).toNat := by
        have e3 : ((i : Int) + 1).toNat = i + 1 := by omega
        rw [e3, Int.toNat_natCast]; omega
      obtain ⟨C, hC⟩ : ∃ C, C = clsI W l n i 0 := ⟨_, rfl⟩
      rw [← hC]
      rcases C with _ | ⟨c, r⟩ <;> rcases hbx with rfl | rfl
      all_goals
        unfold dlSt
        simp only
        simp (disch := (first | omega | assumption)) only [hil', idx_nat, List.length_map, List.getElem?_map, hg, go_sem, evP_D, evD_guard, evD_cons, evD_zero, evD_nil]
        refine evQ_loop [0, 1, 2, 7, 8, 9, 10, 14, 15, 16] [56, 360] (fun σ => ∃ (s : Nat) (bx : V), ((s ≤ n ∧ (s = 0 ∨ 0 < vt l i)) ∧ (bx = .vec 360 ∨ bx = .agg [.vec 360])) ∧ σ = dlSt [(0, .int .i64 W), (1, .int .i64 n), (2, .row 1 (l.map (V.int .i64))), (7, .ptr 56 0), (8, .int .i64 i), (9, .int .i64 (vt l i)), (10, .int .i64 s), (14, .row 1 (l.map (V.int .i64))), (15, .int .i64 l.length), (16, .int .i64 i)] bx (clsI W l n i s))
          (fun σ => n - (match Ev.look 10 σ.env with | some (.int _ n) => n.toNat | _ => 0)) ?_ ?_
        · simp only [go_sem, evP_D, evD_guard, evD_cons, evD_zero, evD_nil]
          first | exact ⟨0, .vec 360, ⟨⟨Nat.zero_le _, .inl rfl⟩, .inl rfl⟩, by rw [← hC]; rfl⟩ | exact ⟨0, .agg [.vec 360], ⟨⟨Nat.zero_le _, .inl rfl⟩, .inr rfl⟩, by rw [← hC]; rfl⟩
        · clear hC
          rintro σ ⟨s, bx, ⟨⟨hs, hsv⟩, hbx⟩, rfl⟩
          obtain ⟨C, hC⟩ : ∃ C, C = clsI W l n i s := ⟨_, rfl⟩
          rw [← hC]
          have hsucc := clsI_succ W l n i s
          rw [← hC] at hsucc
          by_cases hsn : s < n
          · have hsn' : (s : Int) < n := by omega
            by_cases hv : 0 < vt l i
            · have hidx : ([V.int .i64 ((s : Int) + 1), V.int .i64 (2 * (s : Int) + 1), V.int .i64 (s : Int)])[W]? = some (.int .i64 (dv W s)) := by
                match W, hW with
                | 0, _ => rfl
                | 1, _ => rfl
                | 2, _ => rfl
              have y1 : n - ((s : Int) + 1).toNat < n - (s : Int).toNat := by
                have e3 : ((s : Int) + 1).toNat = s + 1 := by omega
                rw [e3, Int.toNat_natCast]; exact Nat.sub_lt_sub_left hsn (Nat.lt_succ_self s)
              have hCl : C.length ≤ 41000 := by
                rw [hC]
                have k1 := clsI_len W l n s i
                have k2 : i * n ≤ 40 * 1000 := Nat.mul_le_mul (by omega) (by omega)
                omega
              rcases C with _ | ⟨c, r⟩ <;> rcases hbx with rfl | rfl
              all_goals
                unfold dlSt
                simp only
                simp only [List.length_cons, List.length_nil] at hCl
                simp (disch := (first | omega | assumption)) only [hsn', hv, hidx, idx_nat, List.length_map, List.length_cons, go_sem, evP_D, evD_guard, evD_cons, evD_zero, evD_nil]
                first
                  | exact ⟨⟨s + 1, .vec 360, ⟨⟨hsn, .inr (by first | exact hv | trivial)⟩, .inl rfl⟩, by rw [hsucc]; simp only [dlSt, List.nil_append, List.cons_append, List.map_cons, List.map_append, List.map_nil]; rfl⟩, y1⟩
                  | exact ⟨⟨s + 1, .agg [.vec 360], ⟨⟨hsn, .inr (by first | exact hv | trivial)⟩, .inr rfl⟩, by rw [hsucc]; simp only [dlSt, List.nil_append, List.cons_append, List.map_cons, List.map_append, List.map_nil]; rfl⟩, y1⟩
            · have hs0 : s = 0 := by omega
              subst hs0
              have hsn0 : (0 : Int) < n := by omega
              have hsk := clsI_skip W l n i hv
              rw [← hC] at hsk
              rcases C with _ | ⟨c, r⟩ <;> rcases hbx with rfl | rfl
              all_goals
                unfold dlSt
                simp only
                simp (disch := (first | omega | assumption)) only [hsn0, hv, Int.natCast_zero, Int.cast_ofNat_Int, go_sem, evP_D, evD_guard, evD_cons, evD_zero, evD_nil]
                first | exact ⟨⟨i + 1, .vec 360, ⟨hil, .inl rfl⟩, by rw [hsk]; rfl⟩, hms⟩ | exact ⟨⟨i + 1, .agg [.vec 360], ⟨hil, .inr rfl⟩, by rw [hsk]; rfl⟩, hms⟩
          · have hs' : s = n := by omega
            subst hs'
            have hsn' : ¬ ((s : Int) < s) := by omega
            have hnx := clsI_next W l s i (by omega)
            rw [← hC] at hnx
            rcases C with _ | ⟨c, r⟩ <;> rcases hbx with rfl | rfl
            all_goals
              unfold dlSt
              simp only
              simp (disch := (first | omega | assumption)) only [hsn', go_sem, evP_D, evD_guard, evD_cons, evD_zero, evD_nil]
              first | exact ⟨⟨i + 1, .vec 360, ⟨hil, .inl rfl⟩, by rw [hnx]; rfl⟩, hms⟩ | exact ⟨⟨i + 1, .agg [.vec 360], ⟨hil, .inr rfl⟩, by rw [hnx]; rfl⟩, hms⟩
    have hi' : i = l.length := by omega
    subst hi'
    have hil' : ¬ ((l.length : Int) < l.length) := by omega
    rw [hcl]
    have hn0 : (0 : Int) ≤ n := by omega
    have hnA : (n : Int) ≤ A.length := by omega
    have hnS : n ≤ S.length := by omega
    have hnS' : (n : Int) ≤ S.length := by omega
    have hS0 : 0 < S.length := by omega
    have hst : dlSt [(0, .int .i64 W), (1, .int .i64 n), (2, .row 1 (l.map (V.int .i64))), (7, .ptr 56 0), (14, .row 1 (l.map (V.int .i64))), (15, .int .i64 l.length), (16, .int .i64 l.length)] bx A =
        ⟨[(0, .int .i64 W), (1, .int .i64 n), (2, .row 1 (l.map (V.int .i64))), (7, .ptr 56 0), (14, .row 1 (l.map (V.int .i64))), (15, .int .i64 l.length), (16, .int .i64 l.length)], [(56, .box bx), (360, .vec 62 3 (A.map cdV))]⟩ := by
      cases A with
      | nil => simp at hAlen; omega
      | cons c r => rfl
    rw [hst]
    clear hst
    rcases hbx with rfl | rfl
    all_goals
      simp (disch := (first | omega | assumption)) only [hil', st1_eq, makeV, f1, f2, f3, hn0, hnS', hS0, Int.toNat_natCast, List.length_map, List.length_replicate, go_sem, evP_D, evD_guard, evD_cons, evD_zero, evD_nil]
      refine evQ_loop [11, 56, 57, 58] [360, 424] (fun σ => ∃ k : Nat, k ≤ n ∧ σ = ⟨[(11, .vec 424), (56, .sub 360 3 0 n), (57, .int .i64 n), (58, .int .i64 k)], [(360, .vec 62 3 (S.map cdV)), (424, .vec 3 1 ((cntG (S.take k) (List.replicate l.length 0)).map (V.int .i64)))]⟩)
        (fun σ => n - (match Ev.look 58 σ.env with | some (.int _ n) => n.toNat | _ => 0)) ?_ ?_
      · simp only [go_sem, evP_D, evD_guard, evD_cons, evD_zero, evD_nil]
        exact ⟨0, Nat.zero_le _, by rw [List.take_zero, show cntG [] (List.replicate l.length 0) = List.replicate l.length 0 from rfl, List.map_replicate]; rfl⟩
      · rintro σ ⟨k, hk, rfl⟩
        by_cases hlt : k < n
        · have hlt' : (k : Int) < n := by omega
          have hkS : k < S.length := by omega
          have hct := cnt_take (List.replicate l.length 0) hkS
          have hbk := cnt_bd (S.take k) (List.replicate l.length 0) 0 (fun i => by rw [vt_rep]; omega)
          have hol := cnt_len (S.take k) (List.replicate l.length 0)
          rw [List.length_replicate] at hol
          rw [List.length_take] at hbk
          obtain ⟨i, hi, hilt⟩ := hAw _ (hSm _ (List.getElem_mem hkS))
          have hgS : S[k]? = some S[k] := List.getElem?_eq_getElem hkS
          obtain ⟨⟨v, d, who⟩, hc⟩ : ∃ c, c = S[k] := ⟨_, rfl⟩
          rw [← hc] at hct hi hgS
          simp only at hi
          subst hi
          generalize cntG (S.take k) (List.replicate l.length 0) = o at *
          have hgo : o[i]? = some (vt o i) := vt_some (by omega)
          have hob := hbk i
          unfold cnt1 at hct
          simp only [Int.toNat_natCast] at hct
          simp (disch := (first | omega | assumption)) only [hlt', idx_nat, List.length_map, List.getElem?_map, hgS, hgo, cdV, setV, go_sem, evP_D, evD_guard, evD_cons, evD_zero, evD_nil]
          exact ⟨⟨k + 1, hlt, by rw [hct]; rfl⟩, by
            have e3 : ((k : Int) + 1).toNat = k + 1 := by omega
            rw [e3, Int.toNat_natCast]; omega⟩
        · have hk' : k = n := by omega
          subst hk'
          have hlt' : ¬ ((k : Int) < k) := by omega
          rw [hlaw]
          simp (disch := (first | omega | assumption)) only [hlt', go_sem, evP_D, evD_guard, evD_cons, evD_zero, evD_nil]
end Go.Proofs.Ytdmkmbaaemhhhaa
