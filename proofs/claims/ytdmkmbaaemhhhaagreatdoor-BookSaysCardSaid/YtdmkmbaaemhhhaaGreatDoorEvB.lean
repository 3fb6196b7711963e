/-
  The machine's contracts of functions over rows of ints: roundings, equality, search by a function, parts of a sum.
-/
import Derived.Test.YtdmkmbaaemhhhaaGreatDoorEvA
import Derived.Test.YtdmkmbaaemhhhaaGreatDoorRounded
namespace Go.Proofs.YtdmkmbaaemhhhaaGreatDoor
open Go Go.Ev Go.RowKit
set_option maxHeartbeats 4000000
set_option linter.unusedSimpArgs false
set_option linter.unusedVariables false

def unI : List V → Option (List Int)
  | [] => some []
  | .int .i64 n :: l => (unI l).map fun r => n :: r
  | _ => none
theorem unI_map : ∀ l : List Int, unI (l.map (V.int .i64)) = some l
  | [] => rfl
  | p :: l => by rw [List.map_cons, unI, unI_map l]; rfl
theorem unI_eq : ∀ {es : List V} {l : List Int}, unI es = some l → es = l.map (V.int .i64)
  | [], l, h => by simp [unI] at h; subst h; rfl
  | e :: es, l, h => by
    unfold unI at h
    split at h
    · rename_i he; cases he
    · rename_i n es' he
      simp only [List.cons.injEq] at he
      obtain ⟨rfl, rfl⟩ := he
      simp only [Option.map_eq_some_iff] at h
      obtain ⟨r, hr, rfl⟩ := h
      rw [unI_eq hr]; rfl
    · cases h
/-- a row of ints, nil too -/
def rowIs : V → Option (List Int)
  | .row 1 es => unI es
  | .zero => some []
  | _ => none
theorem rowIs_row (l : List Int) : rowIs (.row 1 (l.map (V.int .i64))) = some l := unI_map l
theorem rowIs_zero : rowIs .zero = some [] := rfl
theorem rowIs_rel {v : V} {l : List Int} (h : rowIs v = some l) {w : World} {ok : Nat → Prop} {val : Value} (hv : RelD w ok v val) : RelD w ok (.row 1 (l.map (V.int .i64))) val := by
  unfold rowIs at h
  split at h
  · rw [← unI_eq h]; exact hv
  · simp at h; subst h
    cases hv
    exact .nil _ _
  · cases h
def rndF : List V → Option (V × List Blk)
  | [.int .i64 n, .int .i64 d, .int .i64 way] => if -4000000000000000000 ≤ n ∧ n ≤ 4000000000000000000 ∧ 1 ≤ d ∧ d ≤ 4000000000000000000 ∧ 0 ≤ way ∧ way ≤ 3 then some (.int .i64 (Rnd.rnd n d way), []) else none
  | _ => none
theorem rndF_eq {n d way : Int} (h : -4000000000000000000 ≤ n ∧ n ≤ 4000000000000000000 ∧ 1 ≤ d ∧ d ≤ 4000000000000000000 ∧ 0 ≤ way ∧ way ≤ 3) : rndF [.int .i64 n, .int .i64 d, .int .i64 way] = some (.int .i64 (Rnd.rnd n d way), []) := by
  unfold rndF; simp only [h, and_self, if_true]
theorem rounded_snd {J : World → Prop} : Snd Tryz.prog J 207 rndF := by
  intro args r bs h
  unfold rndF at h
  split at h
  · rename_i n d way
    split at h
    · rename_i hc
      obtain ⟨rfl, rfl⟩ := some_pair h
      refine sound_plain (callOk Tryz.func207 rfl rfl) rfl rfl fun w _ => (rounded_any n d way w hc.1 hc.2.1 hc.2.2.1 hc.2.2.2.1 hc.2.2.2.2.1 hc.2.2.2.2.2).mono ?_
      rintro e w' ⟨he, k, rfl⟩
      exact ⟨he, below_drewN (.refl _ _) k⟩
    · cases h
  · cases h
theorem rround_snd {J : World → Prop} : Snd Tryz.prog J 175 rndF := by
  intro args r bs h
  unfold rndF at h
  split at h
  · rename_i n d way
    split at h
    · rename_i hc
      obtain ⟨rfl, rfl⟩ := some_pair h
      refine sound_plain (callOk Tryz.func175 rfl rfl) rfl rfl fun w _ => (rround_any n d way w hc.1 hc.2.1 hc.2.2.1 hc.2.2.2.1 hc.2.2.2.2.1 hc.2.2.2.2.2).mono ?_
      rintro e w' ⟨he, rfl⟩
      exact ⟨he, .refl _ _⟩
    · cases h
  · cases h
/-- the steps of a sum -/
def steps (F : Int → Int) (n : Nat) : List Int := (List.range n).map fun k : Nat => F ((k : Int) + 1) - F (k : Int)
theorem steps_succ (F : Int → Int) (k : Nat) : steps F (k + 1) = steps F k ++ [F ((k : Int) + 1) - F (k : Int)] := by
  simp [steps, List.range_succ]
theorem steps_len (F : Int → Int) (k : Nat) : (steps F k).length = k := by simp [steps]
theorem parted_sound {J : World → Prop} (hJ : Stable J) (g : FuncId) (cs : List V) (G : List V → Option (V × List Blk)) (hG : Snd Tryz.prog J g G) (hd : V.dataL cs = true) (F : Int → Int) (n : Nat) (hn : n ≤ 1000)
    (hp : ∀ k : Nat, k ≤ n → G (.int .i64 k :: cs) = some (.int .i64 (F k), [])) (hb : ∀ k : Nat, k ≤ n → -4000000000000000000 ≤ F k ∧ F k ≤ 4000000000000000000) :
    SoundAt Tryz.prog J 173 [.int .i64 n, .fn g cs] (.vec 0) [.vec 3 1 ((steps F n).map (V.int .i64))] := by
  refine evFn (l := [(g, G)]) (nv := (nvL [(5, (3, 1))])) (fz := fz0) (dr := dr173) (dd := dd173) (lam := []) (ms := ms0) ⟨hG, trivial⟩ hJ trivial ms0_ok Tryz.func173 rfl rfl (Nat.le_of_ble_eq_true rfl) (Nat.le_of_ble_eq_true rfl) drOk173 ?_
  dsimp only [Tryz.f173, dr173, dd173, Option.getD_some]
  refine ev_start ?_
  have h0 := hp 0 (Nat.zero_le _)
  simp only [Int.ofNat_zero] at h0
  simp (disch := omega) only [h0, hd, V.dataL, V.data, go_sem, evP_D, evD_guard, evD_cons, evD_zero, evD_nil]
  refine evQ_loop [0, 1, 5, 6, 7] [40] (fun σ => ∃ k : Nat, k ≤ n ∧ σ = ⟨[(0, .int .i64 n), (1, .fn g cs), (5, .vec 40), (6, .int .i64 (F k)), (7, .int .i64 ((k : Int) + 1))], [(40, .vec 3 1 ((steps F k).map (V.int .i64)))]⟩) (fun σ => n + 1 - (match Ev.look 7 σ.env with | some (.int _ n) => n.toNat | _ => 0)) ?_ ?_
  · simp only [refsInL_data hd, go_sem, evP_D, evD_guard, evD_cons, evD_zero, evD_nil]
    exact ⟨0, Nat.zero_le _, rfl⟩
  · rintro σ ⟨k, hk, rfl⟩
    by_cases hlt : k < n
    · have hlt' : (k : Int) + 1 ≤ n := by omega
      have h1 := hp (k + 1) hlt
      have b1 := hb (k + 1) hlt
      have b0 := hb k (by omega)
      have e1 : ((k + 1 : Nat) : Int) = (k : Int) + 1 := by omega
      rw [e1] at h1 b1
      simp (disch := (first | omega | assumption)) only [hlt', h1, hd, refsInL_data hd, scrubL_data hd, V.dataL, V.data, List.length_map, steps_len, go_sem, evP_D, evD_guard, evD_cons, evD_zero, evD_nil]
      exact ⟨⟨k + 1, hlt, by rw [steps_succ, List.map_append, e1]; rfl⟩, by
        have e2 : ((k : Int) + 1).toNat = k + 1 := by omega
        have e3 : ((k : Int) + 1 + 1).toNat = k + 2 := by omega
        rw [e2, e3]; omega⟩
    · have hk' : k = n := by omega
      subst hk'
      have hlt' : ¬ ((k : Int) + 1 ≤ k) := by omega
      simp (disch := (first | omega | assumption)) only [hlt', go_sem, evP_D, evD_guard, evD_cons, evD_zero, evD_nil]
end Go.Proofs.YtdmkmbaaemhhhaaGreatDoor
