/-
  What may be meant by a line's words, run by the machine: the program's parse.
-/
import Derived.Test.YtdmkmbaaemhhhaaGreatDoorP29
set_option linter.unusedVariables false
set_option linter.unusedSimpArgs false
namespace Go.Lg
open Go Go.Acc
theorem parse_0 (rd : ByteArray → Int) {ws : List ByteArray} {w : ByteArray} (h : ws[0]? = some w) : parseG rd (ws.take 1) = (w, 0, []) := by
 cases ws with
 | nil => simp at h
 | cons a r => simp at h; subst h; rfl
theorem parse_1 (rd : ByteArray → Int) {ws : List ByteArray} {w : ByteArray} (h : ws[1]? = some w) : parseG rd (ws.take 2) = ((parseG rd (ws.take 1)).1, rd w, []) := by
 match ws, h with
 | [], h => simp at h
 | [a], h => simp at h
 | a :: b :: r, h => simp at h; subst h; rfl
theorem parse_2 (rd : ByteArray → Int) {ws : List ByteArray} {w : ByteArray} {j : Nat} (hj : 2 ≤ j) (h : ws[j]? = some w) : parseG rd (ws.take (j + 1)) = ((parseG rd (ws.take j)).1, (parseG rd (ws.take j)).2.1, (parseG rd (ws.take j)).2.2 ++ [lnR rd w]) := by
 obtain ⟨k, rfl⟩ : ∃ k, j = k + 2 := ⟨j - 2, by omega⟩
 match ws, h with
 | [], h => simp at h
 | [a], h => simp at h
 | a :: b :: r, h =>
  have h' : r[k]? = some w := by simpa using h
  have e1 : (a :: b :: r).take (k + 2 + 1) = a :: b :: r.take (k + 1) := rfl
  have e2 : (a :: b :: r).take (k + 2) = a :: b :: r.take k := rfl
  rw [e1, e2, parseG_two, parseG_two, List.take_add_one, h', List.map_append]
  rfl
theorem parse_low (rd : ByteArray → Int) (ws : List ByteArray) : (parseG rd (ws.take 0)) = (ByteArray.empty, 0, []) ∧ (parseG rd (ws.take 1)).2 = (0, []) := by
 refine ⟨rfl, ?_⟩
 cases ws with
 | nil => rfl
 | cons a r => rfl
theorem parse_len (rd : ByteArray → Int) (ws : List ByteArray) : (parseG rd ws).2.2.length ≤ ws.length := by
 match ws with
 | [] => simp [parseG]
 | [a] => simp [parseG]
 | a :: b :: r => rw [parseG_two]; simp; omega
theorem words_len (s : ByteArray) : (wordsB s).length ≤ s.size + 2 := by
 have h1 : (wordsB s).length = Lib.countB s ⟨#[32]⟩ + 1 := Lib.splitB_all ⟨#[32]⟩ (by decide) 0 _ s rfl
 have h2 := Lib.countB_le ⟨#[32]⟩ (by decide) s.size s (Nat.le_refl _)
 omega
end Go.Lg
namespace Go.Proofs.YtdmkmbaaemhhhaaGreatDoor
open Go Go.Ev Go.RowKit Go.Acc Go.Lg
set_option maxHeartbeats 4000000
theorem atV_two (w : ByteArray) : atV w = .tup [.int .i64 (rd1 w), .raw .nilIface] ∨ atV w = .tup [.int .i64 (rd1 w), .ifc 178 .undef] := by
 unfold atV rd1
 cases Lib.atoiAll w.data.toList with
 | ok v => exact .inl rfl
 | range => exact .inr rfl
 | _ => exact .inr rfl
theorem cutV_two (w : ByteArray) : cutV w ⟨#[58]⟩ = .tup [.str (cutW w).1, .str (cutW w).2, .bool (Lib.cut w.data.toList [58]).2.2] := rfl
theorem cutW_size (w : ByteArray) : (cutW w).2.size ≤ w.size := by
 have e : (cutW w).2.size = (Lib.cut w.data.toList [58]).2.1.length := by simp [cutW, ByteArray.size]
 rw [e, Lib.size_eq]
 unfold Lib.cut
 split
 ·simp only [List.length_drop]; omega
 ·simp
theorem word_get {ws : List ByteArray} {j : Nat} {w : ByteArray} (h : ws[j]? = some w) : (ws.map V.str)[j]? = some (.str w) := by rw [List.getElem?_map, h]; rfl
def paR (e : En) : V × List Ev.Blk := match e.2.2 with
 | [] => (.agg [.str e.1, .int .i64 e.2.1, .zero], [])
 | p :: r => (.agg [.str e.1, .int .i64 e.2.1, .vec 0], [.vec 61 2 ((p :: r).map acV)])
def paSt (ws : List ByteArray) (j : Nat) (e : En) : St := match e.2.2 with
 | [] => ⟨[(2, .ptr 16 0), (3, .ptr 24 0), (12, .row 1 (ws.map V.str)), (13, .int .i64 ws.length), (14, .int .i64 j)], [(16, .box (.agg [.str ByteArray.empty, .int .i64 0, .zero])), (24, .box (.agg [.str e.1, .int .i64 e.2.1, .zero]))]⟩
 | p :: r => ⟨[(2, .ptr 16 0), (3, .ptr 24 0), (12, .row 1 (ws.map V.str)), (13, .int .i64 ws.length), (14, .int .i64 j)], [(16, .box (.agg [.str ByteArray.empty, .int .i64 0, .zero])), (24, .box (.agg [.str e.1, .int .i64 e.2.1, .vec 296])), (296, .vec 61 2 ((p :: r).map acV))]⟩
set_option maxRecDepth 20000 in
set_option maxHeartbeats 8000000 in
theorem parse_sound (p : ByteArray) (hp : p.size ≤ 67108864) : SoundAt Tryz.prog LgJ 65 [.str p] (paR (parseG rd1 (wordsB p))).1 (paR (parseG rd1 (wordsB p))).2 := by
 have hJ := stableLg
 have hS := spF_eq (s := p) (by omega)
 have hwl := words_len p
 have hws : ∀ w ∈ wordsB p, w.size ≤ p.size := fun w h => words_size h
 have hpl := parse_len rd1 (wordsB p)
 obtain ⟨R, hR⟩ : ∃ R, R = paR (parseG rd1 (wordsB p)) := ⟨_, rfl⟩
 rw [← hR]
 obtain ⟨R1, R2⟩ := R
 generalize wordsB p = ws at *
 refine evFn (l := [(70, spF), (66, cutF), (64, atF)]) (nv := nv0) (fz := fz0) (dr := dr65) (dd := dd65) (lam := []) (ms := ms0) ⟨sp_snd, cut_snd, at_snd, trivial⟩ hJ trivial ms0_ok Tryz.func65 rfl rfl (Nat.le_of_ble_eq_true rfl) (Nat.le_of_ble_eq_true rfl) drOk65 ?_
 dsimp only [Tryz.f65, dr65, dd65, Option.getD_some]
 refine ev_start ?_
 simp (disch := omega) only [hS, List.length_map, go_sem, evP_D, evD_guard, evD_cons, evD_zero, evD_nil]
 refine evQ_loop [2, 3, 12, 13, 14] [16, 24, 296] (fun σ => ∃ (j : Nat), j ≤ ws.length ∧ σ = paSt ws j (parseG rd1 (ws.take j)))
  (fun σ => ws.length - (match Ev.look 14 σ.env with | some (.int _ n) => n.toNat | _ => 0)) ?_ ?_
 ·simp only [go_sem, evP_D, evD_guard, evD_cons, evD_zero, evD_nil]
  exact ⟨0, Nat.zero_le _, rfl⟩
 ·rintro σ ⟨j, hj, rfl⟩
  by_cases hlt : j < ws.length
  case neg =>
   have hj' : j = ws.length := by omega
   subst hj'
   have hlt' : ¬ ((ws.length : Int) < ws.length) := by omega
   rw [List.take_length]
   generalize parseG rd1 ws = e at *
   obtain ⟨k, d, l⟩ := e
   cases l with
   | nil =>
    unfold paR at hR
    simp only [Prod.mk.injEq] at hR
    obtain ⟨rfl, rfl⟩ := hR
    unfold paSt
    simp (disch := (first | omega | assumption)) only [hlt', go_sem, evP_D, evD_guard, evD_cons, evD_zero, evD_nil]
   | cons q r =>
    unfold paR at hR
    simp only [Prod.mk.injEq] at hR
    obtain ⟨rfl, rfl⟩ := hR
    unfold paSt
    simp (disch := (first | omega | assumption)) only [hlt', go_sem, evP_D, evD_guard, evD_cons, evD_zero, evD_nil]
  have hlt' : (j : Int) < ws.length := by omega
  obtain ⟨w, hw⟩ : ∃ w, ws[j]? = some w := ⟨_, List.getElem?_eq_getElem hlt⟩
  have hg := word_get hw
  have hsz := hws w (List.mem_of_getElem? hw)
  have hms : ws.length - ((j : Int) + 1).toNat < ws.length - (j : Int).toNat := by
   have e3 : ((j : Int) + 1).toNat = j + 1 := by omega
   rw [e3, Int.toNat_natCast]; exact Nat.sub_lt_sub_left hlt (Nat.lt_succ_self j)
  by_cases h0 : j = 0
  ·subst h0
   have z0 : ((0 : Nat) : Int) = 0 := rfl
   have hi0 := idx_nat ws.length 0 hlt
   have hp1 := parse_0 rd1 hw
   rw [(parse_low rd1 ws).1]
   unfold paSt
   simp only
   rw [z0] at hlt' hi0 hms ⊢
   simp (disch := (first | omega | assumption)) only [hlt', hi0, List.length_map, hg, go_sem, evP_D, evD_guard, evD_cons, evD_zero, evD_nil]
   exact ⟨⟨1, hlt, by rw [hp1]; rfl⟩, hms⟩
  by_cases h1 : j = 1
  ·subst h1
   have z1 : ((1 : Nat) : Int) = 1 := rfl
   have hi1 := idx_nat ws.length 1 hlt
   have hp1 := parse_1 rd1 hw
   have hpl := (parse_low rd1 ws).2
   have hA := atF_eq (s := w) (by omega)
   generalize parseG rd1 (ws.take 1) = e at *
   obtain ⟨k, dl⟩ := e
   simp only at hpl hp1
   subst hpl
   unfold paSt
   simp only
   rw [z1] at hlt' hi1 hms ⊢
   rcases atV_two w with hv | hv
   ·rw [hv] at hA
    simp (disch := (first | omega | assumption)) only [hlt', hi1, List.length_map, hg, hA, go_sem, evP_D, evD_guard, evD_cons, evD_zero, evD_nil]
    exact ⟨⟨2, hlt, by rw [hp1]; rfl⟩, hms⟩
   ·rw [hv] at hA
    simp (disch := (first | omega | assumption)) only [hlt', hi1, List.length_map, hg, hA, go_sem, evP_D, evD_guard, evD_cons, evD_zero, evD_nil]
    exact ⟨⟨2, hlt, by rw [hp1]; rfl⟩, hms⟩
  ·have h0' : ¬ (j : Int) = 0 := by omega
   have h1' : ¬ (j : Int) = 1 := by omega
   have hp2 := parse_2 rd1 (show 2 ≤ j by omega) hw
   have hC := cutF_eq (s := w) (sep := ⟨#[58]⟩) (by omega)
   rw [cutV_two] at hC
   have hcs := cutW_size w
   have hA := atF_eq (s := (cutW w).2) (by omega)
   have hlr : lnR rd1 w = ((cutW w).1, rd1 (cutW w).2) := rfl
   have hll := parse_len rd1 (ws.take j)
   have htl : (ws.take j).length ≤ ws.length := by rw [List.length_take]; omega
   rw [hlr] at hp2
   generalize (Lib.cut w.data.toList [58]).2.2 = cb at *
   generalize (cutW w).1 = c1 at *
   generalize (cutW w).2 = c2 at *
   generalize parseG rd1 (ws.take j) = e at *
   obtain ⟨k, d, l⟩ := e
   simp only at hp2 hll
   cases l with
   | nil =>
    unfold paSt
    simp only
    rcases atV_two c2 with hv | hv
    ·rw [hv] at hA
     simp (disch := (first | omega | assumption)) only [hlt', h0', h1', idx_nat, List.length_map, hg, hC, hA, go_sem, evP_D, evD_guard, evD_cons, evD_zero, evD_nil]
     exact ⟨⟨j + 1, hlt, by rw [hp2]; rfl⟩, hms⟩
    ·rw [hv] at hA
     simp (disch := (first | omega | assumption)) only [hlt', h0', h1', idx_nat, List.length_map, hg, hC, hA, go_sem, evP_D, evD_guard, evD_cons, evD_zero, evD_nil]
     exact ⟨⟨j + 1, hlt, by rw [hp2]; rfl⟩, hms⟩
   | cons q r =>
    rw [List.length_cons] at hll
    unfold paSt
    simp only
    rcases atV_two c2 with hv | hv
    ·rw [hv] at hA
     simp (disch := (first | omega | assumption)) only [hlt', h0', h1', idx_nat, List.length_map, List.length_cons, hg, hC, hA, go_sem, evP_D, evD_guard, evD_cons, evD_zero, evD_nil]
     exact ⟨⟨j + 1, hlt, by rw [hp2]; simp only [paSt, List.cons_append, List.map_cons, List.map_append]; rfl⟩, hms⟩
    ·rw [hv] at hA
     simp (disch := (first | omega | assumption)) only [hlt', h0', h1', idx_nat, List.length_map, List.length_cons, hg, hC, hA, go_sem, evP_D, evD_guard, evD_cons, evD_zero, evD_nil]
     exact ⟨⟨j + 1, hlt, by rw [hp2]; simp only [paSt, List.cons_append, List.map_cons, List.map_append]; rfl⟩, hms⟩
end Go.Proofs.YtdmkmbaaemhhhaaGreatDoor
