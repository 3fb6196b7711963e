/-
  Accounts, run by the machine: Find, Kind, Under.
-/
import Derived.Test.YtdmkmbaaemhhhaaGreatDoorC08
set_option linter.unusedVariables false
set_option linter.unusedSimpArgs false
namespace Go.Acc
open Go
def isC (code : ByteArray) (p : ByteArray × Int) : Bool := decide (p.1 = code)
def fidx (code : ByteArray) (l : List (ByteArray × Int)) : Int := if l.any (isC code) = true then ((l.findIdx (isC code) : Nat) : Int) else -1
end Go.Acc
namespace Go.Proofs.YtdmkmbaaemhhhaaGreatDoor
open Go Go.Ev Go.RowKit Go.Acc
set_option maxHeartbeats 4000000
theorem indexA_sound {J : World → Prop} (hJ : Stable J) (g : FuncId) (cs : List V) (G : List V → Option (V × List Blk)) (hG : Snd Tryz.prog J g G) (hd : V.dataL cs = true) (p : ByteArray × Int → Bool) (l : List (ByteArray × Int)) (hp : ∀ n ∈ l, G (acV n :: cs) = some (.bool (p n), [])) :
  SoundAt Tryz.prog J 117 [.row 2 (l.map acV), .fn g cs] (.int .i64 (if l.any p = true then ((l.findIdx p : Nat) : Int) else -1)) [] := by
 refine SoundAt.row 0 rfl (callOk Tryz.func117 rfl rfl) fun hlen => ?_
 simp only [maxLen, List.length_map] at hlen
 refine evFn (l := [(g, G)]) (nv := nv0) (fz := fz0) (dr := dr117) (dd := dd117) (lam := []) (ms := ms0) ⟨hG, trivial⟩ hJ trivial ms0_ok Tryz.func117 rfl rfl (Nat.le_of_ble_eq_true rfl) (Nat.le_of_ble_eq_true rfl) drOk117 ?_
 dsimp only [Tryz.f117, dr117, dd117, Option.getD_some]
 refine ev_start ?_
 simp (disch := omega) only [go_sem, evP_D, evD_guard, evD_cons, evD_zero, evD_nil]
 refine evQ_loop [0, 1, 7, 8] [] (fun σ => ∃ k : Nat, (k ≤ l.length ∧ ∀ i (h : i < l.length), i < k → p l[i] = false) ∧ σ = ⟨[(0, .row 2 (l.map acV)), (1, .fn g cs), (7, .int .i64 l.length), (8, .int .i64 k)], []⟩) (fun σ => l.length - (match Ev.look 8 σ.env with | some (.int _ n) => n.toNat | _ => 0)) ?_ ?_
 ·simp only [go_sem, evP_D, evD_guard, evD_cons, evD_zero, evD_nil]
  exact ⟨refsInL_data hd, 0, ⟨Nat.zero_le _, fun _ _ h => by omega⟩, rfl⟩
 ·rintro σ ⟨k, ⟨hk, hall⟩, rfl⟩
  by_cases hlt : k < l.length
  ·have hlt' : (k : Int) < l.length := by omega
   have hg : (l.map acV)[k]? = some (.agg [.str l[k].1, .int .i64 l[k].2]) := acV_get (c := l[k].1) (n := l[k].2) (List.getElem?_eq_getElem hlt)
   have hpk := hp l[k] (List.getElem_mem hlt)
   simp only [acV] at hpk
   cases hb : p l[k] with
   | true =>
    rw [hb] at hpk
    have hany : l.any p = true := List.any_eq_true.2 ⟨l[k], List.getElem_mem hlt, hb⟩
    have hidx : l.findIdx p = k := (List.findIdx_eq hlt).2 ⟨hb, fun j hj => hall j (by omega) hj⟩
    simp (disch := (first | omega | assumption)) only [hlt', idx_nat, List.length_map, hg, hpk, hd, V.dataL, V.data, hany, hidx, go_sem, evP_D, evD_guard, evD_cons, evD_zero, evD_nil]
   | false =>
    rw [hb] at hpk
    simp (disch := (first | omega | assumption)) only [hlt', idx_nat, List.length_map, hg, hpk, hd, refsInL_data hd, scrubL_data hd, V.dataL, V.data, go_sem, evP_D, evD_guard, evD_cons, evD_zero, evD_nil]
    exact ⟨⟨k + 1, ⟨hlt, fun i hi hik => by
     by_cases e : i = k
     ·subst e; exact hb
     ·exact hall i hi (by omega)⟩, rfl⟩, by show l.length - ((k : Int) + 1).toNat < l.length - (k : Int).toNat; omega⟩
  ·have hk' : k = l.length := by omega
   subst hk'
   have hlt' : ¬ ((l.length : Int) < l.length) := by omega
   have hany : l.any p = false := by
    rw [List.any_eq_false]
    intro x hx
    obtain ⟨i, hi, rfl⟩ := List.mem_iff_getElem.1 hx
    simp [hall i hi hi]
   simp (disch := (first | omega | assumption)) only [hlt', hany, go_sem, evP_D, evD_guard, evD_cons, evD_zero, evD_nil]
def find1F : List V → Option (V × List Blk)
 | [.agg [.str c, .int .i64 n], .rd (.str code) 0] => some (.bool (isC code (c, n)), [])
 | _ => none
theorem find1_snd {J : World → Prop} (hJ : Stable J) : Snd Tryz.prog J 118 find1F := by
 intro args r bs h
 unfold find1F at h
 split at h
 ·rename_i c n code
  obtain ⟨rfl, rfl⟩ := some_pair h
  refine evFn (l := []) (nv := nv0) (fz := fz0) (dr := dr118) (dd := dd118) (lam := []) (ms := ms0) trivial hJ trivial ms0_ok Tryz.func118 rfl rfl (Nat.le_of_ble_eq_true rfl) (Nat.le_of_ble_eq_true rfl) drOk118 ?_
  dsimp only [Tryz.f118, dr118, dd118, Option.getD_some]
  refine ev_start ?_
  simp (disch := omega) only [bin_eql_str, isC, go_sem, evP_D, evD_guard, evD_cons, evD_zero, evD_nil]
 ·cases h
theorem find_sound {J : World → Prop} (hJ : Stable J) (l : List (ByteArray × Int)) (code : ByteArray) : SoundAt Tryz.prog J 81 [.row 2 (l.map acV), .str code] (.int .i64 (fidx code l)) [] := by
 have hI := indexA_sound hJ 118 [.rd (.str code) 0] find1F (find1_snd hJ) rfl (isC code) l fun _ _ => rfl
 refine evFn (l := [(117, at1 [.row 2 (l.map acV), .fn 118 [.rd (.str code) 0]] (.int .i64 (fidx code l), []))]) (nv := nv0) (fz := fz0) (dr := dr81) (dd := dd81) (lam := []) (ms := ms0) ⟨at1_snd hI, trivial⟩ hJ trivial ms0_ok Tryz.func81 rfl rfl (Nat.le_of_ble_eq_true rfl) (Nat.le_of_ble_eq_true rfl) drOk81 ?_
 dsimp only [Tryz.f81, dr81, dd81, Option.getD_some]
 refine ev_start ?_
 simp (disch := omega) only [at1_eq, List.mapM_cons, List.mapM_nil, Option.bind_eq_bind, Option.pure_def, Option.bind_some, go_sem, evP_D, evD_guard, evD_cons, evD_zero, evD_nil]
def kindR (code : ByteArray) (l : List (ByteArray × Int)) : Int × Int := if acChk l = 0 then (if l.any (isC code) = true then ((l[l.findIdx (isC code)]?).elim 0 (·.2), 0) else (0, 4)) else (0, acChk l)
theorem kind_sound {J : World → Prop} (hJ : Stable J) (l : List (ByteArray × Int)) (code : ByteArray) : SoundAt Tryz.prog J 48 [.row 2 (l.map acV), .str code] (.tup [.int .i64 (kindR code l).1, .int .i64 (kindR code l).2]) [] := by
 refine SoundAt.row 0 rfl (callOk Tryz.func48 rfl rfl) fun hlen => ?_
 simp only [maxLen, List.length_map] at hlen
 refine evFn (l := [(41, chkF), (81, at1 [.row 2 (l.map acV), .str code] (.int .i64 (fidx code l), []))]) (nv := nv0) (fz := fz0) (dr := dr48) (dd := dd48) (lam := []) (ms := ms0) ⟨check_snd hJ, at1_snd (find_sound hJ l code), trivial⟩ hJ trivial ms0_ok Tryz.func48 rfl rfl (Nat.le_of_ble_eq_true rfl) (Nat.le_of_ble_eq_true rfl) drOk48 ?_
 dsimp only [Tryz.f48, dr48, dd48, Option.getD_some]
 refine ev_start ?_
 by_cases h : acChk l = 0
 ·cases hany : l.any (isC code) with
  | true =>
   have e : fidx code l = ((l.findIdx (isC code) : Nat) : Int) := by unfold fidx; rw [if_pos hany]
   have hlt : l.findIdx (isC code) < l.length := List.findIdx_lt_length_of_exists (by
    obtain ⟨x, hx, hc⟩ := List.any_eq_true.1 hany
    exact ⟨x, hx, hc⟩)
   obtain ⟨⟨c, n⟩, hcn⟩ : ∃ p, l[l.findIdx (isC code)]? = some p := ⟨_, List.getElem?_eq_getElem hlt⟩
   have ek : kindR code l = (n, 0) := by unfold kindR; rw [if_pos h, if_pos hany, hcn]; rfl
   have hg := acV_get hcn
   have h0 : ¬ (((l.findIdx (isC code) : Nat) : Int) < 0) := by omega
   simp (disch := (first | omega | assumption)) only [chkF_eq, at1_eq, h, e, ek, h0, idx_nat, List.length_map, hg, go_sem, evP_D, evD_guard, evD_cons, evD_zero, evD_nil]
  | false =>
   have e : fidx code l = -1 := by unfold fidx; rw [hany]; rfl
   have ek : kindR code l = (0, 4) := by unfold kindR; rw [if_pos h, hany]; rfl
   simp (disch := omega) only [chkF_eq, at1_eq, h, e, ek, go_sem, evP_D, evD_guard, evD_cons, evD_zero, evD_nil]
 ·have ek : kindR code l = (0, acChk l) := by unfold kindR; rw [if_neg h]
  simp (disch := omega) only [chkF_eq, at1_eq, h, ek, go_sem, evP_D, evD_guard, evD_cons, evD_zero, evD_nil]
end Go.Proofs.YtdmkmbaaemhhhaaGreatDoor
