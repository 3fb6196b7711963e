/-
  Steps of the proof of TopDesk: DkO TopDeskW.
-/
import Derived.Test.YtcmpjagpggjfiaaGreatDoorT46
import Derived.Test.YtcmpjagpggjfiaaGreatDoorT45
import Derived.Test.YtcmpjagpggjfiaaGreatDoorT47
import Derived.Test.YtcmpjagpggjfiaaGreatDoorT48
set_option linter.unusedVariables false
section
namespace Go.Proofs.YtcmpjagpggjfiaaGreatDoor
open Go Go.Ev Go.RowKit Go.Acc Go.Dk Go.Lg
theorem scriptL_len : ∀ {l : List (List ByteArray)}, (∀ ws ∈ l, (∀ w ∈ ws, WdOk w) ∧ ws.length ≤ 10) → (scriptL l).length ≤ 611 * l.length
 | [], _ => by simp [scriptL]
 | ws :: l, h => by
  have h1 := scriptL_len fun x hx => h x (List.mem_cons_of_mem _ hx)
  have h2 := h ws (by simp)
  have h3 := joinW_len h2.1
  have e : scriptL (ws :: l) = joinW ws ++ 10 :: scriptL l := by simp [scriptL]
  rw [e, List.length_append, List.length_cons, List.length_cons]
  omega
set_option maxRecDepth 100000 in
theorem run_year {a n : Int} (h0 : 1 ≤ a) (h1 : a ≤ 100000) (hn : 1 ≤ n) (hn2 : n ≤ 12) : SoundAt Tryz.prog DkJ 6 [.str (scT (itoaB a) (itoaB n))] (.str (wantT ++ restT (itoaB a))) [] := by
 have hw := yr_words h0 h1 hn hn2
 have hsc := sc_data (a := a) (n := n) (by omega)
 have hod := out_data (a := a) (n := n) (by omega)
 have hlen : (yrW a n).length = 16 := rfl
 have hA : (itoaB a).size ≤ 14 := itoaB_size (k := 12) (by omega)
 have hsz : (scT (itoaB a) (itoaB n)).size ≤ 65536 := by
  have h2 : (scT (itoaB a) (itoaB n)).data.toList.length = (scT (itoaB a) (itoaB n)).size := by rw [Array.length_toList]; rfl
  rw [← h2, hsc]
  have := scriptL_len (l := (yrW a n).map (·.1)) fun ws hws => by
   obtain ⟨x, hx, rfl⟩ := List.mem_map.1 hws
   exact (hw x hx).2
  rw [List.length_map, hlen] at this
  omega
 have ho : (wantT ++ restT (itoaB a)).data.toList.length ≤ 1000 := by
  have h2 : (wantT ++ restT (itoaB a)).data.toList.length = (wantT ++ restT (itoaB a)).size := by rw [Array.length_toList]; rfl
  rw [h2]
  unfold restT
  rw [ByteArray.size_append, ByteArray.size_append, ByteArray.size_append]
  have k1 : wantT.size = 32 := rfl
  have k2 : ByteArray.size ⟨#[10]⟩ = 1 := rfl
  have k3 : ∀ x : ByteArray, x = (restT ⟨#[]⟩) → x.size ≤ 100 := fun x hx => by rw [hx]; decide
  have k4 := k3 _ rfl
  unfold restT at k4
  rw [ByteArray.size_append, ByteArray.size_append] at k4
  omega
 have h := run_sound ((yrW a n).map fun p => (⟨(joinW p.1).toArray⟩, p.1, p.2)) (yrD a n) (scT (itoaB a) (itoaB n)) (by
   rw [lines_cut hsc fun ws hws w hw2 => by
    obtain ⟨x, hx, rfl⟩ := List.mem_map.1 hws
    exact ((hw x hx).2.1 w hw2).nl]
   rw [List.map_map, List.map_map]
   rfl) hsz (by rw [List.length_map, hlen]; omega) (yrD_dat a n) rfl (fun k x hx => by
   rw [List.getElem?_map] at hx
   cases hp : (yrW a n)[k]? with
   | none => rw [hp] at hx; cases hx
   | some p =>
    rw [hp] at hx
    cases hx
    obtain ⟨⟨c, q1, q2⟩, q3, q4⟩ := hw p (List.mem_of_getElem? hp)
    exact ⟨LnOk.of q1 q2 q3 (by omega), yr_ans h0 h1 hn hn2 k p hp⟩) (by rw [List.map_map]; show (outLs ((yrW a n).map (·.2))).length ≤ _; rw [hod]; omega)
 rw [List.map_map] at h
 have e : (⟨(outLs ((yrW a n).map (·.2))).toArray⟩ : ByteArray) = wantT ++ restT (itoaB a) := by
  rw [hod]
 rw [← e]
 exact h
end Go.Proofs.YtcmpjagpggjfiaaGreatDoor
end
section
namespace Go.Proofs.YtcmpjagpggjfiaaGreatDoor
open Go Go.Ev Go.RowKit
set_option maxRecDepth 100000 in
theorem walkTopDesk (c0 : V) (h0 : TyV Tryz.prog 9 3 c0) (c1 : V) (h1 : TyV Tryz.prog 9 3 c1) :
  SoundAt Tryz.prog DkJ 3 [c0, c1] (.bool true) [] := by
 obtain ⟨m, rfl, _⟩ := ty_int (m := 8) h0 Tryz.underlying3
 obtain ⟨n, rfl, _⟩ := ty_int (m := 8) h1 Tryz.underlying3
 exact desk_law0 m n fun a k a1 a2 a3 a4 => run_year a1 a2 a3 a4
end Go.Proofs.YtcmpjagpggjfiaaGreatDoor
end
