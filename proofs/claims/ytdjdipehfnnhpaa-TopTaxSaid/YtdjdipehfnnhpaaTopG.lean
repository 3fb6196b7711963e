/-
  Contracts of the whole's helpers at whole families of arguments.
-/
import Derived.Test.YtdjdipehfnnhpaaTopE
import Derived.Test.YtdjdipehfnnhpaaBkJ
namespace Go.Proofs.Ytdjdipehfnnhpaa
open Go Go.Ev Go.RowKit Go.Acc
theorem within_ex {J : World → Prop} (hJ : Stable J) : ∃ F : List V → Option (V × List Blk), (∀ (k n : Int), 0 < n → n ≤ 9223372036854775807 → F [.int .i64 k, .int .i64 n] = some (.int .i64 (wthn k n), [])) ∧ Snd Try.prog J 8 F := by
  obtain ⟨F, h1, h2⟩ := fam_ex (P := Try.prog) (J := J) (f := 8) (fun x : { x : Int × Int // 0 < x.2 ∧ x.2 ≤ 9223372036854775807 } => [.int .i64 x.1.1, .int .i64 x.1.2]) (fun x => (.int .i64 (wthn x.1.1 x.1.2), [])) (fun i j h => by
    simp only [List.cons.injEq, V.int.injEq, true_and, and_true] at h
    rw [h.1, h.2]) fun x => within_sound hJ x.1.1 x.1.2 x.2.1 x.2.2
  exact ⟨F, fun k n h0 hn => h1 ⟨(k, n), h0, hn⟩, h2⟩
theorem moved_ex {J : World → Prop} (hJ : Stable J) : ∃ F : List V → Option (V × List Blk), (∀ (n : Nat) (at_ a : Int) (to from_ : ByteArray), n < 100 → -1000000000000 ≤ a → a ≤ 1000000000000 → F [.int .i64 n, .int .i64 at_, .int .i64 a, .str to, .str from_] = some (enW (mvX n at_ a to from_), [])) ∧ Snd Try.prog J 18 F := by
  obtain ⟨F, h1, h2⟩ := fam_ex (P := Try.prog) (J := J) (f := 18) (fun x : { x : Nat × Int × Int × ByteArray × ByteArray // x.1 < 100 ∧ -1000000000000 ≤ x.2.2.1 ∧ x.2.2.1 ≤ 1000000000000 } => [.int .i64 x.1.1, .int .i64 x.1.2.1, .int .i64 x.1.2.2.1, .str x.1.2.2.2.1, .str x.1.2.2.2.2]) (fun x => (enW (mvX x.1.1 x.1.2.1 x.1.2.2.1 x.1.2.2.2.1 x.1.2.2.2.2), [])) (fun i j h => by
    simp only [List.cons.injEq, V.int.injEq, V.str.injEq, true_and, and_true] at h
    have h0 : i.1.1 = j.1.1 := by omega
    rw [h0, h.2.1, h.2.2.1, h.2.2.2.1, h.2.2.2.2]) fun x => moved_sound hJ x.1.1 x.1.2.1 x.1.2.2.1 x.1.2.2.2.1 x.1.2.2.2.2 x.2.1 x.2.2.1 x.2.2.2
  exact ⟨F, fun n at_ a to from_ hn h0 h1' => h1 ⟨(n, at_, a, to, from_), hn, h0, h1'⟩, h2⟩
theorem enW_inj {E E' : List En} (h : E.map enW = E'.map enW) : E = E' := by
  have := congrArg unEn h
  rw [unEn_map, unEn_map] at this
  exact Option.some.inj this
theorem enW_inj1 {x x' : En} (h : enW x = enW x') : x = x' := by
  have := enW_inj (E := [x]) (E' := [x']) (by simp [h])
  simpa using this
theorem post_ex {J : World → Prop} (hJ : Stable J) (A : List (ByteArray × Int)) (s : Int) : ∃ F : List V → Option (V × List Blk), (∀ (E : List En) (x : En), E.length ≤ maxLen → F [.agg [.row 2 (A.map acV), .row 3 (E.map enW), .int .i64 s], enW x] = some (posR A E s x, [])) ∧ Snd Try.prog J 19 F := by
  obtain ⟨F, h1, h2⟩ := fam_ex (P := Try.prog) (J := J) (f := 19) (fun x : { x : List En × En // x.1.length ≤ maxLen } => [bkV A x.1.1 s, enW x.1.2]) (fun x => (posR A x.1.1 s x.1.2, [])) (fun i j h => by
    simp only [List.cons.injEq, bkV, V.agg.injEq, V.row.injEq, true_and, and_true] at h
    rw [enW_inj h.1, enW_inj1 h.2]) fun x => post_sound hJ A x.1.1 s x.1.2 x.2
  exact ⟨F, fun E x hE => h1 ⟨(E, x), hE⟩, h2⟩
theorem balance_ex {J : World → Prop} (hJ : Stable J) (A : List (ByteArray × Int)) (s : Int) : ∃ F : List V → Option (V × List Blk), (∀ (E : List En) (c : ByteArray) (d : Int), E.length ≤ maxLen → F [.agg [.row 2 (A.map acV), .row 3 (E.map enW), .int .i64 s], .str c, .int .i64 d] = some (.tup [.int .i64 (balN A E s c d), .int .i64 (balE A E s c d)], [])) ∧ Snd Try.prog J 20 F := by
  obtain ⟨F, h1, h2⟩ := fam_ex (P := Try.prog) (J := J) (f := 20) (fun x : { x : List En × ByteArray × Int // x.1.length ≤ maxLen } => [bkV A x.1.1 s, .str x.1.2.1, .int .i64 x.1.2.2]) (fun x => (.tup [.int .i64 (balN A x.1.1 s x.1.2.1 x.1.2.2), .int .i64 (balE A x.1.1 s x.1.2.1 x.1.2.2)], [])) (fun i j h => by
    simp only [List.cons.injEq, bkV, V.agg.injEq, V.row.injEq, V.str.injEq, V.int.injEq, true_and, and_true] at h
    rw [enW_inj h.1, h.2.1, h.2.2]) fun x => balance_sound hJ A x.1.1 s x.1.2.1 x.1.2.2 x.2
  exact ⟨F, fun E c d hE => h1 ⟨(E, c, d), hE⟩, h2⟩
theorem bal_ok {A : List (ByteArray × Int)} {E : List En} {s : Int} {c : ByteArray} {d : Int} (h : bkChk A E s = 0) (hc : hasA A c = true) (h0 : 0 ≤ d) (h1 : d ≤ 292193) : balE A E s c d = 0 ∧ balN A E s c d = ofB c 0 d E := by
  have b1 : balE A E s c d = 0 := by unfold balE; rw [if_neg (fun hh => hh h), if_neg (by rw [hc]; simp), if_neg (fun hh => hh ⟨h0, h1⟩)]
  exact ⟨b1, by unfold balN; rw [if_pos b1]⟩
end Go.Proofs.Ytdjdipehfnnhpaa
