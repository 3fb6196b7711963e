/-
  Steps of the proof of JobRuns: RRun JrS JobRunsW.
-/
import Derived.Test.YtdmkmbaaemhhhaaGreatDoorR33
import Derived.Test.YtdmkmbaaemhhhaaGreatDoorR28
import Derived.Test.YtdmkmbaaemhhhaaGreatDoorR48
import Derived.Test.YtdmkmbaaemhhhaaGreatDoorR22
import Derived.Test.YtdmkmbaaemhhhaaGreatDoorR25
set_option linter.unusedVariables false
set_option linter.unusedSimpArgs false
section
namespace Go.Job
theorem dueFrom_mem {day : Int} {p : Pl} : ∀ {L : List Int} {k : Nat} {x : En}, x ∈ dueFrom day p k L → ∃ j n, x = enP p j n
 | [], _, _, h => by simp [dueFrom] at h
 | n :: L, k, x, h => by
  rw [dueFrom, List.mem_append] at h
  rcases h with h | h
  ·split at h
   ·simp at h; exact ⟨_, _, h⟩
   ·simp at h
  ·exact dueFrom_mem h
theorem dueL_mem {day : Int} {l : List Pl} {x : En} (h : x ∈ dueL day l) : ∃ p ∈ l, ∃ j n, x = enP p j n := by
 unfold dueL dueP at h
 obtain ⟨p, hp, h⟩ := List.mem_flatMap.1 h
 exact ⟨p, hp, dueFrom_mem h⟩
theorem keyP_size (p : Pl) (k : Nat) : (keyP p k).size = p.key.size + 3 := by
 unfold keyP dig2
 simp only [ByteArray.size_append]
 rfl
end Go.Job
namespace Go.Proofs.YtdmkmbaaemhhhaaGreatDoor
open Go Go.Ev Go.RowKit Go.Acc
set_option maxHeartbeats 4000000
theorem rpost_ex {J : World → Prop} (hJ : Stable J) (A : List (ByteArray × Int)) (s : Int) : ∃ F : List V → Option (V × List Ev.Blk), (∀ (E : List En) (x : En), bkChk A E s = 0 → x.1.size ≤ maxLen → x.2.2.length ≤ maxLen → F [.agg [.row 2 (A.map acV), .row 3 (E.map enW), .int .i64 s], enW x] = some (posR A E s x, [])) ∧ Snd Tryz.prog J 14 F := by
 obtain ⟨F, h1, h2⟩ := fam_ex (P := Tryz.prog) (J := J) (f := 14) (fun x : { x : List En × En // bkChk A x.1 s = 0 ∧ x.2.1.size ≤ maxLen ∧ x.2.2.2.length ≤ maxLen } => [bkV A x.1.1 s, enW x.1.2]) (fun x => (posR A x.1.1 s x.1.2, [])) (fun i j h => by
  simp only [List.cons.injEq, bkV, V.agg.injEq, V.row.injEq, true_and, and_true] at h
  rw [enW_inj h.1, enW_inj1 h.2]) fun x => rpost_sound hJ A x.1.1 s x.1.2 x.2.1 x.2.2.1 x.2.2.2
 exact ⟨F, fun E x hz hk hl => h1 ⟨(E, x), hz, hk, hl⟩, h2⟩
set_option maxRecDepth 20000 in
set_option maxHeartbeats 8000000 in
theorem rrun_sound (A : List (ByteArray × Int)) (E : List En) (s : Int) (l : List Job.Pl) (day : Int) (hz : bkChk A E s = 0) (hks : ∀ p ∈ l, p.key.size ≤ maxLen) : SoundAt Tryz.prog Tab 26 [bkV A E s, .row 7 (l.map Job.plV), .int .i64 day] (jrV A E s l day) [] := by
 have hJ := stableTab
 have hP := rplans_sound hJ l hks
 unfold bkV
 by_cases hp : Job.plChk keyOk' codeOk l = 0
 case neg =>
  have e1 : jrE A E s l day = Job.plChk keyOk' codeOk l := by unfold jrE; rw [if_neg (fun h => h hz), if_pos hp]
  have eR : jrV A E s l day = .tup [.agg [.zero, .zero, .int .i64 0], .int .i64 (Job.plChk keyOk' codeOk l)] := by unfold jrV; rw [e1, if_neg hp]; rfl
  rw [eR]
  generalize Job.plChk keyOk' codeOk l = e at *
  refine evFn (l := [(72, at1 _ (_, []))]) (nv := nv0) (fz := fz0) (dr := dr26) (dd := dd26) (lam := []) (ms := ms0) ⟨at1_snd hP, trivial⟩ hJ trivial ms0_ok Tryz.func26 rfl rfl (Nat.le_of_ble_eq_true rfl) (Nat.le_of_ble_eq_true rfl) drOk26 ?_
  dsimp only [Tryz.f26, dr26, dd26, Option.getD_some]
  refine ev_start ?_
  simp (disch := omega) only [at1_eq, hp, go_sem, evP_D, evD_guard, evD_cons, evD_zero, evD_nil]
 by_cases hd : 0 ≤ day ∧ day ≤ 292193
 case neg =>
  have e1 : jrE A E s l day = 1 := by unfold jrE; rw [if_neg (fun h => h hz), if_neg (fun h => h hp), if_pos hd]
  have eR : jrV A E s l day = .tup [.agg [.zero, .zero, .int .i64 0], .int .i64 1] := by unfold jrV; rw [e1]; rfl
  have hd' : decide (0 ≤ day ∧ day ≤ 292193) = false := decide_eq_false hd
  rw [eR]
  rw [hp] at hP
  refine evFn (l := [(72, at1 _ (_, [])), (39, dayF)]) (nv := nv0) (fz := fz0) (dr := dr26) (dd := dd26) (lam := []) (ms := ms0) ⟨at1_snd hP, day_snd hJ, trivial⟩ hJ trivial ms0_ok Tryz.func26 rfl rfl (Nat.le_of_ble_eq_true rfl) (Nat.le_of_ble_eq_true rfl) drOk26 ?_
  dsimp only [Tryz.f26, dr26, dd26, Option.getD_some]
  refine ev_start ?_
  simp (disch := omega) only [at1_eq, dayF_eq, hd', go_sem, evP_D, evD_guard, evD_cons, evD_zero, evD_nil]
 have hd' : decide (0 ≤ day ∧ day ≤ 292193) = true := decide_eq_true hd
 have hD := rdue_sound hJ l day hp
 rw [enJ_map] at hD
 rw [hp] at hP
 obtain ⟨PF, hPF, hPFs⟩ := rpost_ex hJ A s
 have hlen : (Job.dueL day l).length ≤ 480 := by
  have h1 := dueL_len (day := day) (l := l) fun q hq => (Job.one_ok keyOk' codeOk ((Job.chk_one keyOk' codeOk hp).2 q hq)).num
  have h2 := (Job.chk_one keyOk' codeOk hp).1
  have h3 : l.length * 40 ≤ 12 * 40 := Nat.mul_le_mul_right _ h2
  omega
 have hsz : ∀ x ∈ Job.dueL day l, x.1.size ≤ maxLen ∧ x.2.2.length ≤ maxLen := by
  intro x hx
  obtain ⟨p, hpl, j, n, rfl⟩ := Job.dueL_mem hx
  have h9 := (Job.one_ok keyOk' codeOk ((Job.chk_one keyOk' codeOk hp).2 p hpl)).key.2.1
  have h3 : (Job.keyP p j).size = p.key.size + 3 := Job.keyP_size p j
  have h4 : (Job.enP p j n).1.size = (Job.keyP p j).size := rfl
  have h5 : (Job.enP p j n).2.2.length = 2 := rfl
  simp only [maxLen]
  constructor
  ·rw [h4, h3]; omega
  ·rw [h5]; omega
 have e0 : jrE A E s l day = (runB A s E (Job.dueL day l)).1 := by unfold jrE; rw [if_neg (fun h => h hz), if_neg (fun h => h hp), if_neg (fun h => h hd)]
 have eR : jrV A E s l day = .tup [if (runB A s E (Job.dueL day l)).1 = 0 then .agg [.row 2 (A.map acV), .row 3 ((runB A s E (Job.dueL day l)).2.map enW), .int .i64 s] else .agg [.zero, .zero, .int .i64 0], .int .i64 (runB A s E (Job.dueL day l)).1] := by unfold jrV; rw [e0]; rfl
 rw [eR]
 generalize hL : Job.dueL day l = L at *
 obtain ⟨R, hR⟩ : ∃ R, R = runB A s E L := ⟨_, rfl⟩
 rw [← hR]
 refine evFn (l := [(72, at1 _ (_, [])), (39, dayF), (73, at1 _ (_, [.vec 28 3 (L.map enW)])), (14, PF)]) (nv := nv0) (fz := fz0) (dr := dr26) (dd := dd26) (lam := []) (ms := ms0) ⟨at1_snd hP, day_snd hJ, at1_snd hD, hPFs, trivial⟩ hJ trivial ms0_ok Tryz.func26 rfl rfl (Nat.le_of_ble_eq_true rfl) (Nat.le_of_ble_eq_true rfl) drOk26 ?_
 dsimp only [Tryz.f26, dr26, dd26, Option.getD_some]
 refine ev_start ?_
 simp (disch := omega) only [at1_eq, dayF_eq, hd', List.length_map, go_sem, evP_D, evD_guard, evD_cons, evD_zero, evD_nil]
 refine evQ_loop [3, 6, 24, 25, 26] [24, 48, 192] (fun σ => ∃ (k : Nat) (E' : List En), (k ≤ L.length ∧ bkChk A E' s = 0 ∧ runB A s E' (L.drop k) = R) ∧ σ = ⟨[(3, .ptr 24 0), (6, .ptr 48 0), (24, .vec 192), (25, .int .i64 L.length), (26, .int .i64 k)], [(24, .box (.agg [.row 2 (A.map acV), .row 3 (E'.map enW), .int .i64 s])), (48, .box (.agg [.zero, .zero, .int .i64 0])), (192, .vec 28 3 (L.map enW))]⟩)
  (fun σ => L.length - (match Ev.look 26 σ.env with | some (.int _ n) => n.toNat | _ => 0)) ?_ ?_
 ·simp only [go_sem, evP_D, evD_guard, evD_cons, evD_zero, evD_nil]
  exact ⟨0, E, ⟨Nat.zero_le _, hz, hR.symm⟩, rfl⟩
 ·rintro σ ⟨k, E', ⟨hk, hz', hrun⟩, rfl⟩
  by_cases hlt : k < L.length
  case neg =>
   have hk' : k = L.length := by omega
   subst hk'
   rw [List.drop_length, runB_nil] at hrun
   subst hrun
   have hlt' : ¬ ((L.length : Int) < L.length) := by omega
   simp (disch := (first | omega | assumption)) only [hlt', go_sem, evP_D, evD_guard, evD_cons, evD_zero, evD_nil]
  have hlt' : (k : Int) < L.length := by omega
  obtain ⟨⟨xk, xd, xl⟩, hx⟩ : ∃ x, L[k]? = some x := ⟨_, List.getElem?_eq_getElem hlt⟩
  have hg := enW_get hx
  have hxm := hsz _ (List.mem_of_getElem? hx)
  have hdr : L.drop k = (xk, xd, xl) :: L.drop (k + 1) := by
   obtain ⟨h1, h2⟩ := List.getElem?_eq_some_iff.1 hx
   rw [List.drop_eq_getElem_cons h1, h2]
  rw [hdr, runB_cons] at hrun
  have hPx := hPF E' (xk, xd, xl) hz' hxm.1 hxm.2
  unfold posR at hPx
  rw [enW_mk] at hPx
  have hms : L.length - ((k : Int) + 1).toNat < L.length - (k : Int).toNat := by
   have e3 : ((k : Int) + 1).toNat = k + 1 := by omega
   rw [e3, Int.toNat_natCast]; exact Nat.sub_lt_sub_left hlt (Nat.lt_succ_self k)
  by_cases h0 : postE A E' s (xk, xd, xl) = 0
  ·rw [if_pos h0] at hrun
   rw [h0, if_pos rfl] at hPx
   unfold bkV at hPx
   have hz2 := (postE_ok h0).2.2
   simp (disch := (first | omega | assumption)) only [hlt', idx_nat, List.length_map, hg, hPx, go_sem, evP_D, evD_guard, evD_cons, evD_zero, evD_nil]
   exact ⟨⟨k + 1, _, ⟨hlt, hz2, hrun⟩, rfl⟩, hms⟩
  ·rw [if_neg h0] at hrun
   rw [if_neg h0] at hPx
   unfold zbV at hPx
   subst hrun
   generalize postE A E' s (xk, xd, xl) = q at *
   simp (disch := (first | omega | assumption)) only [hlt', idx_nat, List.length_map, hg, hPx, h0, go_sem, evP_D, evD_guard, evD_cons, evD_zero, evD_nil]
end Go.Proofs.YtdmkmbaaemhhhaaGreatDoor
end
section
namespace Go.Proofs.YtdmkmbaaemhhhaaGreatDoor
open Go Go.Ev Go.RowKit Go.Acc
set_option maxHeartbeats 4000000
set_option maxRecDepth 20000 in
set_option maxHeartbeats 8000000 in
theorem jrun2 : SoundAt Tryz.prog Tab 25 [.agg [.zero, .zero, .int .i64 (-2)], .zero, .int .i64 0] (.tup [.agg [.zero, .zero, .int .i64 0], .int .i64 1]) [] := by
 have hJ := stableTab
 have hC := bcheck2 hJ
 refine evFn (l := [(11, at1 _ (_, []))]) (nv := nv0) (fz := fz0) (dr := dr25) (dd := dd25) (lam := []) (ms := ms0) ⟨at1_snd hC, trivial⟩ hJ trivial ms0_ok Tryz.func25 rfl rfl (Nat.le_of_ble_eq_true rfl) (Nat.le_of_ble_eq_true rfl) drOk25 ?_
 dsimp only [Tryz.f25, dr25, dd25, Option.getD_some]
 refine ev_start ?_
 simp (disch := omega) only [at1_eq, go_sem, evP_D, evD_guard, evD_cons, evD_zero, evD_nil]
theorem jr_ne2 (A : List (ByteArray × Int)) (E : List En) (s : Int) (l : List Job.Pl) (day : Int) : [V.agg [.zero, .zero, .int .i64 (-2)], .zero, .int .i64 0] ≠ [.agg [.row 2 (A.map acV), .row 3 (E.map enW), .int .i64 s], .row 7 (l.map Job.plV), .int .i64 day] := by
 intro h
 simp at h
set_option maxRecDepth 20000 in
set_option maxHeartbeats 16000000 in
theorem runs_law (A : List (ByteArray × Int)) (E : List En) (s : Int) (l : List Job.Pl) (day : Int) (hE : okEn E) (hks : ∀ p ∈ l, p.key.size ≤ maxLen) :
  SoundAt Tryz.prog Tab 6 [bkV A E s, .row 7 (l.map Job.plV), .int .i64 day] (.bool true) [] := by
 have hJ := stableTab
 have hR := jrun_sound A E s l day hE.1
 have hR2 := jrun2
 have hB := rbook_sound hJ A E s hE
 have hne := jr_ne2 A E s l day
 have tz : ∀ e, toldF [.agg [.zero, .zero, .int .i64 0], .int .i64 e, .agg [.zero, .zero, .int .i64 0], .int .i64 e] = some (.bool true, []) := fun e => toldF_eq (x := .zero) (x' := .zero) (y := .zero) (y' := .zero) (s := 0) (e := e) (A := []) (E := []) rfl rfl rfl rfl
 by_cases hz : bkChk A E s = 0
 case neg =>
  have e1 : jrE A E s l day = bkChk A E s := if_pos hz
  have eR : jrV A E s l day = .tup [.agg [.zero, .zero, .int .i64 0], .int .i64 (bkChk A E s)] := by unfold jrV; rw [e1, if_neg hz]; rfl
  rw [eR] at hR
  unfold bkV at hR hB ⊢
  generalize bkChk A E s = q at *
  have t1 := tz q
  refine evFn (l := [(25, at1 _ (_, [])), (10, at1 _ (_, [])), (12, toldF)]) (nv := nv0) (fz := fz0) (dr := dr6) (dd := dd6) (lam := []) (ms := ms0) ⟨at1_snd hR, at1_snd hB, told_snd hJ, trivial⟩ hJ trivial ms0_ok Tryz.func6 rfl rfl (Nat.le_of_ble_eq_true rfl) (Nat.le_of_ble_eq_true rfl) drOk6 ?_
  dsimp only [Tryz.f6, dr6, dd6, Option.getD_some]
  refine ev_start ?_
  simp (disch := omega) only [at1_eq, hz, t1, go_sem, evPd, evDg, evDc, evDz, evDn]
 have hRR := rrun_sound A E s l day hz hks
 rw [hz] at hB
 unfold jrV at hR hRR
 by_cases h0 : jrE A E s l day = 0
 ·rw [if_pos h0, h0] at hR hRR
  generalize (runB A s E (Job.dueL day l)).2 = E' at *
  have t1 := toldF_eq (s := s) (e := 0) (rowAc_row A) (rowAc_row A) (rowEn_row E') (rowEn_row E')
  unfold bkV at hR hB hRR ⊢
  have c1 := at2_l [V.agg [.row 2 (A.map acV), .row 3 (E.map enW), .int .i64 s], .row 7 (l.map Job.plV), .int .i64 day] (.tup [.agg [.row 2 (A.map acV), .row 3 (E'.map enW), .int .i64 s], .int .i64 0], []) [V.agg [.zero, .zero, .int .i64 (-2)], .zero, .int .i64 0] (.tup [.agg [.zero, .zero, .int .i64 0], .int .i64 1], [])
  have c2 := at2_r (r := (.tup [.agg [.row 2 (A.map acV), .row 3 (E'.map enW), .int .i64 s], .int .i64 0], [])) (q := (.tup [.agg [.zero, .zero, .int .i64 0], .int .i64 1], [])) hne
  refine evFn (l := [(25, at2 _ (.tup [.agg [.row 2 (A.map acV), .row 3 (E'.map enW), .int .i64 s], .int .i64 0], []) _ (.tup [.agg [.zero, .zero, .int .i64 0], .int .i64 1], [])), (10, at1 _ (_, [])), (26, at1 _ (_, [])), (12, toldF)]) (nv := nv0) (fz := fz0) (dr := dr6) (dd := dd6) (lam := []) (ms := ms0) ⟨at2_snd hR hR2, at1_snd hB, at1_snd hRR, told_snd hJ, trivial⟩ hJ trivial ms0_ok Tryz.func6 rfl rfl (Nat.le_of_ble_eq_true rfl) (Nat.le_of_ble_eq_true rfl) drOk6 ?_
  dsimp only [Tryz.f6, dr6, dd6, Option.getD_some]
  refine ev_start ?_
  simp (disch := omega) only [at1_eq, c1, c2, t1, go_sem, evPd, evDg, evDc, evDz, evDn]
 ·rw [if_neg h0] at hR hRR
  unfold zbV at hR hRR
  generalize jrE A E s l day = q at *
  have t1 := tz q
  unfold bkV at hR hB hRR ⊢
  have c1 := at2_l [V.agg [.row 2 (A.map acV), .row 3 (E.map enW), .int .i64 s], .row 7 (l.map Job.plV), .int .i64 day] (.tup [.agg [.zero, .zero, .int .i64 0], .int .i64 q], []) [V.agg [.zero, .zero, .int .i64 (-2)], .zero, .int .i64 0] (.tup [.agg [.zero, .zero, .int .i64 0], .int .i64 1], [])
  have c2 := at2_r (r := (.tup [.agg [.zero, .zero, .int .i64 0], .int .i64 q], [])) (q := (.tup [.agg [.zero, .zero, .int .i64 0], .int .i64 1], [])) hne
  refine evFn (l := [(25, at2 _ (.tup [.agg [.zero, .zero, .int .i64 0], .int .i64 q], []) _ (.tup [.agg [.zero, .zero, .int .i64 0], .int .i64 1], [])), (10, at1 _ (_, [])), (26, at1 _ (_, [])), (12, toldF)]) (nv := nv0) (fz := fz0) (dr := dr6) (dd := dd6) (lam := []) (ms := ms0) ⟨at2_snd hR hR2, at1_snd hB, at1_snd hRR, told_snd hJ, trivial⟩ hJ trivial ms0_ok Tryz.func6 rfl rfl (Nat.le_of_ble_eq_true rfl) (Nat.le_of_ble_eq_true rfl) drOk6 ?_
  dsimp only [Tryz.f6, dr6, dd6, Option.getD_some]
  refine ev_start ?_
  simp (disch := omega) only [at1_eq, c1, c2, t1, go_sem, evPd, evDg, evDc, evDz, evDn]
end Go.Proofs.YtdmkmbaaemhhhaaGreatDoor
end
section
namespace Go.Proofs.YtdmkmbaaemhhhaaGreatDoor
open Go Go.Ev Go.RowKit Go.Acc
set_option maxRecDepth 100000 in
theorem walkJobRuns (c0 : V) (h0 : TyV Tryz.prog 9 25 c0) (c1 : V) (h1 : TyV Tryz.prog 9 50 c1) (c2 : V) (h2 : TyV Tryz.prog 9 3 c2) :
  SoundAt Tryz.prog Tab 6 [c0, c1, c2] (.bool true) [] := by
 obtain ⟨A, E, s, rfl, hE⟩ := ty_book (m := 3) h0
 obtain ⟨es, rfl, he, hes⟩ := ty_slice (m := 8) h1 Tryz.underlying50
 have c3 : Tryz.prog.cellsOf 140 = 7 := by kernel_rfl
 obtain ⟨l, rfl, hl⟩ := map_of_all (f := Job.plV) (p := fun p => p.key.size ≤ maxLen) fun x hx => ty_plan (m := 6) (hes x hx)
 obtain ⟨n, rfl, _⟩ := ty_int (m := 8) h2 Tryz.underlying3
 rw [c3]
 exact runs_law A E s l n hE hl
end Go.Proofs.YtdmkmbaaemhhhaaGreatDoor
end
