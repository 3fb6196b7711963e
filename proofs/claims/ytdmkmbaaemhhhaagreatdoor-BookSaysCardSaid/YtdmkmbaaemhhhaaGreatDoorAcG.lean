/-
  Accounts, run by the machine: Find, Kind, Under.
-/
import Derived.Test.YtdmkmbaaemhhhaaGreatDoorAcF
namespace Go.Acc
open Go
theorem less_irr : ∀ x : List UInt8, Op.bytesLess x x = false
  | [] => rfl
  | a :: x => by simp only [Op.bytesLess, less_irr x, Bool.and_false, Bool.or_false]; exact decide_eq_false (fun h => by simp at h)
theorem less_trans : ∀ x y z : List UInt8, Op.bytesLess x y = true → Op.bytesLess y z = true → Op.bytesLess x z = true
  | _, [], _, h, _ => by simp [Op.bytesLess] at h
  | _, _ :: _, [], _, h => by simp [Op.bytesLess] at h
  | [], _ :: _, _ :: _, _, _ => rfl
  | a :: x, b :: y, c :: z, h1, h2 => by
    simp only [Op.bytesLess, Bool.or_eq_true, decide_eq_true_eq, Bool.and_eq_true, beq_iff_eq, UInt8.lt_iff_toNat_lt] at h1 h2 ⊢
    rcases h1 with h1 | ⟨rfl, h1⟩
    · rcases h2 with h2 | ⟨rfl, h2⟩
      · left; omega
      · left; exact h1
    · rcases h2 with h2 | ⟨rfl, h2⟩
      · left; exact h2
      · right; exact ⟨rfl, less_trans x y z h1 h2⟩
/-- of right accounts: kinds, and codes that rise -/
theorem acE_ok : ∀ (l : List (ByteArray × Int)) (p : Option ByteArray), acE p l = 0 → (∀ x ∈ l, 0 ≤ x.2 ∧ x.2 ≤ 4) ∧ (∀ q, p = some q → ∀ x ∈ l, Op.bytesLess q.toList x.1.toList = true) ∧ l.Pairwise fun x y => Op.bytesLess x.1.toList y.1.toList = true
  | [], _, _ => ⟨by simp, by simp, List.Pairwise.nil⟩
  | (c, n) :: l, p, h => by
    unfold acE at h
    by_cases h1 : codeOk c = false
    · rw [if_pos h1] at h; omega
    rw [if_neg h1] at h
    by_cases h2 : ¬ (0 ≤ n ∧ n ≤ 4)
    · rw [if_pos h2] at h; omega
    rw [if_neg h2] at h
    have h4 : acE (some c) l = 0 ∧ ∀ q, p = some q → Op.bytesLess q.toList c.toList = true := by
      cases p with
      | none =>
        simp only [Bool.false_eq_true, if_false] at h
        exact ⟨h, fun q hq => by cases hq⟩
      | some p =>
        cases hb : Op.bytesLess p.toList c.toList with
        | false => simp only [hb, Bool.not_false, if_true] at h; omega
        | true =>
          simp only [hb, Bool.not_true, Bool.false_eq_true, if_false] at h
          exact ⟨h, fun q hq => by cases hq; exact hb⟩
    obtain ⟨h4, hp⟩ := h4
    obtain ⟨a1, a2, a3⟩ := acE_ok l (some c) h4
    refine ⟨fun x hx => ?_, fun q hq x hx => ?_, List.Pairwise.cons (fun x hx => a2 c rfl x hx) a3⟩
    · rcases List.mem_cons.1 hx with rfl | hx
      · exact Decidable.not_not.1 h2
      · exact a1 x hx
    · rcases List.mem_cons.1 hx with rfl | hx
      · exact hp q hq
      · exact less_trans _ _ _ (hp q hq) (a2 c rfl x hx)
theorem ac_apart {l : List (ByteArray × Int)} (h : acChk l = 0) {i j : Nat} {x y : ByteArray × Int} (hx : l[i]? = some x) (hy : l[j]? = some y) (he : x.1 = y.1) : i = j := by
  have h0 : acE none l = 0 := by unfold acChk at h; split at h <;> first | omega | exact h
  have hp := (acE_ok l none h0).2.2
  obtain ⟨hi, rfl⟩ := List.getElem?_eq_some_iff.1 hx
  obtain ⟨hj, rfl⟩ := List.getElem?_eq_some_iff.1 hy
  rcases Nat.lt_trichotomy i j with hlt | rfl | hlt
  · have := List.pairwise_iff_getElem.1 hp i j hi hj hlt
    rw [he, less_irr] at this; cases this
  · rfl
  · have := List.pairwise_iff_getElem.1 hp j i hj hi hlt
    rw [he, less_irr] at this; cases this
def isC (code : ByteArray) (p : ByteArray × Int) : Bool := decide (p.1 = code)
def fidx (code : ByteArray) (l : List (ByteArray × Int)) : Int := if l.any (isC code) = true then ((l.findIdx (isC code) : Nat) : Int) else -1
/-- the kind of the last account of a code -/
def lastK (code : ByteArray) (l : List (ByteArray × Int)) : Nat → Int
  | 0 => -1
  | k + 1 => match l[k]? with
    | some p => if isC code p = true then p.2 else lastK code l k
    | none => lastK code l k
theorem lastK_none {code : ByteArray} {l : List (ByteArray × Int)} (h : l.any (isC code) = false) : ∀ k, lastK code l k = -1
  | 0 => rfl
  | k + 1 => by
    unfold lastK
    split
    · rename_i p hp
      have := List.any_eq_false.1 h p (List.mem_of_getElem? hp)
      rw [if_neg this]
      exact lastK_none h k
    · exact lastK_none h k
theorem lastK_some {code : ByteArray} {l : List (ByteArray × Int)} (hl : acChk l = 0) {i : Nat} {x : ByteArray × Int} (hx : l[i]? = some x) (hc : isC code x = true) : ∀ k, i < k → lastK code l k = x.2
  | 0, h => by omega
  | k + 1, h => by
    unfold lastK
    split
    · rename_i p hp
      split
      · rename_i hpc
        have : i = k := ac_apart hl hx hp (by simp only [isC, decide_eq_true_eq] at hc hpc; rw [hc, hpc])
        subst this
        rw [hx] at hp
        cases hp
        rfl
      · rename_i hpc
        by_cases e : i = k
        · subst e
          rw [hx] at hp
          cases hp
          exact absurd hc hpc
        · exact lastK_some hl hx hc k (by omega)
    · rename_i hn
      have := (List.getElem?_eq_some_iff.1 hx).1
      rw [List.getElem?_eq_none_iff] at hn
      exact lastK_some hl hx hc k (by omega)
def preB (code c : ByteArray) : Bool := decide (code.size ≤ c.size ∧ c.extract 0 code.size = code)
def undL (code : ByteArray) (l : List (ByteArray × Int)) : List ByteArray := (l.filter fun p => preB code p.1).map (·.1)
theorem undL_step {code : ByteArray} {l : List (ByteArray × Int)} {k : Nat} {c : ByteArray} {n : Int} (h : l[k]? = some (c, n)) : undL code (l.take (k + 1)) = undL code (l.take k) ++ if preB code c = true then [c] else [] := by
  obtain ⟨hk, he⟩ := List.getElem?_eq_some_iff.1 h
  rw [List.take_succ_eq_append_getElem hk, he]
  unfold undL
  rw [List.filter_append, List.map_append]
  congr 1
  cases hp : preB code c <;> simp [hp]
end Go.Acc
namespace Go.Proofs.YtdmkmbaaemhhhaaGreatDoor
open Go Go.Ev Go.RowKit Go.Acc
set_option maxHeartbeats 4000000
set_option linter.unusedSimpArgs false
set_option linter.unusedVariables false

theorem indexA_sound {J : World → Prop} (hJ : Stable J) (g : FuncId) (cs : List V) (G : List V → Option (V × List Blk)) (hG : Snd Tryz.prog J g G) (hd : V.dataL cs = true) (p : ByteArray × Int → Bool) (l : List (ByteArray × Int)) (hp : ∀ n ∈ l, G (acV n :: cs) = some (.bool (p n), [])) :
    SoundAt Tryz.prog J 117 [.row 2 (l.map acV), .fn g cs] (.int .i64 (if l.any p = true then ((l.findIdx p : Nat) : Int) else -1)) [] := by
  refine SoundAt.row 0 rfl (callOk Tryz.func117 rfl rfl) fun hlen => ?_
  simp only [maxLen, List.length_map] at hlen
  refine evFn (l := [(g, G)]) (nv := nv0) (fz := fz0) (dr := dr117) (dd := dd117) (lam := []) (ms := ms0) ⟨hG, trivial⟩ hJ trivial ms0_ok Tryz.func117 rfl rfl (Nat.le_of_ble_eq_true rfl) (Nat.le_of_ble_eq_true rfl) drOk117 ?_
  dsimp only [Tryz.f117, dr117, dd117, Option.getD_some]
  refine ev_start ?_
  simp (disch := omega) only [go_sem, evP_D, evD_guard, evD_cons, evD_zero, evD_nil]
  refine evQ_loop [0, 1, 7, 8] [] (fun σ => ∃ k : Nat, (k ≤ l.length ∧ ∀ i (h : i < l.length), i < k → p l[i] = false) ∧ σ = ⟨[(0, .row 2 (l.map acV)), (1, .fn g cs), (7, .int .i64 l.length), (8, .int .i64 k)], []⟩) (fun σ => l.length - (match Ev.look 8 σ.env with | some (.int _ n) => n.toNat | _ => 0)) ?_ ?_
  · simp only [go_sem, evP_D, evD_guard, evD_cons, evD_zero, evD_nil]
    exact ⟨refsInL_data hd, 0, ⟨Nat.zero_le _, fun _ _ h => by omega⟩, rfl⟩
  · rintro σ ⟨k, ⟨hk, hall⟩, rfl⟩
    by_cases hlt : k < l.length
    · have hlt' : (k : Int) < l.length := by omega
      have hg : (l.map acV)[k]? = some (.agg [.str l[k].1, .int .i64 l[k].2]) := acV_get (c := l[k].1) (n := l[k].2) (List.getElem?_eq_getElem hlt)
      have hpk := hp l[k] (List.getElem_mem hlt)
      simp only [acV] at hpk
      cases hb : p l[k] with
      | true =>
        rw [hb] at hpk
        have hany : l.any p = true := List.any_eq_true.2 ⟨l[k], List.getElem_mem hlt, hb⟩
        have hidx : l.findIdx p = k := (List.findIdx_eq hlt).2 ⟨hb, fun j hj => hall j (by omega) hj⟩
        simp (disch := (first | omega | assumption)) only [hlt', idx_nat, List.length_map, hg, hpk, hd, V.dataL, V.data, hany, hidx, go_sem, evP_D, evD_guard, evD_cons, evD_zero, evD_nil]
      | false =>
        rw [hb] at hpk
        simp (disch := (first | omega | assumption)) only [hlt', idx_nat, List.length_map, hg, hpk, hd, refsInL_data hd, scrubL_data hd, V.dataL, V.data, go_sem, evP_D, evD_guard, evD_cons, evD_zero, evD_nil]
        exact ⟨⟨k + 1, ⟨hlt, fun i hi hik => by
          by_cases e : i = k
          · subst e; exact hb
          · exact hall i hi (by omega)⟩, rfl⟩, by show l.length - ((k : Int) + 1).toNat < l.length - (k : Int).toNat; omega⟩
    · have hk' : k = l.length := by omega
      subst hk'
      have hlt' : ¬ ((l.length : Int) < l.length) := by omega
      have hany : l.any p = false := by
        rw [List.any_eq_false]
        intro x hx
        obtain ⟨i, hi, rfl⟩ := List.mem_iff_getElem.1 hx
        simp [hall i hi hi]
      simp (disch := (first | omega | assumption)) only [hlt', hany, go_sem, evP_D, evD_guard, evD_cons, evD_zero, evD_nil]
def find1F : List V → Option (V × List Blk)
  | [.agg [.str c, .int .i64 n], .rd (.str code) 0] => some (.bool (isC code (c, n)), [])
  | _ => none
theorem find1_snd {J : World → Prop} (hJ : Stable J) : Snd Tryz.prog J 118 find1F := by
  intro args r bs h
  unfold find1F at h
  split at h
  · rename_i c n code
    obtain ⟨rfl, rfl⟩ := some_pair h
    refine evFn (l := []) (nv := nv0) (fz := fz0) (dr := dr118) (dd := dd118) (lam := []) (ms := ms0) trivial hJ trivial ms0_ok Tryz.func118 rfl rfl (Nat.le_of_ble_eq_true rfl) (Nat.le_of_ble_eq_true rfl) drOk118 ?_
    dsimp only [Tryz.f118, dr118, dd118, Option.getD_some]
    refine ev_start ?_
    simp (disch := omega) only [bin_eql_str, isC, go_sem, evP_D, evD_guard, evD_cons, evD_zero, evD_nil]
  · cases h
theorem find_sound {J : World → Prop} (hJ : Stable J) (l : List (ByteArray × Int)) (code : ByteArray) : SoundAt Tryz.prog J 81 [.row 2 (l.map acV), .str code] (.int .i64 (fidx code l)) [] := by
  have hI := indexA_sound hJ 118 [.rd (.str code) 0] find1F (find1_snd hJ) rfl (isC code) l fun _ _ => rfl
  refine evFn (l := [(117, at1 [.row 2 (l.map acV), .fn 118 [.rd (.str code) 0]] (.int .i64 (fidx code l), []))]) (nv := nv0) (fz := fz0) (dr := dr81) (dd := dd81) (lam := []) (ms := ms0) ⟨at1_snd hI, trivial⟩ hJ trivial ms0_ok Tryz.func81 rfl rfl (Nat.le_of_ble_eq_true rfl) (Nat.le_of_ble_eq_true rfl) drOk81 ?_
  dsimp only [Tryz.f81, dr81, dd81, Option.getD_some]
  refine ev_start ?_
  simp (disch := omega) only [at1_eq, List.mapM_cons, List.mapM_nil, Option.bind_eq_bind, Option.pure_def, Option.bind_some, go_sem, evP_D, evD_guard, evD_cons, evD_zero, evD_nil]
def kindR (code : ByteArray) (l : List (ByteArray × Int)) : Int × Int := if acChk l = 0 then (if l.any (isC code) = true then ((l[l.findIdx (isC code)]?).elim 0 (·.2), 0) else (0, 4)) else (0, acChk l)
theorem kind_sound {J : World → Prop} (hJ : Stable J) (l : List (ByteArray × Int)) (code : ByteArray) : SoundAt Tryz.prog J 48 [.row 2 (l.map acV), .str code] (.tup [.int .i64 (kindR code l).1, .int .i64 (kindR code l).2]) [] := by
  refine SoundAt.row 0 rfl (callOk Tryz.func48 rfl rfl) fun hlen => ?_
  simp only [maxLen, List.length_map] at hlen
  refine evFn (l := [(41, chkF), (81, at1 [.row 2 (l.map acV), .str code] (.int .i64 (fidx code l), []))]) (nv := nv0) (fz := fz0) (dr := dr48) (dd := dd48) (lam := []) (ms := ms0) ⟨check_snd hJ, at1_snd (find_sound hJ l code), trivial⟩ hJ trivial ms0_ok Tryz.func48 rfl rfl (Nat.le_of_ble_eq_true rfl) (Nat.le_of_ble_eq_true rfl) drOk48 ?_
  dsimp only [Tryz.f48, dr48, dd48, Option.getD_some]
  refine ev_start ?_
  by_cases h : acChk l = 0
  · cases hany : l.any (isC code) with
    | true =>
      have e : fidx code l = ((l.findIdx (isC code) : Nat) : Int) := by unfold fidx; rw [if_pos hany]
      have hlt : l.findIdx (isC code) < l.length := List.findIdx_lt_length_of_exists (by
        obtain ⟨x, hx, hc⟩ := List.any_eq_true.1 hany
        exact ⟨x, hx, hc⟩)
      obtain ⟨⟨c, n⟩, hcn⟩ : ∃ p, l[l.findIdx (isC code)]? = some p := ⟨_, List.getElem?_eq_getElem hlt⟩
      have ek : kindR code l = (n, 0) := by unfold kindR; rw [if_pos h, if_pos hany, hcn]; rfl
      have hg := acV_get hcn
      have h0 : ¬ (((l.findIdx (isC code) : Nat) : Int) < 0) := by omega
      simp (disch := (first | omega | assumption)) only [chkF_eq, at1_eq, h, e, ek, h0, idx_nat, List.length_map, hg, go_sem, evP_D, evD_guard, evD_cons, evD_zero, evD_nil]
    | false =>
      have e : fidx code l = -1 := by unfold fidx; rw [hany]; rfl
      have ek : kindR code l = (0, 4) := by unfold kindR; rw [if_pos h, hany]; rfl
      simp (disch := omega) only [chkF_eq, at1_eq, h, e, ek, go_sem, evP_D, evD_guard, evD_cons, evD_zero, evD_nil]
  · have ek : kindR code l = (0, acChk l) := by unfold kindR; rw [if_neg h]
    simp (disch := omega) only [chkF_eq, at1_eq, h, ek, go_sem, evP_D, evD_guard, evD_cons, evD_zero, evD_nil]
def preF : List V → Option (V × List Blk)
  | [.str c, .str code] => some (.bool (preB code c), [])
  | _ => none
theorem preF_eq (c code : ByteArray) : preF [.str c, .str code] = some (.bool (preB code c), []) := rfl
theorem pre1_snd {J : World → Prop} (hJ : Stable J) : Snd Tryz.prog J 105 preF := by
  intro args r bs h
  unfold preF at h
  split at h
  · rename_i c code
    obtain ⟨rfl, rfl⟩ := some_pair h
    refine evFn (l := []) (nv := nv0) (fz := fz0) (dr := dr105) (dd := dd105) (lam := []) (ms := ms0) trivial hJ trivial ms0_ok Tryz.func105 rfl rfl (Nat.le_of_ble_eq_true rfl) (Nat.le_of_ble_eq_true rfl) drOk105 ?_
    dsimp only [Tryz.f105, dr105, dd105, Option.getD_some]
    refine ev_start ?_
    by_cases h1 : code.size ≤ c.size
    · have h1' : (c.size : Int) ≥ code.size := by omega
      have h2 : 0 ≤ (code.size : Int) ∧ (code.size : Int) ≤ c.size := by omega
      have e : preB code c = decide (c.extract 0 code.size = code) := by unfold preB; simp only [h1, true_and]
      simp (disch := omega) only [h1', h2, e, bin_eql_str, and_self, Int.toNat_natCast, go_sem, evP_D, evD_guard, evD_cons, evD_zero, evD_nil]
    · have h1' : ¬ (c.size : Int) ≥ code.size := by omega
      have e : preB code c = false := by unfold preB; simp only [h1, false_and, decide_false]
      simp (disch := omega) only [h1', e, go_sem, evP_D, evD_guard, evD_cons, evD_zero, evD_nil]
  · cases h
theorem pre_snd {J : World → Prop} (hJ : Stable J) : Snd Tryz.prog J 67 preF := by
  intro args r bs h
  unfold preF at h
  split at h
  · rename_i c code
    obtain ⟨rfl, rfl⟩ := some_pair h
    refine evFn (l := [(105, preF)]) (nv := nv0) (fz := fz0) (dr := dr67) (dd := dd67) (lam := []) (ms := ms0) ⟨pre1_snd hJ, trivial⟩ hJ trivial ms0_ok Tryz.func67 rfl rfl (Nat.le_of_ble_eq_true rfl) (Nat.le_of_ble_eq_true rfl) drOk67 ?_
    dsimp only [Tryz.f67, dr67, dd67, Option.getD_some]
    refine ev_start ?_
    simp (disch := omega) only [preF_eq, go_sem, evP_D, evD_guard, evD_cons, evD_zero, evD_nil]
  · cases h
end Go.Proofs.YtdmkmbaaemhhhaaGreatDoor
