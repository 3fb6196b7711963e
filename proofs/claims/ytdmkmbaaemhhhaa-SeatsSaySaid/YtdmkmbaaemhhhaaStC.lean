/-
  The library's stable sort at a comparison and a swap that are handed in, run by the machine: blocks, and the whole.
-/
import Derived.Test.YtdmkmbaaemhhhaaStB
namespace Go.Srt
set_option linter.unusedVariables false
section
variable {α : Type} [Inhabited α]
/-- a range that is permuted in itself, and sorted -/
def Ss (lt : α → α → Prop) (l : List α) (π : Nat → Nat) (x y : Nat) : Prop := (∀ k, x ≤ k → k < y → x ≤ π k ∧ π k < y) ∧ Srtd (Lt lt l) π x y
theorem Ss.nil {lt : α → α → Prop} {l : List α} {π : Nat → Nat} {x y : Nat} (h : y ≤ x) : Ss lt l π x y := ⟨fun k h1 h2 => by omega, fun p q h1 h2 h3 => by omega⟩
theorem Ss.congr {lt : α → α → Prop} {l : List α} {π ρ : Nat → Nat} {x y : Nat} (h : Ss lt l π x y) (e : ∀ k, x ≤ k → k < y → ρ k = π k) : Ss lt l ρ x y :=
  ⟨fun k h1 h2 => by rw [e k h1 h2]; exact h.1 k h1 h2, fun p q h1 h2 h3 => by rw [e p h1 (by omega), e q (by omega) h3]; exact h.2 p q h1 h2 h3⟩
theorem Srtd.mono_pos {lt : α → α → Prop} (hw : Swo lt) {l : List α} {π : Nat → Nat} {x y : Nat} (h : Srtd (Lt lt l) π x y) {p q : Nat} (hp : x ≤ p ∧ p < y) (hq : x ≤ q ∧ q < y) (h1 : ¬ lt (ge l (π p)) (ge l (π q))) (h2 : ¬ lt (ge l (π q)) (ge l (π p))) : p < q ↔ π p < π q := by
  have key : ∀ {p q : Nat}, x ≤ p → p < q → q < y → ¬ lt (ge l (π p)) (ge l (π q)) → π p < π q := fun hp hpq hq h1 => by
    rcases h _ _ hp hpq hq with h | h
    · exact (h1 h).elim
    · exact h.2
  constructor
  · intro hpq; exact key hp.1 hpq hq.2 h1
  · intro hpq
    rcases Nat.lt_trichotomy p q with h | h | h
    · exact h
    · subst h; omega
    · have := key hq.1 h hp.2 h2; omega
/-- one range is sorted, whatever it was, if what is alike stood in its old order -/
theorem sort_step {lt : α → α → Prop} (hw : Swo lt) {l : List α} {n a b : Nat} {π : Nat → Nat} (hπ : PermOn 0 n π) (hn : n ≤ l.length) (hb : b ≤ n) (hin : ∀ k, a ≤ k → k < b → a ≤ π k ∧ π k < b)
    (hm : ∀ x y, a ≤ x → x < b → a ≤ y → y < b → ¬ lt (ge l (π x)) (ge l (π y)) → ¬ lt (ge l (π y)) (ge l (π x)) → (x < y ↔ π x < π y)) :
    ∃ π', srtL lt (tb l π) a b = tb l π' ∧ PermOn 0 n π' ∧ Ss lt l π' a b ∧ ∀ k, ¬ (a ≤ k ∧ k < b) → π' k = π k := by
  have hρ := srt_permOn (Lt lt (tb l π)) a b
  have sρ := srt_sorted hw (tb l π) a b
  unfold srtL
  generalize srt (Lt lt (tb l π)) a b = ρ at *
  refine ⟨fun k => π (ρ k), tab_tab l π ρ (fun k hk => hρ.lt (by omega) hk), hπ.comp (hρ.mono (Nat.zero_le _) hb), ⟨fun k h1 h2 => ?_, fun p q h1 h2 h3 => ?_⟩, fun k hk => by show π (ρ k) = π k; rw [hρ.out hk]⟩
  · have := hρ.maps ⟨h1, h2⟩
    exact hin _ this.1 this.2
  · have mp := hρ.maps (k := p) ⟨h1, by omega⟩
    have mq := hρ.maps (k := q) ⟨by omega, h3⟩
    exact (Lt.tb (l := l) (π := π) (by omega) (by omega) (hm _ _ mp.1 mp.2 mq.1 mq.2)).1 (sρ p q h1 h2 h3)
/-- two sorted ranges side by side -/
theorem merge_step {lt : α → α → Prop} (hw : Swo lt) {l : List α} {n a m b : Nat} {π : Nat → Nat} (hπ : PermOn 0 n π) (hn : n ≤ l.length) (h1 : a ≤ m) (h2 : m ≤ b) (hb : b ≤ n) (s1 : Ss lt l π a m) (s2 : Ss lt l π m b) :
    NonDec lt (tb l π) a m ∧ NonDec lt (tb l π) m b ∧ ∃ π', srtL lt (tb l π) a b = tb l π' ∧ PermOn 0 n π' ∧ Ss lt l π' a b ∧ ∀ k, ¬ (a ≤ k ∧ k < b) → π' k = π k := by
  have nd : ∀ {x y : Nat}, y ≤ n → Ss lt l π x y → NonDec lt (tb l π) x y := fun hy s p q hp hpq hq => by
    rw [ge_tab l _ (by omega), ge_tab l _ (by omega)]
    exact Lt.not hw (s.2 p q hp hpq hq)
  refine ⟨nd (by omega) s1, nd hb s2, sort_step hw hπ hn hb (fun k k1 k2 => ?_) fun x y x1 x2 y1 y2 g1 g2 => ?_⟩
  · by_cases hk : k < m
    · have := s1.1 k k1 hk; omega
    · have := s2.1 k (by omega) k2; omega
  · by_cases hx : x < m <;> by_cases hy : y < m
    · exact Srtd.mono_pos hw s1.2 ⟨x1, hx⟩ ⟨y1, hy⟩ g1 g2
    · have := s1.1 x x1 hx; have := s2.1 y (by omega) y2; omega
    · have := s2.1 x (by omega) x2; have := s1.1 y y1 hy; omega
    · exact Srtd.mono_pos hw s2.2 ⟨by omega, x2⟩ ⟨by omega, y2⟩ g1 g2
/-- all blocks of a size are sorted -/
def Bs (lt : α → α → Prop) (l : List α) (n B : Nat) (π : Nat → Nat) : Prop := PermOn 0 n π ∧ ∀ c, Ss lt l π (B * c) (min (B * (c + 1)) n)
theorem Bs.done {lt : α → α → Prop} (hw : Swo lt) {l : List α} {B : Nat} {π : Nat → Nat} (h : Bs lt l l.length B π) (hB : l.length ≤ B) : tb l π = srtL lt l 0 l.length := by
  have := h.2 0
  rw [Nat.mul_zero, show min (B * (0 + 1)) l.length = l.length by omega] at this
  exact (srtL_eq hw h.1 this.2).symm
/-- the blocks ahead are sorted, the others as they were -/
def Is (lt : α → α → Prop) (l : List α) (n B i : Nat) (π : Nat → Nat) : Prop := PermOn 0 n π ∧ (∀ c, c < i → Ss lt l π (B * c) (B * (c + 1))) ∧ ∀ k, B * i ≤ k → π k = k
theorem mul_lt_of {B c i : Nat} (h : c < i) : B * (c + 1) ≤ B * i := Nat.mul_le_mul_left _ h
theorem Is.zero (lt : α → α → Prop) (l : List α) (n B : Nat) : Is lt l n B 0 (fun k => k) := ⟨.id _ _, fun c h => by omega, fun _ _ => rfl⟩
theorem Is.step {lt : α → α → Prop} (hw : Swo lt) {l : List α} {n B i e : Nat} {π : Nat → Nat} (h : Is lt l n B i π) (hn : n ≤ l.length) (he : e ≤ n) :
    ∃ π', srtL lt (tb l π) (B * i) e = tb l π' ∧ PermOn 0 n π' ∧ Ss lt l π' (B * i) e ∧ (∀ c, c < i → Ss lt l π' (B * c) (B * (c + 1))) ∧ ∀ k, B * i ≤ k → e ≤ k → π' k = k := by
  obtain ⟨h1, h2, h3⟩ := h
  obtain ⟨π', e1, e2, e3, e4⟩ := sort_step hw (a := B * i) (b := e) h1 hn he (fun k k1 k2 => by rw [h3 k k1]; exact ⟨k1, k2⟩) (fun x y x1 _ y1 _ _ _ => by rw [h3 x x1, h3 y y1])
  refine ⟨π', e1, e2, e3, fun c hc => (h2 c hc).congr fun k k1 k2 => e4 k ?_, fun k k1 k2 => by rw [e4 k (by omega), h3 k k1]⟩
  have := mul_lt_of (B := B) hc
  omega
theorem Is.next {lt : α → α → Prop} {l : List α} {n B i : Nat} {π : Nat → Nat} (h1 : PermOn 0 n π) (h2 : Ss lt l π (B * i) (B * i + B)) (h3 : ∀ c, c < i → Ss lt l π (B * c) (B * (c + 1))) (h4 : ∀ k, B * i ≤ k → B * i + B ≤ k → π k = k) : Is lt l n B (i + 1) π := by
  refine ⟨h1, fun c hc => ?_, fun k hk => h4 k ?_ ?_⟩
  · by_cases e : c = i
    · subst e; rw [Nat.mul_succ]; exact h2
    · exact h3 c (by omega)
  · rw [Nat.mul_succ] at hk; omega
  · rw [Nat.mul_succ] at hk; omega
theorem Is.blocks {lt : α → α → Prop} {l : List α} {n B i : Nat} {π : Nat → Nat} (h1 : PermOn 0 n π) (h2 : Ss lt l π (B * i) n) (h3 : ∀ c, c < i → Ss lt l π (B * c) (B * (c + 1))) (hi : B * i ≤ n) (hn : n < B * i + B) : Bs lt l n B π := by
  refine ⟨h1, fun c => ?_⟩
  rcases Nat.lt_trichotomy c i with h | h | h
  · have := mul_lt_of (B := B) h
    rw [show min (B * (c + 1)) n = B * (c + 1) by omega]
    exact h3 c h
  · subst h
    rw [Nat.mul_succ, show min (B * c + B) n = n by omega]
    exact h2
  · have := mul_lt_of (B := B) h
    rw [Nat.mul_succ] at this
    exact Ss.nil (by omega)
/-- pairs of blocks ahead are merged -/
def Ms (lt : α → α → Prop) (l : List α) (n B i : Nat) (π : Nat → Nat) : Prop := PermOn 0 n π ∧ (∀ c, c < i → Ss lt l π (2 * B * c) (2 * B * (c + 1))) ∧ ∀ c, 2 * i ≤ c → Ss lt l π (B * c) (min (B * (c + 1)) n)
theorem Ms.zero {lt : α → α → Prop} {l : List α} {n B : Nat} {π : Nat → Nat} (h : Bs lt l n B π) : Ms lt l n B 0 π := ⟨h.1, fun c h => by omega, fun c _ => h.2 c⟩
theorem two_mul' (B i : Nat) : B * (2 * i) = 2 * B * i := by rw [Nat.mul_left_comm, Nat.mul_assoc]
theorem twoB1 (B i : Nat) : B * (2 * i + 1) = 2 * B * i + B := by rw [Nat.mul_succ, two_mul']
theorem twoB2 (B i : Nat) : B * (2 * i + 1 + 1) = 2 * B * i + 2 * B := by rw [Nat.mul_succ, twoB1]; omega
theorem Ms.step {lt : α → α → Prop} (hw : Swo lt) {l : List α} {n B i : Nat} {π : Nat → Nat} (h : Ms lt l n B i π) (hn : n ≤ l.length) (he : 2 * B * i + 2 * B ≤ n) :
    NonDec lt (tb l π) (2 * B * i) (2 * B * i + B) ∧ NonDec lt (tb l π) (2 * B * i + B) (2 * B * i + 2 * B) ∧ ∃ π', srtL lt (tb l π) (2 * B * i) (2 * B * i + 2 * B) = tb l π' ∧ Ms lt l n B (i + 1) π' := by
  obtain ⟨h1, h2, h3⟩ := h
  have s1 := h3 (2 * i) (Nat.le_refl _)
  have s2 := h3 (2 * i + 1) (by omega)
  rw [Nat.mul_succ, two_mul', show min (2 * B * i + B) n = 2 * B * i + B by omega] at s1
  rw [twoB1, twoB2, show min (2 * B * i + 2 * B) n = 2 * B * i + 2 * B by omega] at s2
  obtain ⟨n1, n2, π', e1, e2, e3, e4⟩ := merge_step hw h1 hn (by omega) (by omega) he s1 s2
  refine ⟨n1, n2, π', e1, e2, fun c hc => ?_, fun c hc => (h3 c (by omega)).congr fun k k1 k2 => e4 k ?_⟩
  · by_cases e : c = i
    · subst e; rw [Nat.mul_succ]; exact e3
    · refine (h2 c (by omega)).congr fun k k1 k2 => e4 k ?_
      have := mul_lt_of (B := 2 * B) (show c < i by omega)
      omega
  · have : B * (2 * (i + 1)) ≤ B * c := Nat.mul_le_mul_left _ hc
    rw [two_mul', Nat.mul_succ] at this
    omega
theorem Ms.end1 {lt : α → α → Prop} {l : List α} {n B i : Nat} {π : Nat → Nat} (h : Ms lt l n B i π) (hi : 2 * B * i ≤ n) (he : n ≤ 2 * B * i + B) (hB : 0 < B) : Bs lt l n (2 * B) π := by
  obtain ⟨h1, h2, h3⟩ := h
  have s1 := h3 (2 * i) (Nat.le_refl _)
  rw [Nat.mul_succ, two_mul', show min (2 * B * i + B) n = n by omega] at s1
  exact Is.blocks h1 s1 h2 hi (by omega)
theorem Ms.end2 {lt : α → α → Prop} (hw : Swo lt) {l : List α} {n B i : Nat} {π : Nat → Nat} (h : Ms lt l n B i π) (hn : n ≤ l.length) (he : 2 * B * i + B < n) (he2 : n < 2 * B * i + 2 * B) :
    NonDec lt (tb l π) (2 * B * i) (2 * B * i + B) ∧ NonDec lt (tb l π) (2 * B * i + B) n ∧ ∃ π', srtL lt (tb l π) (2 * B * i) n = tb l π' ∧ Bs lt l n (2 * B) π' := by
  obtain ⟨h1, h2, h3⟩ := h
  have s1 := h3 (2 * i) (Nat.le_refl _)
  have s2 := h3 (2 * i + 1) (by omega)
  rw [Nat.mul_succ, two_mul', show min (2 * B * i + B) n = 2 * B * i + B by omega] at s1
  rw [twoB1, twoB2, show min (2 * B * i + 2 * B) n = n by omega] at s2
  obtain ⟨n1, n2, π', e1, e2, e3, e4⟩ := merge_step hw h1 hn (by omega) (by omega) (Nat.le_refl _) s1 s2
  refine ⟨n1, n2, π', e1, Is.blocks e2 e3 (fun c hc => (h2 c hc).congr fun k k1 k2 => e4 k ?_) (by omega) (by omega)⟩
  have := mul_lt_of (B := 2 * B) hc
  omega
end
end Go.Srt
namespace Go.Proofs.Ytdmkmbaaemhhhaa
open Go Go.Ev Go.RowKit Go.Sort Go.So Go.Srt
set_option maxHeartbeats 4000000
set_option linter.unusedSimpArgs false
set_option linter.unusedVariables false

section
variable {J : World → Prop} (hJ : Stable J) {α : Type} [Inhabited α] (S : So Try.prog J famT α) {lt : α → α → Prop} (hlt : ∀ x y, S.lt x y = true ↔ lt x y) (hw : Swo lt)
theorem nat_mul (a b : Nat) : ((a * b : Nat) : Int) = (a : Int) * b := Int.natCast_mul a b
set_option maxHeartbeats 8000000 in
include hJ hlt hw in
theorem stableS (l : List α) (hl : l.length ≤ 1000000) :
    MutAt Try.prog J 30 (S.kl l) [S.dV, .int .i64 l.length] (.tup []) (S.kl (srtL lt l 0 l.length)) := by
  have hlte : (fun x y => S.lt x y = true) = lt := funext fun x => funext fun y => propext (hlt x y)
  obtain ⟨F, hF, sF⟩ := famL2 S (f := 41) (fun l a b => b ≤ l.length ∧ a ≤ l.length ∧ l.length ≤ 1000000) (fun l a b => srtL lt l a b) (fun l a b h => by
    have := insS hJ S (by rw [hlte]; exact hw) l a b h.1 h.2.1 h.2.2
    rwa [hlte] at this)
  obtain ⟨G, hG, sG⟩ := famL3 S (f := 42) (fun l a m b => a < m ∧ m < b ∧ b ≤ l.length ∧ l.length ≤ 1000000 ∧ NonDec lt l a m ∧ NonDec lt l m b) (fun l a m b => srtL lt l a b) (fun l a m b h => symS hJ S hlt hw (b - a + 1) l a m b (by omega) h.1 h.2.1 h.2.2.1 h.2.2.2.1 h.2.2.2.2.1 h.2.2.2.2.2)
  have hend := S.klLone (srtL lt l 0 l.length)
  obtain ⟨n, hn⟩ : ∃ n, n = l.length := ⟨_, rfl⟩
  unfold So.dV
  unfold So.kl
  rw [← hn] at hend hl ⊢
  refine evMut (l := []) (nv := nv0) (fz := fz0) (dr := dr30) (dd := dd30) (lam := []) (ms := ⟨[(41, F), (42, G)], lnL [(15, [1000000, 1000001]), (23, [1000000, 1000001]), (38, [1000000, 1000001]), (54, [1000000, 1000001])], []⟩) trivial hJ trivial ⟨⟨sF, sG, trivial⟩, trivial⟩ Try.func30 rfl rfl (Nat.le_of_ble_eq_true rfl) (Nat.le_of_ble_eq_true rfl) drOk30 rfl rfl ?_ ?_
  rotate_left
  dsimp only [Try.f30, dr30, dd30, Option.getD_some]
  refine ev_start ?_
  · simp (disch := omega) only [go_sem, evP_D, evD_guard, evD_cons, evD_zero, evD_nil]
    refine evQ_loop [1, 2, 4, 5, 6] [1000000, 1000001, 16] (fun σ => ∃ (k : Nat) (π : Nat → Nat), (20 * k ≤ n ∧ Is lt l n 20 k π) ∧
      σ = ⟨[(1, .int .i64 n), (2, .ptr 16 0), (4, .int .i64 20), (5, .int .i64 ((20 * k : Nat) : Int)), (6, .int .i64 ((20 * k + 20 : Nat) : Int))], [(1000000, .vec S.T S.sz ((tb l π).map S.enc)), (1000001, .box S.bv), (16, .box (.agg [.fn S.lf [.ptr 1000001 0], .fn S.sf [.vec 1000000, .raw S.hd]]))]⟩)
      (fun σ => n + 20 - (match Ev.look 6 σ.env with | some (.int _ n) => n.toNat | _ => 0)) ?_ ?_
    · simp only [S.br, go_sem, evP_D, evD_guard, evD_cons, evD_zero, evD_nil]
      exact ⟨0, fun k => k, ⟨Nat.zero_le _, .zero _ _ _ _⟩, by rw [tab_id]; rfl⟩
    · rintro σ ⟨k, π, ⟨hk, hI⟩, rfl⟩
      by_cases hle : 20 * k + 20 ≤ n
      · have hle' : ((20 * k + 20 : Nat) : Int) ≤ n := by omega
        obtain ⟨π', p1, p2, p3, p4, p5⟩ := hI.step hw (e := 20 * k + 20) (by omega) hle
        have hp := hF (tb l π) (20 * k) (20 * k + 20) ⟨by rw [tab_len]; omega, by rw [tab_len]; omega, by rw [tab_len]; omega⟩
        rw [p1] at hp
        have y1 : 20 * k + 20 < n + 20 := by omega
        have y2 : 20 * k + 20 < 20 * (k + 1) + 20 := by omega
        have e1 : ((20 * k + 20 : Nat) : Int) + 20 = ((20 * (k + 1) + 20 : Nat) : Int) := by omega
        simp (disch := (first | assumption | omega)) only [hle', e1, hp, S.allL, S.bmv, S.bbk, S.bl, S.br, go_sem, evP_D, evD_guard, evD_cons, evD_zero, evD_nil]
        exact ⟨⟨k + 1, π', ⟨by omega, .next p2 p3 p4 p5⟩, rfl⟩, by simp only [Int.toNat_natCast]; exact Nat.sub_lt_sub_left y1 y2⟩
      · have hle' : ¬ ((20 * k + 20 : Nat) : Int) ≤ n := by omega
        obtain ⟨π', p1, p2, p3, p4, p5⟩ := hI.step hw (e := n) (by omega) (Nat.le_refl _)
        have hp := hF (tb l π) (20 * k) n ⟨by rw [tab_len]; omega, by rw [tab_len]; omega, by rw [tab_len]; omega⟩
        rw [p1] at hp
        have hB : Bs lt l n 20 π' := Is.blocks p2 p3 p4 hk (by omega)
        simp (disch := (first | assumption | omega)) only [hle', hp, S.allL, S.bmv, S.bbk, S.bl, S.br, go_sem, evP_D, evD_guard, evD_cons, evD_zero, evD_nil]
        clear hp p1 p2 p3 p4 p5 hI
        refine evQ_loop [1, 2, 4] [1000000, 1000001, 16] (fun σ => ∃ (B : Nat) (π : Nat → Nat), (20 ≤ B ∧ B ≤ 2000000 ∧ Bs lt l n B π) ∧
          σ = ⟨[(1, .int .i64 n), (2, .ptr 16 0), (4, .int .i64 B)], [(1000000, .vec S.T S.sz ((tb l π).map S.enc)), (1000001, .box S.bv), (16, .box (.agg [.fn S.lf [.ptr 1000001 0], .fn S.sf [.vec 1000000, .raw S.hd]]))]⟩)
          (fun σ => n - (match Ev.look 4 σ.env with | some (.int _ n) => n.toNat | _ => 0)) ?_ ?_
        · simp only [S.br, go_sem, evP_D, evD_guard, evD_cons, evD_zero, evD_nil]
          exact ⟨20, π', ⟨by omega, by omega, hB⟩, rfl⟩
        · clear hB π' hk hle hle' k π
          rintro σ ⟨B, π, ⟨hB0, hB1, hB⟩, rfl⟩
          by_cases hlt1 : B < n
          case neg =>
            have hlt' : ¬ (B : Int) < n := by omega
            have hfin : tb l π = srtL lt l 0 n := by rw [hn] at hB ⊢; exact hB.done hw (by omega)
            rw [hfin]
            simp (disch := omega) only [hlt', go_sem, evP_D, evD_guard, evD_cons, evD_zero, evD_nil]
          have hlt' : (B : Int) < n := by omega
          have e2B : (2 : Int) * B = ((2 * B : Nat) : Int) := by omega
          have eB2 : (B : Int) * 2 = ((2 * B : Nat) : Int) := by omega
          simp (disch := omega) only [hlt', e2B, go_sem, evP_D, evD_guard, evD_cons, evD_zero, evD_nil]
          refine evQ_loop [1, 2, 4, 5, 6] [1000000, 1000001, 16] (fun σ => ∃ (a : Nat) (π : Nat → Nat), (a ≤ n ∧ ∃ i, a = 2 * B * i ∧ Ms lt l n B i π) ∧
            σ = ⟨[(1, .int .i64 n), (2, .ptr 16 0), (4, .int .i64 B), (5, .int .i64 a), (6, .int .i64 ((a + 2 * B : Nat) : Int))], [(1000000, .vec S.T S.sz ((tb l π).map S.enc)), (1000001, .box S.bv), (16, .box (.agg [.fn S.lf [.ptr 1000001 0], .fn S.sf [.vec 1000000, .raw S.hd]]))]⟩)
            (fun σ => n + 2 * B - (match Ev.look 6 σ.env with | some (.int _ n) => n.toNat | _ => 0)) ?_ ?_
          · simp only [S.br, go_sem, evP_D, evD_guard, evD_cons, evD_zero, evD_nil]
            exact ⟨0, π, ⟨Nat.zero_le _, 0, rfl, .zero hB⟩, by rw [Nat.zero_add]; rfl⟩
          · clear hB
            rintro σ ⟨a, π, ⟨ha, i, hai, hM⟩, rfl⟩
            have eaB : (a : Int) + B = ((a + B : Nat) : Int) := by omega
            by_cases hle : a + 2 * B ≤ n
            · have hle' : ((a + 2 * B : Nat) : Int) ≤ n := by omega
              obtain ⟨n1, n2, π', p1, p2⟩ := hM.step hw (by omega) (by omega)
              rw [← hai] at n1 n2 p1
              have hp := hG (tb l π) a (a + B) (a + 2 * B) ⟨by omega, by omega, by rw [tab_len]; omega, by rw [tab_len]; omega, n1, n2⟩
              rw [p1] at hp
              have y1 : a + 2 * B < n + 2 * B := by omega
              have y2 : a + 2 * B < a + 2 * B + 2 * B := by omega
              have e1 : ((a + 2 * B : Nat) : Int) + ((2 * B : Nat) : Int) = ((a + 2 * B + 2 * B : Nat) : Int) := by omega
              simp (disch := (first | assumption | omega)) only [hle', e1, eaB, e2B, hp, S.allL, S.bmv, S.bbk, S.bl, S.br, go_sem, evP_D, evD_guard, evD_cons, evD_zero, evD_nil]
              exact ⟨⟨a + 2 * B, π', ⟨by omega, i + 1, by rw [Nat.mul_succ, ← hai], p2⟩, rfl⟩, by simp only [Int.toNat_natCast]; exact Nat.sub_lt_sub_left y1 y2⟩
            · have hle' : ¬ ((a + 2 * B : Nat) : Int) ≤ n := by omega
              have y1 : n - (2 * B) < n - B := by omega
              by_cases hmn : a + B < n
              · have hmn' : ((a + B : Nat) : Int) < n := by omega
                obtain ⟨n1, n2, π', p1, p2⟩ := hM.end2 hw (by omega) (by omega) (by omega)
                rw [← hai] at n1 n2 p1
                have hp := hG (tb l π) a (a + B) n ⟨by omega, by omega, by rw [tab_len]; omega, by rw [tab_len]; omega, n1, n2⟩
                rw [p1] at hp
                simp (disch := (first | assumption | omega)) only [hle', hmn', eaB, eB2, hp, S.allL, S.bmv, S.bbk, S.bl, S.br, go_sem, evP_D, evD_guard, evD_cons, evD_zero, evD_nil]
                exact ⟨⟨2 * B, π', ⟨by omega, by omega, p2⟩, rfl⟩, by simp only [Int.toNat_natCast]; exact y1⟩
              · have hmn' : ¬ ((a + B : Nat) : Int) < n := by omega
                have p2 := hM.end1 (by omega) (by omega) (by omega)
                simp (disch := (first | assumption | omega)) only [hle', hmn', eaB, eB2, S.allL, S.bmv, S.bbk, S.bl, S.br, go_sem, evP_D, evD_guard, evD_cons, evD_zero, evD_nil]
                exact ⟨⟨2 * B, π, ⟨by omega, by omega, p2⟩, rfl⟩, by simp only [Int.toNat_natCast]; exact y1⟩
  · exact hend
end
end Go.Proofs.Ytdmkmbaaemhhhaa
