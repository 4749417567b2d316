/- Distances in plain Lean: by detours, by layers. Conditions: none. -/
import Derived.Test.YtbbdiondhnmnaaaDoorSpanMany19
namespace Go.Proofs.YtbbdiondhnmnaaaDoor
open Go.RowKit

/-- A walk of so many steps. -/
inductive Wn (R : Nat → Nat → Prop) (i : Nat) : Nat → Nat → Prop where
  | start : Wn R i 0 i
  | step {m c j : Nat} : Wn R i m c → R c j → Wn R i (m + 1) j
theorem Wn.cat {R : Nat → Nat → Prop} {i c : Nat} {m : Nat} (h : Wn R i m c) : ∀ {m' j : Nat}, Wn R c m' j → Wn R i (m + m') j
  | _, _, .start => h
  | _, _, .step h1 h2 => (h.cat h1).step h2
/-- A walk whose inner nodes lie below k. -/
inductive Wi (R : Nat → Nat → Prop) (k : Nat) : Nat → Nat → Nat → Prop where
  | here (i : Nat) : Wi R k 0 i i
  | edge {i j : Nat} : R i j → Wi R k 1 i j
  | cat {m m' i c j : Nat} : Wi R k m i c → c < k → Wi R k m' c j → Wi R k (m + m') i j
theorem Wi.part {R : Nat → Nat → Prop} {k m i j : Nat} (h : Wi R (k + 1) m i j) : Wi R k m i j ∨ ∃ m1 m2, Wi R k m1 i k ∧ Wi R k m2 k j ∧ m1 + m2 ≤ m := by
  induction h with
  | here i => exact .inl (.here i)
  | edge h => exact .inl (.edge h)
  | @cat m m' i c j h1 hc h2 ih1 ih2 =>
    rcases ih1 with a | ⟨a1, a2, x1, x2, x3⟩
    · rcases ih2 with b | ⟨b1, b2, y1, y2, y3⟩
      · by_cases hck : c = k
        · subst hck
          exact .inr ⟨m, m', a, b, Nat.le_refl _⟩
        · exact .inl (.cat a (by omega) b)
      · by_cases hck : c = k
        · subst hck
          exact .inr ⟨m, b2, a, y2, by omega⟩
        · exact .inr ⟨m + b1, b2, .cat a (by omega) y1, y2, by omega⟩
    · rcases ih2 with b | ⟨b1, b2, y1, y2, y3⟩
      · by_cases hck : c = k
        · subst hck
          exact .inr ⟨a1, m', x1, b, by omega⟩
        · exact .inr ⟨a1, a2 + m', x1, .cat x2 (by omega) b, by omega⟩
      · exact .inr ⟨a1, b2, x1, y2, by omega⟩
theorem Wn.inner {R : Nat → Nat → Prop} {N : Nat} (hR : ∀ c j, R c j → c < N ∧ j < N) {i : Nat} : ∀ {m j : Nat}, Wn R i m j → Wi R N m i j
  | _, _, .start => .here i
  | _, _, .step h1 h2 => .cat (h1.inner hR) (hR _ _ h2).1 (.edge h2)

/-! Distances: -1, or the least length of a walk. -/
def DistIs (R : Nat → Nat → Prop) (i j : Nat) (d : Int) : Prop := (d = -1 ∧ ∀ m, ¬ Wn R i m j) ∨ ∃ m : Nat, d = m ∧ Wn R i m j ∧ ∀ m', Wn R i m' j → m ≤ m'
theorem DistIs.same {R : Nat → Nat → Prop} {i j : Nat} {d d' : Int} (h : DistIs R i j d) (h' : DistIs R i j d') : d = d' := by
  rcases h with ⟨rfl, h1⟩ | ⟨m, rfl, h1, h2⟩
  · rcases h' with ⟨rfl, _⟩ | ⟨m', rfl, k1, _⟩
    · rfl
    · exact (h1 _ k1).elim
  · rcases h' with ⟨rfl, k1⟩ | ⟨m', rfl, k1, k2⟩
    · exact (k1 _ h1).elim
    · have := h2 _ k1
      have := k2 _ h1
      omega
theorem DistIs.pos {R : Nat → Nat → Prop} {i j : Nat} {d : Int} (h : DistIs R i j d) : 0 ≤ d ↔ ∃ m, Wn R i m j := by
  rcases h with ⟨rfl, h1⟩ | ⟨m, rfl, h1, _⟩
  · exact ⟨fun h => by omega, fun ⟨m, h⟩ => (h1 _ h).elim⟩
  · exact ⟨fun _ => ⟨m, h1⟩, fun _ => by omega⟩

/-! By detours. -/
def Cmp (R : Nat → Nat → Prop) (k : Nat) (M : Nat → Nat → Int) (i j : Nat) : Prop := ∀ m, Wi R k m i j → 0 ≤ M i j ∧ M i j ≤ m
/-- What the loop's test says; what is stored. -/
def betterB (a b x : Int) : Bool := decide (0 ≤ a) && decide (0 ≤ b) && (decide (x < 0) || decide (a + b < x))
def upd (M : Nat → Nat → Int) (i j : Nat) (x : Int) : Nat → Nat → Int := fun i' j' => if i' = i ∧ j' = j then x else M i' j'
theorem upd_same (M : Nat → Nat → Int) (i j : Nat) (x : Int) : upd M i j x i j = x := by simp [upd]
theorem upd_other (M : Nat → Nat → Int) {i j i' j' : Nat} (x : Int) (h : ¬ (i' = i ∧ j' = j)) : upd M i j x i' j' = M i' j' := by unfold upd; rw [if_neg h]
/-- The state as the pairs ahead of (i, j) of the turn k are done. -/
structure Flo (R : Nat → Nat → Prop) (N : Nat) (k i j : Nat) (M : Nat → Nat → Int) : Prop where
  snd : ∀ a b, a < N → b < N → M a b = -1 ∨ ∃ m : Nat, M a b = m ∧ Wn R a m b
  all : ∀ a b, a < N → b < N → Cmp R k M a b
  done : ∀ a b, a < N → b < N → (a < i ∨ a = i ∧ b < j) → Cmp R (k + 1) M a b
  bnd : ∀ a b, a < N → b < N → M a b ≤ 2 * 2 ^ k
  cross : k < N → ∀ a, a < N → M a k ≤ 2 ^ k ∧ M k a ≤ 2 ^ k
theorem Flo.le {R : Nat → Nat → Prop} {N k i j : Nat} {M : Nat → Nat → Int} (h : Flo R N k i j M) (hN : N ≤ 10) (hk : k < N) {a b : Nat} (ha : a < N) (hb : b < N) : -1 ≤ M a b ∧ M a b ≤ 1024 := by
  have h1 : (2 : Nat) ^ k ≤ 2 ^ 9 := Nat.pow_le_pow_right (by omega) (by omega)
  have h2 := h.bnd a b ha hb
  have h3 : ((2 : Int) ^ k) = ((2 ^ k : Nat) : Int) := by simp
  rw [h3] at h2
  refine ⟨?_, by omega⟩
  rcases h.snd a b ha hb with e | ⟨m, e, _⟩ <;> omega
theorem Flo.next {R : Nat → Nat → Prop} {N k i j : Nat} {M : Nat → Nat → Int} (h : Flo R N k i j M) (hk : k < N) (hi : i < N) (hj : j < N) :
    Flo R N k i (j + 1) (if betterB (M i k) (M k j) (M i j) = true then upd M i j (M i k + M k j) else M) := by
  by_cases hb : betterB (M i k) (M k j) (M i j) = true
  · rw [if_pos hb]
    unfold betterB at hb
    simp only [Bool.and_eq_true, Bool.or_eq_true, decide_eq_true_eq] at hb
    obtain ⟨⟨h1, h2⟩, h3⟩ := hb
    have hkk := h.all k k hk hk 0 (.here k)
    have hjk : j ≠ k := fun e => by rw [e] at h3; omega
    have hik : i ≠ k := fun e => by rw [e] at h3; omega
    have hcr := h.cross hk
    have hmono : ∀ a b q, Cmp R q M a b → Cmp R q (upd M i j (M i k + M k j)) a b := fun a b q hc m hm => by
      obtain ⟨c1, c2⟩ := hc m hm
      by_cases he : a = i ∧ b = j
      · obtain ⟨rfl, rfl⟩ := he
        rw [upd_same]
        omega
      · rw [upd_other M _ he]
        exact ⟨c1, c2⟩
    refine ⟨fun a b ha hb => ?_, fun a b ha hb => hmono a b k (h.all a b ha hb), fun a b ha hb hd => ?_, fun a b ha hb => ?_, fun _ a ha => ?_⟩
    rotate_left
    rotate_left
    · by_cases he : a = i ∧ b = j
      · obtain ⟨rfl, rfl⟩ := he
        rw [upd_same]
        have g1 := (hcr a ha).1
        have g2 := (hcr b hb).2
        omega
      · rw [upd_other M _ he]
        exact h.bnd a b ha hb
    · rw [upd_other M _ (by omega), upd_other M _ (by omega)]
      exact hcr a ha
    · by_cases he : a = i ∧ b = j
      · obtain ⟨rfl, rfl⟩ := he
        rw [upd_same]
        obtain ⟨m1, e1, w1⟩ := (h.snd a k ha hk).resolve_left (by omega)
        obtain ⟨m2, e2, w2⟩ := (h.snd k b hk hb).resolve_left (by omega)
        exact .inr ⟨m1 + m2, by rw [e1, e2]; omega, w1.cat w2⟩
      · rw [upd_other M _ he]
        exact h.snd a b ha hb
    · by_cases he : a = i ∧ b = j
      · obtain ⟨rfl, rfl⟩ := he
        intro m hm
        rw [upd_same]
        rcases hm.part with hm | ⟨m1, m2, w1, w2, hle⟩
        · have := h.all a b ha hb m hm
          omega
        · have g1 := h.all a k ha hk m1 w1
          have g2 := h.all k b hk hb m2 w2
          omega
      · exact hmono a b (k + 1) (h.done a b ha hb (by omega))
  · rw [if_neg hb]
    refine ⟨h.snd, h.all, fun a b ha hb' hd => ?_, h.bnd, h.cross⟩
    by_cases he : a = i ∧ b = j
    · obtain ⟨rfl, rfl⟩ := he
      intro m hm
      unfold betterB at hb
      simp only [Bool.and_eq_true, Bool.or_eq_true, decide_eq_true_eq] at hb
      rcases hm.part with hm | ⟨m1, m2, w1, w2, hle⟩
      · exact h.all a b ha hb' m hm
      · have g1 := h.all a k ha hk m1 w1
        have g2 := h.all k b hk hb' m2 w2
        omega
    · exact h.done a b ha hb' (by omega)
theorem Flo.line {R : Nat → Nat → Prop} {N k i : Nat} {M : Nat → Nat → Int} (h : Flo R N k i N M) : Flo R N k (i + 1) 0 M :=
  ⟨h.snd, h.all, fun a b ha hb hd => h.done a b ha hb (by omega), h.bnd, h.cross⟩
theorem Flo.turn {R : Nat → Nat → Prop} {N k : Nat} {M : Nat → Nat → Int} (h : Flo R N k N 0 M) : Flo R N (k + 1) 0 0 M :=
  ⟨h.snd, fun a b ha hb => h.done a b ha hb (by omega), fun a b ha hb hd => by omega, fun a b ha hb => by have := h.bnd a b ha hb; rw [Int.pow_succ]; have h0 : (0 : Int) ≤ 2 ^ k := Int.pow_nonneg (by omega); omega,
    fun hk a ha => by rw [Int.pow_succ]; have h1 := h.bnd a (k + 1) ha hk; have h2 := h.bnd (k + 1) a hk ha; omega⟩
/-- The first table. -/
def fstM (l : List Ed) (i j : Nat) : Int := if i = j then 0 else if adj l i j = true then 1 else -1
def Adj (l : List Ed) (i j : Nat) : Prop := adj l i j = true
theorem Flo.fst (l : List Ed) (N : Nat) : Flo (Adj l) N 0 0 0 (fstM l) := by
  have h1 : ∀ a b, fstM l a b ≤ 1 := fun a b => by unfold fstM; (repeat' split) <;> omega
  refine ⟨fun a b _ _ => ?_, fun a b _ _ m hm => ?_, fun a b _ _ h => by omega, fun a b _ _ => by have := h1 a b; simp; omega, fun _ a _ => by have := h1 a 0; have := h1 0 a; simp; omega⟩
  · unfold fstM
    split
    · rename_i h; subst h
      exact .inr ⟨0, rfl, .start⟩
    · split
      · rename_i h
        exact .inr ⟨1, rfl, .step .start h⟩
      · exact .inl rfl
  · cases hm with
    | here => unfold fstM; simp
    | edge h =>
      unfold fstM
      split
      · omega
      · rw [if_pos (show adj l a b = true from h)]; omega
    | cat _ hc _ => omega
theorem adj_low {N : Nat} {l : List Ed} (hg : GoodG N l) (c j : Nat) (h : Adj l c j) : c < N ∧ j < N := by
  unfold Adj adj at h
  obtain ⟨e, he, hj⟩ := List.any_eq_true.1 h
  unfold joins at hj
  have hj := of_decide_eq_true hj
  have := hg.ed e he
  obtain ⟨_, _, _, _, _, _, _⟩ := this
  omega
theorem Flo.dist {N : Nat} {l : List Ed} {M : Nat → Nat → Int} (hg : GoodG N l) (h : Flo (Adj l) N N 0 0 M) {i j : Nat} (hi : i < N) (hj : j < N) : DistIs (Adj l) i j (M i j) := by
  rcases h.snd i j hi hj with e | ⟨m, e, hw⟩
  · refine .inl ⟨e, fun m hm => ?_⟩
    have := h.all i j hi hj m (hm.inner (adj_low hg))
    omega
  · refine .inr ⟨m, e, hw, fun m' hm => ?_⟩
    have := h.all i j hi hj m' (hm.inner (adj_low hg))
    omega

/-! By layers. -/
def Rch (R : Nat → Nat → Prop) (i j : Nat) : Prop := ∃ m, Wn R i m j
/-- The layer d: those at that distance. -/
def Lay (R : Nat → Nat → Prop) (i d j : Nat) : Prop := Wn R i d j ∧ ∀ m, Wn R i m j → d ≤ m
theorem lay_back {R : Nat → Nat → Prop} {i d j : Nat} (h : Lay R i (d + 1) j) : ∃ c, Lay R i d c ∧ R c j := by
  obtain ⟨h1, h2⟩ := h
  cases h1 with
  | @step _ c _ hw hr =>
    refine ⟨c, ⟨hw, fun m hm => ?_⟩, hr⟩
    have := h2 _ (hm.step hr)
    omega
theorem lay_of {R : Nat → Nat → Prop} {i d c j : Nat} (h : Lay R i d c) (hr : R c j) (hno : ∀ e, e ≤ d → ¬ Lay R i e j) : Lay R i (d + 1) j := by
  refine ⟨h.1.step hr, fun m hm => ?_⟩
  rcases Nat.lt_or_ge d m with hlt | hge
  · omega
  · exfalso
    obtain ⟨m0, h0, hmin⟩ : ∃ m0, Wn R i m0 j ∧ ∀ m', Wn R i m' j → m0 ≤ m' := by
      have : ∀ n, ∀ m, m ≤ n → Wn R i m j → ∃ m0, Wn R i m0 j ∧ ∀ m', Wn R i m' j → m0 ≤ m' := by
        intro n
        induction n with
        | zero =>
          intro m hm hw
          obtain rfl : m = 0 := by omega
          exact ⟨0, hw, fun _ _ => Nat.zero_le _⟩
        | succ n ih =>
          intro m hm hw
          by_cases hex : ∃ m', m' ≤ n ∧ Wn R i m' j
          · obtain ⟨m', h1, h2⟩ := hex
            exact ih m' h1 h2
          · refine ⟨m, hw, fun m' hm' => ?_⟩
            rcases Nat.lt_or_ge n m' with h1 | h1
            · omega
            · exact (hex ⟨m', h1, hm'⟩).elim
      exact this m m (Nat.le_refl _) hm
    have hle := hmin m hm
    exact hno m0 (by omega) ⟨h0, hmin⟩
theorem lay_end {R : Nat → Nat → Prop} {i d : Nat} (hno : ∀ j, ¬ Lay R i d j) : ∀ e, d ≤ e → ∀ j, ¬ Lay R i e j := by
  intro e he
  induction e with
  | zero =>
    obtain rfl : d = 0 := by omega
    exact hno
  | succ e ih =>
    by_cases hde : d = e + 1
    · subst hde; exact hno
    · intro j hj
      obtain ⟨c, hc, _⟩ := lay_back hj
      exact ih (by omega) c hc
theorem rch_lay {R : Nat → Nat → Prop} {i j : Nat} (h : Rch R i j) : ∃ d, Lay R i d j := by
  obtain ⟨m, hm⟩ := h
  have : ∀ n, ∀ m, m ≤ n → Wn R i m j → ∃ d, Lay R i d j := by
    intro n
    induction n with
    | zero =>
      intro m hm hw
      obtain rfl : m = 0 := by omega
      exact ⟨0, hw, fun _ _ => Nat.zero_le _⟩
    | succ n ih =>
      intro m hm hw
      by_cases hex : ∃ m', m' ≤ n ∧ Wn R i m' j
      · obtain ⟨m', h1, h2⟩ := hex
        exact ih m' h1 h2
      · refine ⟨m, hw, fun m' hm' => ?_⟩
        rcases Nat.lt_or_ge n m' with h1 | h1
        · omega
        · exact (hex ⟨m', h1, hm'⟩).elim
  exact this m m (Nat.le_refl _) hm
/-- A set closed under steps that holds the start holds all that can be come to. -/
theorem rch_closed {R : Nat → Nat → Prop} {i : Nat} (S : Nat → Prop) (h0 : S i) (hs : ∀ c j, S c → R c j → S j) {j : Nat} (h : Rch R i j) : S j := by
  obtain ⟨m, hm⟩ := h
  induction hm with
  | start => exact h0
  | step _ hr ih => exact hs _ _ ih hr
end Go.Proofs.YtbbdiondhnmnaaaDoor
