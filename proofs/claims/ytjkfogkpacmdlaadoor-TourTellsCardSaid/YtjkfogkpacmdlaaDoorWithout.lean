/- A graph without some nodes; the parts of what is left, in plain Lean. Conditions: none. -/
import Derived.Test.YtjkfogkpacmdlaaDoorSidesP
import Derived.Test.YtjkfogkpacmdlaaDoorPartsP
import Derived.Test.YtjkfogkpacmdlaaDoorWithoutQ
namespace Go.Proofs.YtjkfogkpacmdlaaDoor
open Go.RowKit

/-- The state of the count: of which parts the members are left. -/
structure OddI (p : Nat → Nat) (x : BitVec 32) (N k : Nat) (left : BitVec 32) : Prop where
  bit : ∀ j, left.getLsbD j = true ↔ j < N ∧ x.getLsbD j = false ∧ k ≤ p j
theorem OddI.start (p : Nat → Nat) (x : BitVec 32) {N : Nat} (hN : N < 32) : OddI p x N 0 (wBut (maskW N) x) := ⟨fun j => by
  rw [b_but, b_mask hN]
  simp⟩
theorem oddP_done {p : Nat → Nat} {x : BitVec 32} {N k : Nat} (h : OddI p x N k w0) (hk : k ≤ N) : oddP p x N N = oddP p x N k :=
  oddP_skip hk fun c h1 _ j hj hx e => by
    have := (h.bit j).2 ⟨hj, hx, by omega⟩
    rw [b_0] at this
    cases this
/-- A part of the words is a part of the graph withoutE the set. -/
theorem rs_part {N : Nat} {l : List Ed} (hg : GoodG N l) {p : Nat → Nat} {x : BitVec 32} (hp : ∀ j, j < N → IsPart (withoutE l x) j (p j)) {k : Nat} {left : BitVec 32} (h : OddI p x N k left) {i : Nat} (hi : left.getLsbD i = true) (j : Nat) :
    Rch (RS (nearL N l) left) i j ↔ j < N ∧ x.getLsbD j = false ∧ p j = p i := by
  obtain ⟨hiN, hix, hip⟩ := (h.bit i).1 hi
  constructor
  · intro hr
    refine rch_closed (fun j => j < N ∧ x.getLsbD j = false ∧ p j = p i) ⟨hiN, hix, rfl⟩ (fun c j hc hs => ?_) hr
    obtain ⟨h1, h2⟩ := hs
    obtain ⟨hjN, hjx, hjp⟩ := (h.bit j).1 h2
    obtain ⟨hcN, hcx, hcp⟩ := hc
    refine ⟨hjN, hjx, ?_⟩
    rw [near_bit hg hcN] at h1
    rw [← hcp]
    exact ((part_iff (hp c hcN) (hp j hjN)).2 ⟨1, .step .start ((adj_without l x c j).2 ⟨h1, hcx, hjx⟩)⟩).symm
  · rintro ⟨hjN, hjx, hjp⟩
    have hr := (part_iff (hp i hiN) (hp j hjN)).1 hjp.symm
    have := rch_closed (fun j => Rch (RS (nearL N l) left) i j ∧ Rch (Adj (withoutE l x)) i j) ⟨rch_here _ _, rch_here _ _⟩ (fun c j hc hs => by
      obtain ⟨hr1, hr2⟩ := hc
      have hr3 := rch_step hr2 hs
      obtain ⟨ha, hcx, hjx⟩ := (adj_without l x c j).1 hs
      obtain ⟨hcN, hjN⟩ := adj_low hg c j ha
      refine ⟨rch_step hr1 ⟨by rw [near_bit hg hcN]; exact ha, (h.bit j).2 ⟨hjN, hjx, ?_⟩⟩, hr3⟩
      rw [← (part_iff (hp i hiN) (hp j hjN)).2 hr3]
      exact hip) hr
    exact this.1
/-- The lowest bit of a word, alone. -/
theorem low_one {x : BitVec 32} (h : x ≠ w0) : x &&& -x = wShl w1 (tz x) := by
  apply BitVec.eq_of_toNat_eq
  rw [BitVec.toNat_and, BitVec.toNat_neg, wN_shl1 (tz_lt h), ← low_eq h]
  have := x.isLt
  have h0 := toNat_ne h
  rw [Nat.mod_eq_of_lt (by omega)]
theorem but_lt {x y : BitVec 32} {i : Nat} (h : x.getLsbD i = true) (h' : y.getLsbD i = true) : (wBut x y).toNat < x.toNat := by
  have h1 : (wBut x y).toNat ≤ x.toNat := by
    unfold wBut
    rw [BitVec.toNat_and]
    exact Nat.and_le_left
  rcases Nat.lt_or_eq_of_le h1 with e | e
  · exact e
  · have e' := BitVec.eq_of_toNat_eq e
    have := b_but x y i
    rw [e', h, h'] at this
    cases this
/-- One part more. -/
theorem OddI.next {N : Nat} {l : List Ed} (hg : GoodG N l) {p : Nat → Nat} {x : BitVec 32} (hp : ∀ j, j < N → IsPart (withoutE l x) j (p j)) {k : Nat} {left : BitVec 32} (h : OddI p x N k left) (hne : left ≠ w0)
    {y : BitVec 32} (hy : ∀ j, y.getLsbD j = true ↔ ∃ i, (wShl w1 (tz left)).getLsbD i = true ∧ Rch (RS (nearL N l) left) i j) :
    OddI p x N (tz left + 1) (wBut left y) ∧ tz left + 1 ≤ N ∧ oddP p x N (tz left + 1) = oddP p x N k + pop y % 2 ∧ (wBut left y).toNat < left.toNat := by
  have hN := hg.n10
  have hb := tz_bit hne
  obtain ⟨hiN, hix, hip⟩ := (h.bit _).1 hb
  have hmin : ∀ j, left.getLsbD j = true → tz left ≤ j := fun j hj => by
    rcases Nat.lt_or_ge j (tz left) with e | e
    · rw [tz_low hne e] at hj; cases hj
    · exact e
  have hrep : ∀ j, left.getLsbD j = true → left.getLsbD (p j) = true := fun j hj => by
    obtain ⟨h1, h2, h3⟩ := (h.bit j).1 hj
    have hpj := hp j h1
    have hle := part_le hpj
    have hx : x.getLsbD (p j) = false := by
      have := rch_closed (fun c => x.getLsbD c = false) h2 (fun c d _ hs => ((adj_without l x c d).1 hs).2.2) hpj.1
      exact this
    refine (h.bit _).2 ⟨by omega, hx, ?_⟩
    rw [part_self hpj (hp (p j) (by omega))]
    exact h3
  have hpi : p (tz left) = tz left := by
    have h1 := part_le (hp _ hiN)
    have h2 := hmin _ (hrep _ hb)
    omega
  have hyb : ∀ j, y.getLsbD j = true ↔ j < N ∧ x.getLsbD j = false ∧ p j = tz left := fun j => by
    rw [hy j]
    constructor
    · rintro ⟨i, h1, h2⟩
      rw [b_one] at h1
      have : i = tz left := by simp at h1; exact h1.2
      subst this
      rw [rs_part hg hp h hb j, hpi] at h2
      exact h2
    · intro h2
      refine ⟨tz left, by rw [b_one]; simp; exact tz_lt hne, (rs_part hg hp h hb j).2 ?_⟩
      rw [hpi]
      exact h2
  refine ⟨⟨fun j => ?_⟩, by omega, ?_, but_lt hb ((hyb _).2 ⟨hiN, hix, hpi⟩)⟩
  · rw [b_but, Bool.and_eq_true, Bool.not_eq_true', h.bit j]
    constructor
    · rintro ⟨⟨h1, h2, h3⟩, h4⟩
      refine ⟨h1, h2, ?_⟩
      have h5 := hmin _ (hrep j ((h.bit j).2 ⟨h1, h2, h3⟩))
      have h6 : p j ≠ tz left := fun e => by
        rw [(hyb j).2 ⟨h1, h2, e⟩] at h4
        cases h4
      omega
    · rintro ⟨h1, h2, h3⟩
      refine ⟨⟨h1, h2, by omega⟩, ?_⟩
      rcases hyj : y.getLsbD j with _ | _
      · rfl
      · have := (hyb j).1 hyj
        omega
  · rw [oddP, oddP_skip (show k ≤ tz left by omega) (fun c h1 h2 j hj hx e => by
      have := hmin _ (hrep j ((h.bit j).2 ⟨hj, hx, by omega⟩))
      omega)]
    congr 2
    rw [pop_range (show N ≤ 32 by omega) (fun j hj => ((hyb j).1 hj).1)]
    unfold cntP
    refine List.countP_congr fun j hj => ?_
    have := hyb j
    rw [this]
    simp [List.mem_range.1 hj]
    exact ⟨fun h => ⟨h.2, h.1⟩, fun h => ⟨h.2, h.1⟩⟩
end Go.Proofs.YtjkfogkpacmdlaaDoor
