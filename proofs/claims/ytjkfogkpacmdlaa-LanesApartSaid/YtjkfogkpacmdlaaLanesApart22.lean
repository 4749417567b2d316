/- The smallest wall between two nodes; the wall behind which the most are left over: in plain Lean. Conditions: none. -/
import Derived.Test.YtjkfogkpacmdlaaLanesApart21
namespace Go.Proofs.Ytjkfogkpacmdlaa
open Go.RowKit

theorem lpopTo_sub {x y : BitVec 32} (h : ∀ j, x.getLsbD j = true → y.getLsbD j = true) (k : Nat) : popTo x k ≤ popTo y k := List.countP_mono_left fun j _ => h j
theorem lpopTo_sub_lt {x y : BitVec 32} (h : ∀ j, x.getLsbD j = true → y.getLsbD j = true) {i : Nat} (hx : x.getLsbD i = false) (hy : y.getLsbD i = true) : ∀ k, i < k → popTo x k < popTo y k
  | 0, hk => by omega
  | k + 1, hk => by
    rw [popTo_succ, popTo_succ, bitB_nat, bitB_nat]
    have h1 := lpopTo_sub h k
    by_cases hik : i = k
    · subst hik
      rw [hx, hy]
      simp
      omega
    · have := lpopTo_sub_lt h hx hy k (by omega)
      rcases hxk : x.getLsbD k with _ | _
      · simp; omega
      · rw [h k hxk]; simp; omega
theorem lpop_sub_eq {x y : BitVec 32} (h : ∀ j, x.getLsbD j = true → y.getLsbD j = true) (hp : pop y ≤ pop x) : x = y := by
  refine w_ext fun j hj => ?_
  rcases hx : x.getLsbD j with _ | _
  · rcases hy : y.getLsbD j with _ | _
    · rfl
    · have := lpopTo_sub_lt h hx hy 32 hj
      unfold pop at hp
      omega
  · exact (h j hx).symm
theorem lsub_le {x y : BitVec 32} (h : ∀ j, x.getLsbD j = true → y.getLsbD j = true) : x.toNat ≤ y.toNat := by
  have e : x &&& y = x := w_ext fun j _ => by
    rw [BitVec.getLsbD_and]
    rcases hx : x.getLsbD j with _ | _
    · rfl
    · rw [h j hx]; rfl
  rw [← e, BitVec.toNat_and]
  exact Nat.and_le_right
theorem but_zero_iff (x y : BitVec 32) : wBut x y = w0 ↔ ∀ j, x.getLsbD j = true → y.getLsbD j = true := by
  constructor
  · intro h j hj
    have := b_but x y j
    rw [h, b_0, hj] at this
    rcases hy : y.getLsbD j with _ | _
    · rw [hy] at this; cases this
    · rfl
  · intro h
    refine w_ext fun j _ => ?_
    rw [b_but, b_0]
    rcases hx : x.getLsbD j with _ | _
    · rfl
    · rw [h j hx]; rfl

/-- Whoever can be come to by words can be come to by edges. -/
theorem lane_rch {N : Nat} {l : List Ed} (hg : GoodG N l) {a b : Nat} (ha : a < N) (hab : a ≠ b) {x wi : BitVec 32} (hxa : x.getLsbD a = false)
    (hwi : ∀ j, wi.getLsbD j = true ↔ j < N ∧ j ≠ a ∧ x.getLsbD j = false) : Rch (RS (nearL N l) wi) a b ↔ Rch (Adj (withoutE l x)) a b := by
  constructor
  · intro h
    have := rch_closed (fun j => (j < N ∧ x.getLsbD j = false) ∧ Rch (Adj (withoutE l x)) a j) ⟨⟨ha, hxa⟩, rch_here _ _⟩ (fun c j hc hs => by
      obtain ⟨⟨hcN, hcx⟩, hr⟩ := hc
      obtain ⟨h1, h2⟩ := hs
      obtain ⟨hjN, _, hjx⟩ := (hwi j).1 h2
      rw [near_bit hg hcN] at h1
      exact ⟨⟨hjN, hjx⟩, rch_step hr ((adj_without l x c j).2 ⟨h1, hcx, hjx⟩)⟩) h
    exact this.2
  · intro h
    have := rch_closed (fun j => j = a ∨ Rch (RS (nearL N l) wi) a j) (.inl rfl) (fun c j hc hs => by
      by_cases hja : j = a
      · exact .inl hja
      · obtain ⟨h1, _, hjx⟩ := (adj_without l x c j).1 hs
        obtain ⟨hcN, hjN⟩ := adj_low hg c j h1
        have hst : RS (nearL N l) wi c j := ⟨by rw [near_bit hg hcN]; exact h1, (hwi j).2 ⟨hjN, hja, hjx⟩⟩
        rcases hc with hc | hc
        · subst hc; exact .inr (rch_step (rch_here _ _) hst)
        · exact .inr (rch_step hc hst)) h
    rcases this with h | h
    · exact absurd h.symm hab
    · exact h

/-- The smallest so far: as the program keeps it; as the reference does. -/
def laneP (all : BitVec 32) (ok : Nat → Bool) : Nat → BitVec 32
  | 0 => all
  | k + 1 => if pop (nw k) < pop (laneP all ok k) ∧ ok k = true then nw k else laneP all ok k
def laneR (ok : Nat → Bool) : Nat → BitVec 32 × Bool
  | 0 => (w0, false)
  | k + 1 => if ok k = true ∧ ((laneR ok k).2 = false ∨ pop (nw k) < pop (laneR ok k).1) then (nw k, true) else laneR ok k
theorem laneP_take {all : BitVec 32} {ok : Nat → Bool} {k : Nat} (h1 : pop (nw k) < pop (laneP all ok k)) (h2 : ok k = true) : laneP all ok (k + 1) = nw k := by rw [laneP, if_pos ⟨h1, h2⟩]
theorem laneP_skip1 {all : BitVec 32} {ok : Nat → Bool} {k : Nat} (h1 : ¬ pop (nw k) < pop (laneP all ok k)) : laneP all ok (k + 1) = laneP all ok k := by rw [laneP, if_neg (fun h => h1 h.1)]
theorem laneP_skip2 {all : BitVec 32} {ok : Nat → Bool} {k : Nat} (h2 : ok k = false) : laneP all ok (k + 1) = laneP all ok k := by rw [laneP, if_neg (fun h => by rw [h2] at h; cases h.2)]
theorem laneR_take {ok : Nat → Bool} {k : Nat} (h1 : ok k = true) (h2 : (laneR ok k).2 = false ∨ pop (nw k) < pop (laneR ok k).1) : laneR ok (k + 1) = (nw k, true) := by rw [laneR, if_pos ⟨h1, h2⟩]
theorem laneR_skip1 {ok : Nat → Bool} {k : Nat} (h1 : ok k = false) : laneR ok (k + 1) = laneR ok k := by rw [laneR, if_neg (fun h => by rw [h1] at h; cases h.1)]
theorem laneR_skip2 {ok : Nat → Bool} {k : Nat} (h1 : (laneR ok k).2 = true) (h2 : ¬ pop (nw k) < pop (laneR ok k).1) : laneR ok (k + 1) = laneR ok k := by rw [laneR, if_neg (fun h => by rw [h1] at h; rcases h.2 with h | h; cases h; exact h2 h)]
theorem lane_inv {all : BitVec 32} {ok : Nat → Bool} (hok : ∀ k, ok k = true → ∀ j, (nw k).getLsbD j = true → all.getLsbD j = true) : ∀ k,
    ((laneR ok k).2 = true → (laneR ok k).1 = laneP all ok k) ∧ ((laneR ok k).2 = false → laneP all ok k = all ∧ ∀ i, i < k → ok i = false)
  | 0 => ⟨(fun h => by cases h), fun _ => ⟨rfl, fun i h => by omega⟩⟩
  | k + 1 => by
    obtain ⟨h1, h2⟩ := lane_inv hok k
    rcases ho : ok k with _ | _
    · rw [laneR_skip1 ho, laneP_skip2 ho]
      refine ⟨h1, fun h => ⟨(h2 h).1, fun i hi => ?_⟩⟩
      rcases Nat.lt_succ_iff_lt_or_eq.1 hi with hi | hi
      · exact (h2 h).2 i hi
      · rw [hi]; exact ho
    · rcases hf : (laneR ok k).2 with _ | _
      · obtain ⟨h3, h4⟩ := h2 hf
        rw [laneR_take ho (.inl hf)]
        refine ⟨fun _ => ?_, (fun h => by cases h)⟩
        by_cases hp : pop (nw k) < pop (laneP all ok k)
        · rw [laneP_take hp ho]
        · rw [laneP_skip1 hp, h3]
          rw [h3] at hp
          show nw k = all
          exact lpop_sub_eq (hok k ho) (by omega)
      · have h3 := h1 hf
        by_cases hp : pop (nw k) < pop (laneP all ok k)
        · rw [laneR_take ho (.inr (by rw [h3]; exact hp)), laneP_take hp ho]
          exact ⟨fun _ => rfl, (fun h => by cases h)⟩
        · rw [laneR_skip2 hf (by rw [h3]; exact hp), laneP_skip1 hp]
          exact ⟨fun _ => h3, fun h => by rw [hf] at h; cases h⟩
theorem lane_same {all : BitVec 32} {ok : Nat → Bool} (hok : ∀ k, ok k = true → ∀ j, (nw k).getLsbD j = true → all.getLsbD j = true) (hall : ok all.toNat = true) {L : Nat} (hL : all.toNat < L) (h32 : L ≤ 4294967296) :
    laneP all ok (all.toNat + 1) = (laneR ok L).1 := by
  have h1 : ∀ d, all.toNat + 1 + d ≤ L → laneP all ok (all.toNat + 1 + d) = laneP all ok (all.toNat + 1) := by
    intro d
    induction d with
    | zero => intro _; rfl
    | succ d ih =>
      intro hd
      have hno : ok (all.toNat + 1 + d) = false := by
        rcases ho : ok (all.toNat + 1 + d) with _ | _
        · rfl
        · have := lsub_le (hok _ ho)
          have e : (nw (all.toNat + 1 + d)).toNat = all.toNat + 1 + d := by
            have := wN_nw (k := all.toNat + 1 + d) (by omega)
            unfold wN at this
            omega
          omega
      rw [← Nat.add_assoc, laneP_skip2 hno, ih (by omega)]
  obtain ⟨h2, h3⟩ := lane_inv hok L
  rcases hf : (laneR ok L).2 with _ | _
  · have := (h3 hf).2 _ hL
    rw [hall] at this
    cases this
  · rw [h2 hf, ← h1 (L - (all.toNat + 1)) (by omega)]
    congr 1
    omega

/-- The wall so far, and how many are left over. -/
def wallN (p : Nat → Nat → Nat) (N k : Nat) : Int := (oddP (p k) (nw k) N N : Int) - pop (nw k)
def wallP (p : Nat → Nat → Nat) (N : Nat) : Nat → BitVec 32 × Int
  | 0 => (w0, -1)
  | k + 1 => if (wallP p N k).2 < wallN p N k then (nw k, wallN p N k) else wallP p N k
theorem wallP_take {p : Nat → Nat → Nat} {N k : Nat} (h : (wallP p N k).2 < wallN p N k) : wallP p N (k + 1) = (nw k, wallN p N k) := by rw [wallP, if_pos h]
theorem wallP_skip {p : Nat → Nat → Nat} {N k : Nat} (h : ¬ (wallP p N k).2 < wallN p N k) : wallP p N (k + 1) = wallP p N k := by rw [wallP, if_neg h]
theorem pop_w0 : pop w0 = 0 := by
  unfold pop popTo
  rw [List.countP_eq_zero]
  intro j _
  rw [b_0]
  simp
theorem nw_zero : nw 0 = w0 := rfl
theorem wallP_one (p : Nat → Nat → Nat) (N : Nat) : wallP p N 1 = (w0, (oddP (p 0) w0 N N : Int)) := by
  have e : wallN p N 0 = (oddP (p 0) w0 N N : Int) := by
    unfold wallN
    rw [nw_zero, pop_w0]
    omega
  rw [wallP_take (by rw [e]; show (-1 : Int) < _; omega), e, nw_zero]
theorem wallP_bnd {p : Nat → Nat → Nat} {N : Nat} : ∀ k, -1 ≤ (wallP p N k).2 ∧ (wallP p N k).2 ≤ N
  | 0 => ⟨Int.le_refl _, by show (-1 : Int) ≤ _; omega⟩
  | k + 1 => by
    have ih := wallP_bnd (p := p) (N := N) k
    rw [wallP]
    split
    · rename_i h
      have := oddP_le (p k) (nw k) N N
      refine ⟨by omega, ?_⟩
      show wallN p N k ≤ N
      unfold wallN
      omega
    · exact ih
/-- Each node lies in a part. -/
theorem part_ex (l : List Ed) (i : Nat) : ∃ p, IsPart l i p := by
  have hex : ∀ n', ∀ p, p ≤ n' → Rch (Adj l) i p → ∃ p0, IsPart l i p0 := by
    intro n'
    induction n' with
    | zero => intro p h1 h3; exact ⟨p, h3, fun j hj => by omega⟩
    | succ n' ih =>
      intro p h1 h3
      by_cases hlow : ∃ j, j < p ∧ Rch (Adj l) i j
      · obtain ⟨j, h4, h5⟩ := hlow
        exact ih j (by omega) h5
      · exact ⟨p, h3, fun j hj hr => hlow ⟨j, hj, hr⟩⟩
  exact hex i i (Nat.le_refl _) (rch_here _ _)
theorem parts_ex (l : List Ed) : ∃ p : Nat → Nat → Nat, ∀ k j, IsPart (withoutE l (nw k)) j (p k j) :=
  ⟨fun k j => Classical.choose (part_ex (withoutE l (nw k)) j), fun k j => Classical.choose_spec (part_ex (withoutE l (nw k)) j)⟩
theorem bool_of (q : Nat → Prop) : ∃ f : Nat → Bool, ∀ k, f k = true ↔ q k :=
  ⟨fun k => @decide (q k) (Classical.propDecidable _), fun k => @decide_eq_true_iff _ (Classical.propDecidable _)⟩
theorem all_lim {N : Nat} (hN : N ≤ 10) : wN (wAdd (wSub (wShl w1 N) w1) w1) = (2 ^ N : Nat) := by
  have e : wAdd (wSub (wShl w1 N) w1) w1 = wShl w1 N := by
    unfold wAdd wSub
    exact BitVec.sub_add_cancel _ _
  rw [e, wN_pow (by omega)]
theorem pow_lim {N : Nat} (hN : N ≤ 10) : 2 ^ N ≤ 1024 := by
  have := Nat.pow_le_pow_right (show 0 < 2 by omega) hN
  simpa using this
end Go.Proofs.Ytjkfogkpacmdlaa
