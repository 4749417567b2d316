/- The product over all parts, in plain Lean. Conditions: the graph is one. -/
import Derived.Test.YtbbdiondhnmnaaaDoorSpanMany22
import Derived.Test.YtbbdiondhnmnaaaDoorSpanMany30
import Derived.Test.YtbbdiondhnmnaaaDoorSpanMany31
import Derived.Test.YtbbdiondhnmnaaaDoorSpanMany25
namespace Go.Proofs.YtbbdiondhnmnaaaDoor
open Go.RowKit

/-- The part of which i is the least one, as a number; the product up to there. -/
def sP (p : Nat → Nat) (N i : Nat) : Nat := mkS (fun j => decide (p j = i)) N
def rP (w : Nat → Nat → Int) (p : Nat → Nat) (N : Nat) : Nat → Int
  | 0 => 1
  | i + 1 => if 0 < sP p N i then rP w p N i * trT w N (sP p N i) else rP w p N i
section
variable {w : Nat → Nat → Int} {p : Nat → Nat} {N : Nat} {l : List Ed}
theorem sP_lt (p : Nat → Nat) (N i : Nat) : sP p N i < 2 ^ N := mkS_lt _ N
theorem sP_bit (p : Nat → Nat) (N i j : Nat) : (sP p N i).testBit j = (decide (j < N) && decide (p j = i)) := mkS_bit _ N j
theorem sP_zero {i : Nat} (h : ∀ j, j < N → p j ≠ i) : sP p N i = 0 := by
  apply Nat.eq_of_testBit_eq
  intro j
  rw [sP_bit, Nat.zero_testBit]
  by_cases hj : j < N
  · rw [decide_eq_false (h j hj), Bool.and_false]
  · rw [decide_eq_false hj, Bool.false_and]
theorem rP_skip {k : Nat} : ∀ {i : Nat}, k ≤ i → (∀ c, k ≤ c → c < i → ∀ j, j < N → p j ≠ c) → rP w p N i = rP w p N k
  | 0, h, _ => by rw [show k = 0 by omega]
  | i + 1, h, hc => by
    by_cases e : k = i + 1
    · rw [e]
    · rw [rP, sP_zero (hc i (by omega) (by omega)), if_neg (Nat.lt_irrefl 0)]
      exact rP_skip (by omega) fun c h1 h2 => hc c h1 (by omega)
theorem mkS_len (f : Nat → Bool) : ∀ n, (bn (mkS f n) n).length = (List.range n).countP f
  | 0 => rfl
  | n + 1 => by
    have h1 : bn (mkS f (n + 1)) n = bn (mkS f n) n := bn_congr fun i hi => by
      rw [mkS_bit, mkS_bit, decide_eq_true hi, decide_eq_true (show i < n + 1 by omega)]
    have h2 : (mkS f (n + 1)).testBit n = f n := by rw [mkS_bit, decide_eq_true (show n < n + 1 by omega), Bool.true_and]
    rw [bn, h1, h2, List.range_succ, List.countP_append, ← mkS_len f n, List.countP_cons, List.countP_nil]
    cases f n <;> simp
/-- So many nodes lie in the parts ahead. -/
def cP (p : Nat → Nat) (N k : Nat) : Nat := (List.range N).countP fun j => decide (p j < k)
theorem cP_succ (p : Nat → Nat) (N k : Nat) : cP p N (k + 1) = cP p N k + (bn (sP p N k) N).length := by
  unfold sP cP
  rw [mkS_len]
  generalize List.range N = L
  induction L with
  | nil => rfl
  | cons j L ih =>
    rw [List.countP_cons, List.countP_cons, List.countP_cons, ih]
    rcases Nat.lt_trichotomy (p j) k with h | h | h
    · rw [decide_eq_true (show p j < k + 1 by omega), decide_eq_true h, decide_eq_false (show ¬ p j = k by omega)]
      simp; omega
    · rw [decide_eq_true (show p j < k + 1 by omega), decide_eq_false (show ¬ p j < k by omega), decide_eq_true h]
      simp; omega
    · rw [decide_eq_false (show ¬ p j < k + 1 by omega), decide_eq_false (show ¬ p j < k by omega), decide_eq_false (show ¬ p j = k by omega)]
      simp
theorem cP_le (p : Nat → Nat) (N k : Nat) : cP p N k ≤ N := by
  have := List.countP_le_length (p := fun j => decide (p j < k)) (l := List.range N)
  rw [List.length_range] at this
  exact this
theorem GoodG.trT_le (hg : GoodG N l) (s : Nat) : trT (wL l) N s ≤ 9 ^ (bn s N).length := by
  refine D_le (wL_symm l) (wL_nn l) (by omega) fun i hi => ?_
  have h1 := sm_deg hg.one hg.self hi
  have h2 := bn_len s N
  have h3 := hg.n10
  omega
theorem nine_pow {k : Nat} (h : k ≤ 10) : (9 : Int) ^ k ≤ 3486784401 := by
  have : ∀ k : Fin 11, (9 : Int) ^ k.val ≤ 3486784401 := by decide
  exact this ⟨k, by omega⟩
theorem GoodG.trT_small (hg : GoodG N l) (s : Nat) : 0 ≤ trT (wL l) N s ∧ trT (wL l) N s ≤ 3486784401 := by
  have h1 := hg.trT_le s
  have h2 := nine_pow (k := (bn s N).length) (by have := bn_len s N; have := hg.n10; omega)
  exact ⟨trT_nn (wL_nn l) N s, by omega⟩
theorem rP_in (hg : GoodG N l) (p : Nat → Nat) : ∀ k, 0 ≤ rP (wL l) p N k ∧ rP (wL l) p N k ≤ 9 ^ cP p N k
  | 0 => by
    have : (0 : Int) ≤ 9 ^ cP p N 0 := Int.pow_nonneg (by omega)
    have h : cP p N 0 = 0 := List.countP_eq_zero.2 fun j _ => by simp
    rw [h]
    exact ⟨by show (0 : Int) ≤ 1; omega, Int.le_refl _⟩
  | k + 1 => by
    obtain ⟨h1, h2⟩ := rP_in hg p k
    have h3 := hg.trT_le (sP p N k)
    have h4 := (hg.trT_small (sP p N k)).1
    have h5 : (0 : Int) ≤ 9 ^ cP p N k := Int.pow_nonneg (by omega)
    rw [rP, cP_succ, Int.pow_add]
    split
    · exact ⟨Int.mul_nonneg h1 h4, Int.le_trans (Int.mul_le_mul_of_nonneg_right h2 h4) (Int.mul_le_mul_of_nonneg_left h3 h5)⟩
    · rename_i h0
      have hs : sP p N k = 0 := by omega
      rw [hs, bn_zero, List.length_nil, Int.pow_zero, Int.mul_one]
      exact ⟨h1, h2⟩
theorem rP_small (hg : GoodG N l) (p : Nat → Nat) (k : Nat) : 0 ≤ rP (wL l) p N k ∧ rP (wL l) p N k ≤ 3486784401 := by
  have h1 := rP_in hg p k
  have h2 := nine_pow (k := cP p N k) (by have := cP_le p N k; have := hg.n10; omega)
  exact ⟨h1.1, by omega⟩
/-- What is left: the parts from one on. -/
structure LeI (p : Nat → Nat) (N k : Nat) (left : BitVec 32) : Prop where
  bit : ∀ j, left.getLsbD j = true ↔ j < N ∧ k ≤ p j
theorem LeI.start (p : Nat → Nat) {N : Nat} (hN : N < 32) : LeI p N 0 (maskW N) := ⟨fun j => by
  rw [b_mask hN]
  simp⟩
theorem LeI.done {k : Nat} (h : LeI p N k w0) (hk : k ≤ N) : rP w p N N = rP w p N k :=
  rP_skip hk fun c h1 _ j hj e => by
    have := (h.bit j).2 ⟨hj, by omega⟩
    rw [b_0] at this
    cases this
theorem le_part (hg : GoodG N l) (hp : ∀ j, j < N → IsPart l j (p j)) {k : Nat} {left : BitVec 32} (h : LeI p N k left) {i : Nat} (hi : left.getLsbD i = true) (j : Nat) :
    Rch (RS (nearL N l) left) i j ↔ j < N ∧ p j = p i := by
  obtain ⟨hiN, hip⟩ := (h.bit i).1 hi
  constructor
  · intro hr
    refine rch_closed (fun j => j < N ∧ p j = p i) ⟨hiN, rfl⟩ (fun c j hc hs => ?_) hr
    obtain ⟨h1, h2⟩ := hs
    obtain ⟨hjN, hjp⟩ := (h.bit j).1 h2
    obtain ⟨hcN, hcp⟩ := hc
    refine ⟨hjN, ?_⟩
    rw [near_bit hg hcN] at h1
    rw [← hcp]
    exact ((part_iff (hp c hcN) (hp j hjN)).2 ⟨1, .step .start h1⟩).symm
  · rintro ⟨hjN, hjp⟩
    have hr := (part_iff (hp i hiN) (hp j hjN)).1 hjp.symm
    have := rch_closed (fun j => Rch (RS (nearL N l) left) i j ∧ Rch (Adj l) i j) ⟨rch_here _ _, rch_here _ _⟩ (fun c j hc hs => by
      obtain ⟨hr1, hr2⟩ := hc
      have hr3 := rch_step hr2 hs
      obtain ⟨hcN, hjN⟩ := adj_low hg c j hs
      refine ⟨rch_step hr1 ⟨by rw [near_bit hg hcN]; exact hs, (h.bit j).2 ⟨hjN, ?_⟩⟩, hr3⟩
      rw [← (part_iff (hp i hiN) (hp j hjN)).2 hr3]
      exact hip) hr
    exact this.1
theorem but_falls {x y : BitVec 32} {i : Nat} (h : x.getLsbD i = true) (h' : y.getLsbD i = true) : (wBut x y).toNat < x.toNat := by
  have h1 : (wBut x y).toNat ≤ x.toNat := by
    unfold wBut
    rw [BitVec.toNat_and]
    exact Nat.and_le_left
  rcases Nat.lt_or_eq_of_le h1 with e | e
  · exact e
  · have e' := BitVec.eq_of_toNat_eq e
    have := b_but x y i
    rw [e', h, h'] at this
    cases this
theorem bitsL_nodup (y : BitVec 32) : (bitsL y).Nodup := List.Pairwise.filter _ List.nodup_range
/-- The lowest bit of a word, alone. -/
theorem low_bit1 {x : BitVec 32} (h : x ≠ w0) : wAnd x (wSub w0 x) = wShl w1 (tz x) := by
  unfold wAnd wSub w0
  rw [BitVec.zero_sub]
  apply BitVec.eq_of_toNat_eq
  rw [BitVec.toNat_and, BitVec.toNat_neg, wN_shl1 (tz_lt h), ← low_eq h]
  have := x.isLt
  have h0 := toNat_ne h
  rw [Nat.mod_eq_of_lt (by omega)]
/-- One part more. -/
theorem LeI.next (hg : GoodG N l) (hp : ∀ j, j < N → IsPart l j (p j)) {k : Nat} {left : BitVec 32} (h : LeI p N k left) (hne : left ≠ w0)
    {y : BitVec 32} (hy : ∀ j, y.getLsbD j = true ↔ ∃ i, (wShl w1 (tz left)).getLsbD i = true ∧ Rch (RS (nearL N l) left) i j) :
    LeI p N (tz left + 1) (wBut left y) ∧ tz left + 1 ≤ N ∧ rP (wL l) p N (tz left + 1) = rP (wL l) p N k * D (wL l) (bitsL y) ∧ (wBut left y).toNat < left.toNat ∧ (∃ X r, bitsL y = X ++ [r] ∧ POk (wL l) X r ∧ ∀ x ∈ X ++ [r], x < N) := by
  have hN := hg.n10
  have hb := tz_bit hne
  obtain ⟨hiN, hip⟩ := (h.bit _).1 hb
  have hmin : ∀ j, left.getLsbD j = true → tz left ≤ j := fun j hj => by
    rcases Nat.lt_or_ge j (tz left) with e | e
    · rw [tz_low hne e] at hj; cases hj
    · exact e
  have hrep : ∀ j, left.getLsbD j = true → left.getLsbD (p j) = true := fun j hj => by
    obtain ⟨h1, h3⟩ := (h.bit j).1 hj
    have hpj := hp j h1
    have hle := part_le hpj
    refine (h.bit _).2 ⟨by omega, ?_⟩
    rw [part_self hpj (hp (p j) (by omega))]
    exact h3
  have hpi : p (tz left) = tz left := by
    have h1 := part_le (hp _ hiN)
    have h2 := hmin _ (hrep _ hb)
    omega
  have hyb : ∀ j, y.getLsbD j = true ↔ j < N ∧ p j = tz left := fun j => by
    rw [hy j]
    constructor
    · rintro ⟨i, h1, h2⟩
      rw [b_one] at h1
      have : i = tz left := by simp at h1; exact h1.2
      subst this
      rw [le_part hg hp h hb j, hpi] at h2
      exact h2
    · intro h2
      refine ⟨tz left, by rw [b_one]; simp; exact tz_lt hne, (le_part hg hp h hb j).2 ?_⟩
      rw [hpi]
      exact h2
  have hyt : y.getLsbD (tz left) = true := (hyb _).2 ⟨hiN, hpi⟩
  have hny : nw (sP p N (tz left)) = y := w_ext fun j hj => by
    have h1 : (nw (sP p N (tz left))).getLsbD j = (decide (j < 32) && (sP p N (tz left)).testBit j) := by
      show (BitVec.ofNat 32 _).getLsbD j = _
      rw [BitVec.getLsbD_ofNat]
    rw [h1, sP_bit, decide_eq_true hj, Bool.true_and, Bool.eq_iff_iff, hyb, Bool.and_eq_true, decide_eq_true_iff, decide_eq_true_iff]
  have hpos : 0 < sP p N (tz left) := by
    rcases Nat.eq_zero_or_pos (sP p N (tz left)) with e | e
    · have h1 := sP_bit p N (tz left) (tz left)
      rw [e, Nat.zero_testBit, decide_eq_true hiN, decide_eq_true hpi] at h1
      cases h1
    · exact e
  have hperm := bn_bits (show N ≤ 32 by omega) (sP_lt p N (tz left))
  rw [hny] at hperm
  refine ⟨⟨fun j => ?_⟩, by omega, ?_, but_falls hb hyt, ?_⟩
  · rw [b_but, Bool.and_eq_true, Bool.not_eq_true', h.bit j]
    constructor
    · rintro ⟨⟨h1, h3⟩, h4⟩
      refine ⟨h1, ?_⟩
      have h5 := hmin _ (hrep j ((h.bit j).2 ⟨h1, h3⟩))
      have h6 : p j ≠ tz left := fun e => by
        rw [(hyb j).2 ⟨h1, e⟩] at h4
        cases h4
      omega
    · rintro ⟨h1, h3⟩
      refine ⟨⟨h1, by omega⟩, ?_⟩
      rcases hyj : y.getLsbD j with _ | _
      · rfl
      · have := (hyb j).1 hyj
        omega
  · rw [rP, if_pos hpos, rP_skip (show k ≤ tz left by omega) (fun c h1 h2 j hj e => by
      have := hmin _ (hrep j ((h.bit j).2 ⟨hj, by omega⟩))
      omega)]
    congr 1
    exact D_perm (wL_symm l) hperm
  · have hne' : bitsL y ≠ [] := fun e => by
      have := mem_bitsL.2 hyt
      rw [e] at this
      cases this
    refine ⟨(bitsL y).dropLast, (bitsL y).getLast hne', (List.dropLast_concat_getLast hne').symm, ?_, fun x hx => ?_⟩
    · have hcat := List.dropLast_concat_getLast hne'
      generalize (bitsL y).dropLast = X at hcat ⊢
      generalize (bitsL y).getLast hne' = r at hcat ⊢
      have hmem : ∀ j, j ∈ r :: X ↔ j < N ∧ p j = tz left := fun j => by
        rw [← hyb, ← mem_bitsL, ← hcat]
        exact (List.perm_append_singleton r X).mem_iff.symm
      have hnd := bitsL_nodup y
      rw [← hcat] at hnd
      have hlen : (X ++ [r]).length ≤ 10 := by
        rw [hcat, ← hperm.length_eq]
        have := bn_len (sP p N (tz left)) N
        omega
      rw [List.length_append, List.length_singleton] at hlen
      refine ⟨wL_symm l, hg.self, wL_nn l, hg.one, (List.perm_append_singleton r X).nodup_iff.1 hnd, by omega, fun P ⟨x, hx, hPx⟩ hPr => Classical.byContradiction fun hno => ?_⟩
      have hxm := (hmem x).1 (by simp [hx])
      have hrm := (hmem r).1 (by simp)
      have hr : Rch (Adj l) x r := (part_iff (hp x hxm.1) (hp r hrm.1)).1 (by rw [hxm.2, hrm.2])
      have := rch_closed (fun j => j ∈ r :: X ∧ P j) ⟨by simp [hx], hPx⟩ (fun c j hc hs => by
        obtain ⟨hc1, hc2⟩ := hc
        have hcm := (hmem c).1 hc1
        obtain ⟨_, hjN⟩ := adj_low hg c j hs
        have hj1 : j ∈ r :: X := (hmem j).2 ⟨hjN, by rw [← hcm.2]; exact ((part_iff (hp c hcm.1) (hp j hjN)).2 ⟨1, .step .start hs⟩).symm⟩
        refine ⟨hj1, Classical.byContradiction fun hnj => hno ⟨c, ?_, hc2, j, hj1, hnj, hg.link hs⟩⟩
        rcases List.mem_cons.1 hc1 with e | e
        · exact absurd (e ▸ hc2) hPr
        · exact e) hr
      exact hPr this.2
    · rw [List.dropLast_concat_getLast hne', mem_bitsL, hyb] at hx
      exact hx.1
end
end Go.Proofs.YtbbdiondhnmnaaaDoor
