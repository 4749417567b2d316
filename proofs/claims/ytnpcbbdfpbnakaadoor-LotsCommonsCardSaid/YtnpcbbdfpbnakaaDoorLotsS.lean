/- All sets within a set of words: their sums, and which are free: in plain Lean. Conditions: none. -/
import Derived.Test.YtnpcbbdfpbnakaaDoorLotsR
namespace Go.Proofs.YtnpcbbdfpbnakaaDoor
open Go.RowKit

def Sb (s x : BitVec 32) : Prop := s.toNat &&& x.toNat = s.toNat
theorem Sb_iff {s x : BitVec 32} : Sb s x ↔ ∀ j, s.getLsbD j = true → x.getLsbD j = true := ⟨fun h j hj => @bit_sub x.toNat s.toNat h j hj, fun h => sub_of_bits h⟩
theorem Sb_self (x : BitVec 32) : Sb x x := Nat.and_self _
theorem lot_pos {s : BitVec 32} (h : s ≠ w0) : 0 < s.toNat := by
  rcases Nat.eq_zero_or_pos s.toNat with e | e
  · exact absurd (BitVec.eq_of_toNat_eq (by rw [e]; rfl)) h
  · exact e
theorem lotNext_nat {s x : BitVec 32} (h : s ≠ w0) : (wAnd (wSub s w1) x).toNat = (s.toNat - 1) &&& x.toNat := by
  unfold wAnd wSub
  rw [BitVec.toNat_and, BitVec.toNat_sub]
  have := lot_pos h
  have hs := s.isLt
  have h1 : w1.toNat = 1 := rfl
  rw [h1]
  congr 1
  omega
theorem lotNext_sb (s x : BitVec 32) : Sb (wAnd (wSub s w1) x) x := Sb_iff.2 fun j hj => by
  rw [b_and, Bool.and_eq_true] at hj
  exact hj.2
theorem lotNext_lt {s x : BitVec 32} (h : s ≠ w0) : (wAnd (wSub s w1) x).toNat < s.toNat := by
  rw [lotNext_nat h]
  exact sub_lt (lot_pos h)
theorem lotNext_top {s t x : BitVec 32} (hs : Sb s x) (ht : Sb t x) (h : t.toNat < s.toNat) : t.toNat ≤ (wAnd (wSub s w1) x).toNat := by
  rw [lotNext_nat (fun e => by rw [e] at h; have : w0.toNat = 0 := rfl; omega)]
  exact sub_next _ _ _ hs ht h
theorem xsum_rev (f : Nat → BitVec 32) (p : Nat → Bool) : ∀ L : List Nat, xsum f p L.reverse = xsum f p L
  | [] => rfl
  | a :: L => by
    rw [List.reverse_cons, xsum_snoc, xsum_rev f p L]
    rfl
theorem sumW_bits (l : List (BitVec 32)) {s x : BitVec 32} {n : Nat} (hn : n ≤ 32) (hx : x.toNat < 2 ^ n) (h : Sb s x) : sumW l s n = xsum (lw l) (fun j => s.getLsbD j) (bitsL x).reverse := by
  unfold sumW bitsL
  rw [xsum_rev, xsum_filter (lw l) (Sb_iff.1 h)]
  refine (xsum_range (lw l) (fun j hj => ?_) 32 hn).symm
  rw [← Bool.not_eq_true]
  intro e
  have := Sb_iff.1 h j e
  rw [bit_lt hx hj] at this
  cases this
/-- The word of those of x for which p says yes. -/
def pickW (p : Nat → Bool) (x : BitVec 32) : BitVec 32 := BitVec.ofNat 32 (mkS (fun j => p j && x.getLsbD j) 32)
theorem pickW_bit (p : Nat → Bool) (x : BitVec 32) (j : Nat) : (pickW p x).getLsbD j = (p j && x.getLsbD j) := by
  unfold pickW
  rw [BitVec.getLsbD_ofNat, mkS_bit]
  rcases Nat.lt_or_ge j 32 with h | h
  · simp [h]
  · rw [b_ge x h]
    simp
theorem pickW_sb (p : Nat → Bool) (x : BitVec 32) : Sb (pickW p x) x := Sb_iff.2 fun j hj => by
  rw [pickW_bit, Bool.and_eq_true] at hj
  exact hj.2
theorem pickW_sum (f : Nat → BitVec 32) (p : Nat → Bool) (x : BitVec 32) : xsum f (fun j => (pickW p x).getLsbD j) (bitsL x).reverse = xsum f p (bitsL x).reverse :=
  xsum_congr f fun j hj => by
    rw [pickW_bit, mem_bitsL.1 (List.mem_reverse.1 hj), Bool.and_true]
theorem bitsL_nodup (x : BitVec 32) : (bitsL x).Nodup := List.nodup_range.filter _
theorem rev_nodup (x : BitVec 32) : (bitsL x).reverse.Nodup := List.pairwise_reverse.2 ((bitsL_nodup x).imp fun h => h.symm)
theorem Sp_sums (l : List (BitVec 32)) {x : BitVec 32} {n : Nat} (hn : n ≤ 32) (hx : x.toNat < 2 ^ n) (y : BitVec 32) : Sp ((bitsL x).map (lw l)).reverse y ↔ ∃ s, Sb s x ∧ sumW l s n = y := by
  rw [← List.map_reverse, Sp_xsum (lw l) _ y (rev_nodup x)]
  constructor
  · rintro ⟨p, hp⟩
    exact ⟨pickW p x, pickW_sb p x, by rw [sumW_bits l hn hx (pickW_sb p x), pickW_sum, hp]⟩
  · rintro ⟨s, hs, rfl⟩
    exact ⟨_, (sumW_bits l hn hx hs).symm⟩
theorem pop_bitsL (x : BitVec 32) : pop x = (bitsL x).length := by
  unfold pop popTo bitsL
  rw [List.countP_eq_length_filter]
/-- No sum of some of a set is nothing. -/
def FreeW (l : List (BitVec 32)) (x : BitVec 32) (n : Nat) : Prop := ∀ s, Sb s x → s ≠ w0 → sumW l s n ≠ w0
theorem free_iff (l : List (BitVec 32)) {x : BitVec 32} {n : Nat} (hn : n ≤ 32) (hx : x.toNat < 2 ^ n) : FreeW l x n ↔ rk ((bitsL x).map (lw l)).reverse = pop x := by
  rw [pop_bitsL, ← List.map_reverse, ← List.length_reverse, ← free_rk (lw l) _ (rev_nodup x)]
  constructor
  · rintro h p ⟨j, hj, hpj⟩ h0
    have hjx := mem_bitsL.1 (List.mem_reverse.1 hj)
    refine h (pickW p x) (pickW_sb p x) (fun e => ?_) ?_
    · have := pickW_bit p x j
      rw [e, b_0, hpj, hjx] at this
      cases this
    · rw [sumW_bits l hn hx (pickW_sb p x), pickW_sum, h0]
  · intro h s hs h0 hsum
    rw [sumW_bits l hn hx hs] at hsum
    refine h _ ?_ hsum
    have hex : ∃ j, s.getLsbD j = true := by
      obtain ⟨i, _, _, hi, _⟩ := bl_top h0
      exact ⟨i, hi⟩
    obtain ⟨j, hj⟩ := hex
    exact ⟨j, List.mem_reverse.2 (mem_bitsL.2 (Sb_iff.1 hs j hj)), hj⟩
/-- The sums of the sets down to s. -/
def SumsTo (l : List (BitVec 32)) (x : BitVec 32) (n : Nat) (K : List (BitVec 32)) (m : Nat) : Prop := K.Nodup ∧ ∀ y, y ∈ K ↔ ∃ t, Sb t x ∧ m ≤ t.toNat ∧ sumW l t n = y
theorem SumsTo.start (l : List (BitVec 32)) (x : BitVec 32) (n : Nat) : SumsTo l x n [] (x.toNat + 1) :=
  ⟨List.nodup_nil, fun y => ⟨fun h => (by cases h), fun ⟨t, h1, h2, _⟩ => by have := sub_le h1; omega⟩⟩
theorem SumsTo.old {l : List (BitVec 32)} {x s : BitVec 32} {n : Nat} {K : List (BitVec 32)} (hs : Sb s x) (h : SumsTo l x n K (s.toNat + 1)) (hin : sumW l s n ∈ K) : SumsTo l x n K s.toNat :=
  ⟨h.1, fun y => by
    rw [h.2]
    constructor
    · rintro ⟨t, h1, h2, h3⟩
      exact ⟨t, h1, by omega, h3⟩
    · rintro ⟨t, h1, h2, h3⟩
      by_cases he : t = s
      · subst he
        have := (h.2 _).1 hin
        rwa [h3] at this
      · refine ⟨t, h1, ?_, h3⟩
        rcases Nat.eq_or_lt_of_le h2 with e | e
        · exact absurd (BitVec.eq_of_toNat_eq e.symm) he
        · exact e⟩
theorem SumsTo.new {l : List (BitVec 32)} {x s : BitVec 32} {n : Nat} {K : List (BitVec 32)} (hs : Sb s x) (h : SumsTo l x n K (s.toNat + 1)) (hin : sumW l s n ∉ K) : SumsTo l x n (K ++ [sumW l s n]) s.toNat :=
  ⟨List.nodup_append.2 ⟨h.1, by simp, fun a ha b hb e => by
      rw [List.mem_singleton] at hb
      subst hb
      subst e
      exact hin ha⟩, fun y => by
    rw [List.mem_append, h.2, List.mem_singleton]
    constructor
    · rintro (⟨t, h1, h2, h3⟩ | rfl)
      · exact ⟨t, h1, by omega, h3⟩
      · exact ⟨s, hs, Nat.le_refl _, rfl⟩
    · rintro ⟨t, h1, h2, h3⟩
      rcases Nat.eq_or_lt_of_le h2 with e | e
      · rw [← h3, BitVec.eq_of_toNat_eq e.symm]
        exact .inr rfl
      · exact .inl ⟨t, h1, e, h3⟩⟩
theorem SumsTo.next {l : List (BitVec 32)} {x s : BitVec 32} {n : Nat} {K : List (BitVec 32)} (hs : Sb s x) (h : SumsTo l x n K s.toNat) (h0 : s ≠ w0) : SumsTo l x n K ((wAnd (wSub s w1) x).toNat + 1) :=
  ⟨h.1, fun y => by
    rw [h.2]
    have hlt := lotNext_lt (x := x) h0
    constructor
    · rintro ⟨t, h1, h2, h3⟩
      exact ⟨t, h1, by omega, h3⟩
    · rintro ⟨t, h1, h2, h3⟩
      refine ⟨t, h1, ?_, h3⟩
      rcases Nat.lt_or_ge t.toNat s.toNat with hl | hg
      · have := lotNext_top hs h1 hl
        omega
      · exact hg⟩
theorem SumsTo.done {l : List (BitVec 32)} {x s : BitVec 32} {n : Nat} {K : List (BitVec 32)} (hn : n ≤ 32) (hx : x.toNat < 2 ^ n) (h : SumsTo l x n K s.toNat) (h0 : s = w0) : K.length = 2 ^ rk ((bitsL x).map (lw l)).reverse :=
  span_many h.1 fun y => by
    rw [h.2, Sp_sums l hn hx]
    constructor
    · rintro ⟨t, h1, _, h3⟩
      exact ⟨t, h1, h3⟩
    · rintro ⟨t, h1, h3⟩
      refine ⟨t, h1, ?_, h3⟩
      rw [h0]
      exact Nat.zero_le _
abbrev lotV (x : BitVec 32) : Value := .int .u32 (wN x)
def seenL (K : List (BitVec 32)) : List (BitVec 32 × Value) := K.map fun y => (y, .bool true)
theorem getK_seen (y : BitVec 32) : ∀ K : List (BitVec 32), getK (seenL K) y = if y ∈ K then some (.bool true) else none
  | [] => rfl
  | a :: K => by
    show (if y = a then some (Value.bool true) else getK (seenL K) y) = _
    rw [getK_seen y K]
    by_cases h : y = a
    · simp [h]
    · simp [h]
theorem putK_seen {y : BitVec 32} {K : List (BitVec 32)} (h : y ∉ K) : putK (seenL K) y (.bool true) = seenL (K ++ [y]) := by
  rw [putK_none]
  · simp [seenL]
  · intro p hp
    obtain ⟨z, hz, rfl⟩ := List.mem_map.1 hp
    exact fun e => h (e ▸ hz)
end Go.Proofs.YtnpcbbdfpbnakaaDoor
