/- The program's table of boxes: what one round finds. In plain Lean. Conditions: none. -/
import Derived.Test.YtfaifadfilndmaaDoorFewT
import Derived.Test.YtfaifadfilndmaaDoorFewU
import Derived.Test.YtfaifadfilndmaaDoorNats
import Derived.Test.YtfaifadfilndmaaDoorEach
namespace Go.Proofs.YtfaifadfilndmaaDoor
open Go.RowKit

def cmpI (a b : Int) : Int := if a < b then -1 else if b < a then 1 else 0
def orI (a b : Int) : Int := if a = 0 then b else a
def fLt (a b : FSt) : Bool := decide (orI (cmpI a.1 b.1) (cmpI a.2 b.2) < 0)
theorem fLt_iff (a b : FSt) : fLt a b = true ↔ ¬ fLe b a := by
  unfold fLt orI cmpI fLe
  rw [decide_eq_true_eq]
  split <;> (try split) <;> (try split) <;> (try split) <;> (try split) <;> omega

theorem nw_bit {k : Nat} (hk : k < 4294967296) (x : Nat) : (nw k).getLsbD x = k.testBit x := by
  unfold nw
  rw [BitVec.getLsbD_ofNat]
  by_cases hx : x < 32
  · simp [hx]
  · rw [Nat.testBit_lt_two_pow (Nat.lt_of_lt_of_le hk (show 4294967296 ≤ 2 ^ x from Nat.le_trans (by decide : 4294967296 ≤ 2 ^ 32) (Nat.pow_le_pow_right (by omega) (by omega))))]
    simp [hx]
theorem bits_nodup (x : BitVec 32) : (bitsL x).Nodup := List.nodup_range.filter _
theorem few_bit {n k i : Nat} (hn : n ≤ 8) (hk : k < 2 ^ n) : i ∈ bitsL (nw k) ↔ k.testBit i = true := by
  have h8 : (2 : Nat) ^ n ≤ 2 ^ 8 := Nat.pow_le_pow_right (by omega) hn
  rw [mem_bitsL, nw_bit (by omega)]
theorem few_lt {n k i : Nat} (hn : n ≤ 8) (hk : k < 2 ^ n) (hi : i ∈ bitsL (nw k)) : i < n := by
  rw [few_bit hn hk] at hi
  rcases Nat.lt_or_ge i n with h | h
  · exact h
  · rw [Nat.testBit_lt_two_pow (Nat.lt_of_lt_of_le hk (Nat.pow_le_pow_right (by omega) h))] at hi
    cases hi
theorem few_sub {n k i : Nat} (hn : n ≤ 8) (hk : k < 2 ^ n) (hi : i ∈ bitsL (nw k)) : pw i &&& k = pw i := by
  rw [few_bit hn hk] at hi
  apply Nat.eq_of_testBit_eq
  intro x
  unfold pw
  rw [Nat.testBit_and, Nat.testBit_two_pow]
  by_cases h : i = x
  · rw [← h, hi]; simp
  · simp [h]
theorem few_xor (k i x : Nat) : (nXor k (pw i)).testBit x = (k.testBit x != decide (i = x)) := by
  unfold nXor pw
  rw [Nat.testBit_xor, Nat.testBit_two_pow]
theorem few_less {n k i : Nat} (hn : n ≤ 8) (hk : k < 2 ^ n) (hi : i ∈ bitsL (nw k)) : nXor k (pw i) < k := by
  rw [few_bit hn hk] at hi
  have hand : nXor k (pw i) &&& k = nXor k (pw i) := by
    apply Nat.eq_of_testBit_eq
    intro x
    rw [Nat.testBit_and, few_xor]
    by_cases h : i = x
    · rw [← h, hi]; simp
    · simp [h]
  have hle : nXor k (pw i) ≤ k := by rw [← hand]; exact Nat.and_le_right
  have hne : nXor k (pw i) ≠ k := fun e => by
    have := few_xor k i i
    rw [e, hi] at this
    simp at this
  omega
theorem few_erase {n k i : Nat} (hn : n ≤ 8) (hk : k < 2 ^ n) (hi : i ∈ bitsL (nw k)) : (bitsL (nw (nXor k (pw i)))).Perm ((bitsL (nw k)).erase i) := by
  have hj := few_less hn hk hi
  refine (List.perm_ext_iff_of_nodup (bits_nodup _) ((bits_nodup _).erase i)).2 fun x => ?_
  rw [(bits_nodup (nw k)).mem_erase_iff, few_bit hn (by omega), few_bit hn hk, few_xor]
  rw [few_bit hn hk] at hi
  by_cases h : i = x
  · rw [← h, hi]; simp
  · have h' : x ≠ i := Ne.symm h
    simp [h, h']
/-- So many steps open so many boxes at most. -/
theorem fRun_le (room : Int) (sz : Nat → Int) (l : List Nat) : 0 ≤ (fRun room sz l).1 ∧ (fRun room sz l).1 ≤ l.length := by
  have : ∀ (l : List Nat) (s : FSt), s.1 ≤ (l.foldl (fun s i => fStep room s (sz i)) s).1 ∧ (l.foldl (fun s i => fStep room s (sz i)) s).1 ≤ s.1 + l.length := by
    intro l
    induction l with
    | nil => intro s; simp
    | cons a l ih =>
      intro s
      have h := ih (fStep room s (sz a))
      have h2 : s.1 ≤ (fStep room s (sz a)).1 ∧ (fStep room s (sz a)).1 ≤ s.1 + 1 := by
        unfold fStep
        split <;> simp <;> omega
      rw [List.foldl_cons, List.length_cons]
      push_cast
      omega
  have h := this l (0, room + 1)
  unfold fRun
  simp only at h
  omega
theorem fRun_hi {room : Int} {sz : Nat → Int} (hr : 0 ≤ room) (hs : ∀ i, sz i ≤ room) (l : List Nat) : (fRun room sz l).2 ≤ room + 1 := by
  have : ∀ (l : List Nat) (s : FSt), s.2 ≤ room + 1 → (l.foldl (fun s i => fStep room s (sz i)) s).2 ≤ room + 1 := fun l => by
    induction l with
    | nil => intro s h; exact h
    | cons a l ih =>
      intro s h
      rw [List.foldl_cons]
      refine ih _ ?_
      have := hs a
      unfold fStep
      split <;> simp <;> omega
  exact this l _ (Int.le_refl _)
theorem FMin.in_ {room : Int} {sz : Nat → Int} (hr : 0 ≤ room) (hs : ∀ i, 0 ≤ sz i ∧ sz i ≤ room) {L : List Nat} {b : FSt} (h : FMin room sz L b) : 0 ≤ b.1 ∧ b.1 ≤ L.length ∧ 0 ≤ b.2 ∧ b.2 ≤ room + 1 := by
  obtain ⟨l, hl, rfl⟩ := h.is
  have h1 := fRun_le room sz l
  have h2 := fRun_last hr (fun i => (hs i).1) l
  have h3 := fRun_hi hr (fun i => (hs i).2) l
  have h4 := hl.length_eq
  omega
/-- What the table holds of all but one. -/
noncomputable def gOf (room : Int) (sz : Nat → Int) (L : List Nat) (i : Nat) : FSt := Classical.epsilon fun b => FMin room sz (L.erase i) b
theorem gOf_is {room : Int} {sz : Nat → Int} {L : List Nat} {i : Nat} {b : FSt} (h : FMin room sz (L.erase i) b) : gOf room sz L i = b :=
  (Classical.epsilon_spec (p := fun b => FMin room sz (L.erase i) b) ⟨b, h⟩).same h
noncomputable def nxOf (room : Int) (sz : Nat → Int) (L : List Nat) (i : Nat) : FSt := fStep room (gOf room sz L i) (sz i)
noncomputable def curF (room : Int) (sz : Nat → Int) (L : List Nat) (c0 : FSt) (pre : List Nat) : FSt := pre.foldl (fun cur i => if fLt (nxOf room sz L i) cur = true then nxOf room sz L i else cur) c0
theorem curF_snoc (room : Int) (sz : Nat → Int) (L : List Nat) (c0 : FSt) (pre : List Nat) (i : Nat) : curF room sz L c0 (pre ++ [i]) = if fLt (nxOf room sz L i) (curF room sz L c0 pre) = true then nxOf room sz L i else curF room sz L c0 pre := by
  unfold curF
  rw [List.foldl_append]
  rfl
theorem curF_facts (room : Int) (sz : Nat → Int) (L : List Nat) (c0 : FSt) (pre : List Nat) : (curF room sz L c0 pre = c0 ∨ ∃ i ∈ pre, curF room sz L c0 pre = nxOf room sz L i) ∧ fLe (curF room sz L c0 pre) c0 ∧ ∀ i ∈ pre, fLe (curF room sz L c0 pre) (nxOf room sz L i) := by
  have main : ∀ (m : Nat) (pre : List Nat), pre.length = m → (curF room sz L c0 pre = c0 ∨ ∃ i ∈ pre, curF room sz L c0 pre = nxOf room sz L i) ∧ fLe (curF room sz L c0 pre) c0 ∧ ∀ i ∈ pre, fLe (curF room sz L c0 pre) (nxOf room sz L i) := by
    intro m
    induction m with
    | zero =>
      intro pre hp
      obtain rfl := List.eq_nil_of_length_eq_zero hp
      exact ⟨.inl rfl, fLe_refl _, fun i hi => by cases hi⟩
    | succ m ih =>
      intro pre hp
      rcases List.eq_nil_or_concat pre with rfl | ⟨p', a, rfl⟩
      · cases hp
      · rw [List.concat_eq_append] at hp ⊢
        obtain ⟨h1, h2, h3⟩ := ih p' (by simpa using hp)
        rw [curF_snoc]
        by_cases hl : fLt (nxOf room sz L a) (curF room sz L c0 p') = true
        · rw [if_pos hl]
          have hle : fLe (nxOf room sz L a) (curF room sz L c0 p') := by
            rcases fLe_total (nxOf room sz L a) (curF room sz L c0 p') with h | h
            · exact h
            · exact absurd h ((fLt_iff _ _).1 hl)
          refine ⟨.inr ⟨a, by simp, rfl⟩, fLe_trans hle h2, fun i hi => ?_⟩
          rcases List.mem_append.1 hi with hi | hi
          · exact fLe_trans hle (h3 i hi)
          · rw [List.mem_singleton] at hi
            rw [hi]; exact fLe_refl _
        · rw [if_neg hl]
          have hle : fLe (curF room sz L c0 p') (nxOf room sz L a) := Classical.byContradiction fun h => hl ((fLt_iff _ _).2 h)
          refine ⟨?_, h2, fun i hi => ?_⟩
          · rcases h1 with h1 | ⟨i, hi, h1⟩
            · exact .inl h1
            · exact .inr ⟨i, List.mem_append_left _ hi, h1⟩
          · rcases List.mem_append.1 hi with hi | hi
            · exact h3 i hi
            · rw [List.mem_singleton] at hi
              rw [hi]; exact hle
  exact main _ pre rfl
/-- The whole round finds the entry. -/
theorem cur_min {room : Int} {sz : Nat → Int} (hr : 0 ≤ room) (hs : ∀ i, 0 ≤ sz i ∧ sz i ≤ room) {L : List Nat} {n : Nat} (hL : L ≠ []) (hn : L.length ≤ n) (hg : ∀ i ∈ L, ∃ b, FMin room sz (L.erase i) b) : FMin room sz L (curF room sz L ((n + 1 : Nat), 0) L) := by
  have hg' : ∀ i ∈ L, FMin room sz (L.erase i) (gOf room sz L i) := fun i hi => by
    obtain ⟨b, hb⟩ := hg i hi
    rw [gOf_is hb]; exact hb
  obtain ⟨h1, _, h3⟩ := curF_facts room sz L ((n + 1 : Nat), 0) L
  refine FMin.step hr (fun i => (hs i).1) hL hg' ?_ h3
  rcases h1 with h1 | h1
  · exfalso
    obtain ⟨i, hi⟩ := List.exists_mem_of_ne_nil L hL
    have h4 := h3 i hi
    rw [h1] at h4
    have h5 := (hg' i hi).in_ hr hs
    have h6 := List.length_erase_of_mem hi
    have h7 : (nxOf room sz L i).1 ≤ (gOf room sz L i).1 + 1 := by
      unfold nxOf fStep
      split <;> simp <;> omega
    have h8 : 0 < L.length := List.length_pos_iff.2 hL
    unfold fLe at h4
    simp only at h4
    omega
  · exact h1
end Go.Proofs.YtfaifadfilndmaaDoor
