/- Layers of a graph by words, in plain Lean. Conditions: none. -/
import Derived.Test.YtnpcbbdfpbnakaaDoorPartsP
namespace Go.Proofs.YtnpcbbdfpbnakaaDoor
open Go.RowKit

theorem near_adj {N : Nat} {l : List Ed} (hg : GoodG N l) (c j : Nat) : (lw (nearL N l) c).getLsbD j = true ↔ Adj l c j := by
  rw [← rs_adj hg]
  refine ⟨fun h => ?_, fun h => h.1⟩
  have hN := hg.n10
  rcases Nat.lt_or_ge c N with hc | hc
  · refine ⟨h, ?_⟩
    have ha : Adj l c j := by rw [near_bit hg hc] at h; exact h
    rw [b_mask (by omega)]
    simpa using (adj_low hg c j ha).2
  · have : lw (nearL N l) c = w0 := by
      unfold lw
      rw [List.getD_eq_getElem?_getD, List.getElem?_eq_none (by rw [nearL_length]; exact hc)]
      rfl
    rw [this, b_0] at h
    cases h
/-- The state ahead of the layer d. -/
structure Bfs (N : Nat) (l : List Ed) (k d : Nat) (seen next : BitVec 32) (f : Nat → Int) : Prop where
  nx : ∀ j, next.getLsbD j = true ↔ Lay (Adj l) k d j
  sn : ∀ j, seen.getLsbD j = true ↔ ∃ e, e < d ∧ Lay (Adj l) k e j
  val : ∀ j, j < N → (∃ e : Nat, e < d ∧ Lay (Adj l) k e j ∧ f j = e) ∨ ((∀ e, e < d → ¬ Lay (Adj l) k e j) ∧ f j = -1)
  dl : d ≤ seen.toNat
theorem lay_zero {R : Nat → Nat → Prop} (k j : Nat) : Lay R k 0 j ↔ j = k := by
  refine ⟨fun h => ?_, fun h => ?_⟩
  · have h1 := h.1
    cases h1
    rfl
  · subst h
    exact ⟨.start, fun _ _ => Nat.zero_le _⟩
theorem lay_same {R : Nat → Nat → Prop} {k d e j : Nat} (h : Lay R k d j) (h' : Lay R k e j) : d = e := by
  have := h.2 _ h'.1
  have := h'.2 _ h.1
  omega
theorem Bfs.start {N : Nat} {l : List Ed} {k : Nat} (hk : k < N) (hN : N ≤ 10) : Bfs N l k 0 w0 (wShl w1 k) (fun _ => -1) := by
  refine ⟨fun j => ?_, fun j => ?_, fun j _ => .inr ⟨fun e h => by omega, rfl⟩, Nat.zero_le _⟩
  · rw [lay_zero, b_one]
    simp
    omega
  · rw [b_0]
    constructor
    · intro h; cases h
    · rintro ⟨e, h, _⟩; omega
theorem lay_low {N : Nat} {l : List Ed} (hg : GoodG N l) {k : Nat} (hk : k < N) {d j : Nat} (h : Lay (Adj l) k d j) : j < N := by
  have h1 := h.1
  cases h1 with
  | start => exact hk
  | step _ hr => exact (adj_low hg _ _ hr).2
def bfsF (next : BitVec 32) (d : Nat) (f : Nat → Int) (j : Nat) : Int := if j ∈ bitsL next then (d : Int) else f j
theorem Bfs.next {N : Nat} {l : List Ed} {k d : Nat} {seen next : BitVec 32} {f : Nat → Int} (hg : GoodG N l) (h : Bfs N l k d seen next f) (hne : next ≠ w0) :
    Bfs N l k (d + 1) (wOr seen next) (wBut (orAll (nearL N l) w0 (bitsL next)) (wOr seen next)) (bfsF next d f) := by
  have hs : ∀ j, (wOr seen next).getLsbD j = true ↔ ∃ e, e < d + 1 ∧ Lay (Adj l) k e j := fun j => by
    rw [b_or, Bool.or_eq_true, h.sn, h.nx]
    constructor
    · rintro (⟨e, he, hl⟩ | hl)
      · exact ⟨e, by omega, hl⟩
      · exact ⟨d, by omega, hl⟩
    · rintro ⟨e, he, hl⟩
      rcases Nat.lt_succ_iff_lt_or_eq.1 he with he | he
      · exact .inl ⟨e, he, hl⟩
      · subst he; exact .inr hl
  refine ⟨fun j => ?_, hs, fun j hj => ?_, ?_⟩
  · rw [b_but, orAll_bit, b_0, Bool.false_or, Bool.and_eq_true, List.any_eq_true, Bool.not_eq_true']
    constructor
    · rintro ⟨⟨c, hc, hcj⟩, hno⟩
      refine lay_of ((h.nx c).1 (mem_bitsL.1 hc)) ((near_adj hg c j).1 hcj) fun e he hl => ?_
      have := (hs j).2 ⟨e, by omega, hl⟩
      rw [hno] at this
      cases this
    · intro hl
      obtain ⟨c, hc, hr⟩ := lay_back hl
      refine ⟨⟨c, mem_bitsL.2 ((h.nx c).2 hc), (near_adj hg c j).2 hr⟩, ?_⟩
      rcases hb : (wOr seen next).getLsbD j with _ | _
      · rfl
      · obtain ⟨e, he, hl'⟩ := (hs j).1 hb
        have := lay_same hl hl'
        omega
  · unfold bfsF
    by_cases hn : j ∈ bitsL next
    · rw [if_pos hn]
      exact .inl ⟨d, by omega, (h.nx j).1 (mem_bitsL.1 hn), rfl⟩
    · rw [if_neg hn]
      have hnl : ¬ Lay (Adj l) k d j := fun hl => hn (mem_bitsL.2 ((h.nx j).2 hl))
      rcases h.val j hj with ⟨e, he, hl, hf⟩ | ⟨hno, hf⟩
      · exact .inl ⟨e, by omega, hl, hf⟩
      · refine .inr ⟨fun e he hl => ?_, hf⟩
        rcases Nat.lt_succ_iff_lt_or_eq.1 he with he | he
        · exact hno e he hl
        · subst he; exact hnl hl
  · have h1 := or_ge seen next
    have h2 := h.dl
    have hne' : seen.toNat ≠ (wOr seen next).toNat := fun e => by
      have e' := BitVec.eq_of_toNat_eq e
      obtain ⟨j, hj⟩ := ne_bit hne
      have hb : seen.getLsbD j = true := by rw [e', b_or, hj, Bool.or_true]
      obtain ⟨e, he, hl⟩ := (h.sn j).1 hb
      have := lay_same ((h.nx j).1 hj) hl
      omega
    omega
theorem Bfs.done {N : Nat} {l : List Ed} {k d : Nat} {seen : BitVec 32} {f : Nat → Int} (h : Bfs N l k d seen w0 f) {j : Nat} (hj : j < N) : DistIs (Adj l) k j (f j) := by
  have hno : ∀ e, d ≤ e → ∀ j, ¬ Lay (Adj l) k e j := lay_end fun j hl => by
    have := (h.nx j).2 hl
    rw [b_0] at this
    cases this
  rcases h.val j hj with ⟨e, _, hl, hf⟩ | ⟨hn, hf⟩
  · exact .inr ⟨e, hf, hl.1, hl.2⟩
  · refine .inl ⟨hf, fun m hm => ?_⟩
    obtain ⟨e, hl⟩ := rch_lay ⟨m, hm⟩
    rcases Nat.lt_or_ge e d with he | he
    · exact hn e he hl
    · exact hno e he j hl
theorem bfs_falls {N : Nat} {l : List Ed} {k d : Nat} {seen next : BitVec 32} {f : Nat → Int} (hg : GoodG N l) (h : Bfs N l k d seen next f) (hne : next ≠ w0) :
    4294967296 - (wOr seen next).toNat < 4294967296 - seen.toNat := by
  have h1 := or_ge seen next
  have h3 := (wOr seen next).isLt
  have hne' : seen.toNat ≠ (wOr seen next).toNat := fun e => by
    have e' := BitVec.eq_of_toNat_eq e
    obtain ⟨j, hj⟩ := ne_bit hne
    have hb : seen.getLsbD j = true := by rw [e', b_or, hj, Bool.or_true]
    obtain ⟨e, he, hl⟩ := (h.sn j).1 hb
    have := lay_same ((h.nx j).1 hj) hl
    omega
  omega
end Go.Proofs.YtnpcbbdfpbnakaaDoor
