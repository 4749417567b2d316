/- The two checks of players are one. Conditions: none. -/
import Derived.Test.YtnpcbbdfpbnakaaDoorBeatsB
namespace Go.Proofs.YtnpcbbdfpbnakaaDoor
open Go.RowKit

theorem back_bit (l : List W) (i : Nat) : ∀ (j m : Nat), j ≤ 32 → (backTo l i j).getLsbD m = (decide (m < j) && (lw l m).getLsbD i)
  | 0, m, _ => by simp [backTo, b_0]
  | j + 1, m, hj => by
    rw [backTo, b_or, back_bit l i j m (by omega), b_shl, b_and, b_1, b_shr]
    rcases Nat.lt_trichotomy m j with h | h | h
    · have h1 : m < j + 1 := by omega
      simp [h, h1]
    · subst h
      have h1 : m < 32 := by omega
      simp [h1]
    · have h1 : ¬ m < j := by omega
      have h2 : ¬ m < j + 1 := by omega
      have h3 : ¬ m - j = 0 := by omega
      simp [h1, h2, h3]
theorem wide_eq (n : Nat) (h : n ≤ 8) (x : W) : decide (wN (wShl w1 n) ≤ wN x) = wide n x := by
  unfold wide
  rw [shr_zero_iff]
  congr 1
  rw [eq_iff_iff]
  unfold wN
  rw [wN_shl1 (by omega)]
  omega
theorem row_pairs (l : List W) (hn : l.length ≤ 8) (hw : l.any (wide l.length) = false) (i : Nat) (hi : i < l.length) : rowBad l i = pairsBad l i := by
  have hlow : ∀ j, l.length ≤ j → (lw l i).getLsbD j = false := fun j hj => by
    have h1 := List.any_eq_false.1 hw (l[i]) (List.getElem_mem hi)
    unfold wide at h1
    rw [shr_zero_iff] at h1
    rw [lw_at l i hi]
    exact bit_lt (n := l.length) (by simpa using h1) hj
  rw [← Bool.not_inj_iff, Bool.eq_iff_iff, Bool.not_eq_true', Bool.not_eq_true']
  unfold rowBad pairsBad
  rw [Bool.or_eq_false_iff, bne_eq_false_iff_eq, bne_eq_false_iff_eq, List.any_eq_false]
  constructor
  · rintro ⟨h1, h2⟩ j hj
    have hjl : j < l.length := List.mem_range.1 hj
    have e1 := congrArg (fun z : W => z.getLsbD j) h1
    have e2 := congrArg (fun z : W => z.getLsbD j) h2
    have hjn : j < 32 := by omega
    simp only [b_and, b_or, b_but, b_0, b_mask (show l.length < 32 by omega), b_one, back_bit l i l.length j (by omega), hjl, hjn, decide_true, Bool.true_and] at e1 e2
    unfold pairBad
    rw [bitB_nat, bitB_nat, bitB_nat]
    by_cases hij : i = j
    · subst hij
      simp at e1
      simp [e1]
    · have hji : ¬ j = i := fun e => hij e.symm
      simp [hij]
      simp [hji] at e2
      intro h
      rw [← h] at e1 e2
      simp at e1 e2
      rw [e1] at e2
      cases e2
  · intro h
    have key : ∀ j, j < l.length → pairBad l i j = false := fun j hj => by simpa using h j (List.mem_range.2 hj)
    refine ⟨w_ext fun m hm => ?_, w_ext fun m hm => ?_⟩
    · rw [b_and, b_0, back_bit l i l.length m (by omega)]
      rcases Nat.lt_or_ge m l.length with hml | hml
      · have k := key m hml
        unfold pairBad at k
        rw [bitB_nat, bitB_nat, bitB_nat] at k
        by_cases him : i = m
        · subst him
          simp at k
          simp [k]
        · simp [him] at k
          cases hx : (lw l i).getLsbD m <;> cases hy : (lw l m).getLsbD i <;> simp_all
      · simp [hlow m hml]
    · rw [b_or, b_but, b_mask (show l.length < 32 by omega), b_one, back_bit l i l.length m (by omega)]
      rcases Nat.lt_or_ge m l.length with hml | hml
      · have k := key m hml
        unfold pairBad at k
        rw [bitB_nat, bitB_nat, bitB_nat] at k
        by_cases him : i = m
        · subst him
          simp at k
          rw [k]
          simp [hm]
        · have hmi : ¬ m = i := fun e => him e.symm
          simp [him] at k
          cases hx : (lw l i).getLsbD m <;> cases hy : (lw l m).getLsbD i <;> simp_all
      · have h1 : ¬ m < l.length := by omega
        simp [hlow m hml, h1]
theorem any_congr_range {p q : Nat → Bool} {n : Nat} (h : ∀ i, i < n → p i = q i) : (List.range n).any p = (List.range n).any q := by
  rw [Bool.eq_iff_iff, List.any_eq_true, List.any_eq_true]
  constructor
  · rintro ⟨x, hx, hp⟩; exact ⟨x, hx, by rw [← h x (List.mem_range.1 hx)]; exact hp⟩
  · rintro ⟨x, hx, hp⟩; exact ⟨x, hx, by rw [h x (List.mem_range.1 hx)]; exact hp⟩
theorem beats_same (l : List W) : beatsRef l = beatsCheck l := by
  unfold beatsRef beatsCheck
  by_cases h8 : 8 < l.length
  · rw [if_pos h8, if_pos h8]
  · rw [if_neg h8, if_neg h8]
    have he : (l.any fun x => decide (wN (wShl w1 l.length) ≤ wN x)) = l.any (wide l.length) := by
      congr 1
      funext x
      exact wide_eq _ (by omega) x
    rw [he]
    by_cases hw : l.any (wide l.length) = true
    · rw [if_pos hw, if_pos hw]
    · rw [if_neg hw, if_neg hw, any_congr_range fun i hi => row_pairs l (by omega) (by simpa using hw) i hi]

end Go.Proofs.YtnpcbbdfpbnakaaDoor
