/- All pairings that hold, one behind the other, in plain Lean: the program's search and the reference's. Conditions: the wishes are good. -/
import Derived.Test.YtodbhgbgeiailaaHoldP
namespace Go.Proofs.Ytodbhgbgeiailaa
open Go.RowKit

/-- The reference: begun with l. -/
def refJ (L R : List (Sls Int)) (l : List Int) (j : Int) : Bool := decide (0 ≤ j) && (hasB l j || !hasB (ls L l.length) j || !hasB (ls R j.toNat) l.length)
def refA (L R : List (Sls Int)) (n : Nat) : Nat → List Int → List (List Int)
  | 0, l => if holdR L R l then [l] else []
  | f + 1, l => (List.range (n + 1)).flatMap fun q : Nat => if refJ L R l ((q : Int) - 1) then [] else refA L R n f (l ++ [(q : Int) - 1])
/-- The program. -/
def prgJ (L : List (Sls Int)) (l : List Int) (j : Int) : Bool := decide (j < 0) || (!hasB l j && hasB (ls L l.length) j)
def prgA (L R : List (Sls Int)) (n : Nat) : Nat → List Int → List (List Int)
  | 0, l => if holdP L R l then [l] else []
  | f + 1, l => (List.range (n + 1)).flatMap fun q : Nat => if prgJ L l ((q : Int) - 1) then prgA L R n f (l ++ [(q : Int) - 1]) else []
theorem prgA_pre {L R : List (Sls Int)} {n : Nat} : ∀ (f : Nat) (l x : List Int), x ∈ prgA L R n f l → l <+: x ∧ x.length = l.length + f ∧ holdP L R x = true
  | 0, l, x, h => by
    unfold prgA at h
    split at h
    · rename_i hh
      rw [List.mem_singleton] at h
      subst h
      exact ⟨List.prefix_refl _, rfl, hh⟩
    · cases h
  | f + 1, l, x, h => by
    unfold prgA at h
    obtain ⟨q, _, hq⟩ := List.mem_flatMap.1 h
    split at hq
    · obtain ⟨h1, h2, h3⟩ := prgA_pre f _ x hq
      refine ⟨(List.prefix_append l [(q : Int) - 1]).trans h1, ?_, h3⟩
      rw [h2, List.length_append, List.length_singleton]
      omega
    · cases hq
theorem hold_has {n : Nat} {L R : List (Sls Int)} {x : List Int} (hL : GoodL n L) (hR : GoodL n R) (hx : x.length = n) (h : holdP L R x = true) {i : Nat} (hi : i < n) {j : Int} (hj : x.getD i 0 = j) (h0 : 0 ≤ j) : hasB (ls L i) j = true ∧ hasB (ls R j.toNat) i = true := by
  rw [hold_same hL hR hx] at h
  unfold holdR at h
  rw [Bool.and_eq_true, Bool.not_eq_true', List.any_eq_false] at h
  have := h.1 i (List.mem_range.2 (by omega))
  rw [hj] at this
  unfold lackR at this
  rw [decide_eq_true h0, Bool.true_and] at this
  cases h1 : hasB (ls L i) j <;> cases h2 : hasB (ls R j.toNat) i <;> simp [h1, h2] at this ⊢
theorem prg_ref {n : Nat} {L R : List (Sls Int)} (hL : GoodL n L) (hR : GoodL n R) : ∀ (f : Nat) (l : List Int), l.length + f = n → prgA L R n f l = refA L R n f l
  | 0, l, h => by
    unfold prgA refA
    rw [hold_same hL hR (by omega)]
  | f + 1, l, h => by
    unfold prgA refA
    congr 1
    funext q
    rw [prg_ref hL hR f (l ++ [(q : Int) - 1]) (by rw [List.length_append, List.length_singleton]; omega)]
    obtain ⟨j, hj⟩ : ∃ j, j = (q : Int) - 1 := ⟨_, rfl⟩
    rw [← hj]
    by_cases h0 : 0 ≤ j
    · unfold prgJ refJ
      rw [decide_eq_true h0, decide_eq_false (show ¬ j < 0 by omega), Bool.false_or, Bool.true_and]
      cases h1 : hasB l j with
      | true => simp
      | false =>
        cases h2 : hasB (ls L l.length) j with
        | false => simp
        | true =>
          cases h3 : hasB (ls R j.toNat) l.length with
          | true => simp
          | false =>
            simp only [Bool.not_false, Bool.and_true, if_true, Bool.not_true, Bool.or_false, Bool.false_or]
            rw [← prg_ref hL hR f (l ++ [j]) (by rw [List.length_append, List.length_singleton]; omega)]
            cases he : prgA L R n f (l ++ [j]) with
            | nil => rfl
            | cons x t =>
              obtain ⟨p1, p2, p3⟩ := prgA_pre f (l ++ [j]) x (by rw [he]; exact List.mem_cons_self)
              rw [List.length_append, List.length_singleton] at p2
              have hx : x.getD l.length 0 = j := by
                obtain ⟨t', ht⟩ := p1
                rw [← ht]
                simp [List.getD_eq_getElem?_getD]
              have := (hold_has hL hR (by omega) p3 (show l.length < n by omega) hx h0).2
              rw [h3] at this
              cases this
    · unfold prgJ refJ
      rw [decide_eq_false h0, decide_eq_true (show j < 0 by omega)]
      simp
end Go.Proofs.Ytodbhgbgeiailaa
