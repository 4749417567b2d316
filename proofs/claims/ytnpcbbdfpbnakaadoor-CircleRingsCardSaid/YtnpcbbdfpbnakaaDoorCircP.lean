/- The first ring of all nodes from a node on, by what is left: in plain Lean; a key of two words. Conditions: none. -/
import Derived.Test.YtnpcbbdfpbnakaaDoorSeekP
import Derived.Test.YtnpcbbdfpbnakaaDoorLaneP
import Derived.Test.YtnpcbbdfpbnakaaDoorKeys
import Derived.ChangeKeysEq
namespace Go.Proofs.YtnpcbbdfpbnakaaDoor
open Go.RowKit

/-- From a node on, through all that are left, and back to the node 0. -/
def cirF (t : List (BitVec 32)) : Nat → Nat → BitVec 32 → Option (List Nat)
  | 0, _, _ => none
  | f + 1, a, x => if x = w0 then (if bitB (lw t a) 0 = true then some [a] else none) else (bitsL (wAnd (lw t a) x)).findSome? fun i => (cirF t f i (wBut x (wShl w1 i))).map (a :: ·)
theorem pop_but {x : BitVec 32} {i : Nat} (h : x.getLsbD i = true) : pop (wBut x (wShl w1 i)) < pop x := by
  have hi : i < 32 := by
    rcases Nat.lt_or_ge i 32 with h1 | h1
    · exact h1
    · rw [b_ge x h1] at h; cases h
  unfold pop
  refine lpopTo_sub_lt (fun j hj => ?_) (i := i) ?_ h 32 hi
  · rw [b_but, Bool.and_eq_true] at hj; exact hj.1
  · rw [b_but, b_one]; simp [hi]
theorem findSome_congr {α β : Type} {f g : α → Option β} : ∀ {l : List α}, (∀ a ∈ l, f a = g a) → l.findSome? f = l.findSome? g
  | [], _ => rfl
  | a :: l, h => by
    rw [List.findSome?_cons, List.findSome?_cons, h a (by simp), findSome_congr (fun b hb => h b (by simp [hb]))]
theorem cirF_enough (t : List (BitVec 32)) : ∀ (f g a : Nat) (x : BitVec 32), pop x < f → pop x < g → cirF t f a x = cirF t g a x
  | 0, _, _, _, h, _ => by omega
  | _, 0, _, _, _, h => by omega
  | f + 1, g + 1, a, x, h1, h2 => by
    rw [cirF, cirF]
    split
    · rfl
    · refine findSome_congr fun i hi => ?_
      have hx : x.getLsbD i = true := by
        have := mem_bitsL.1 hi
        rw [b_and, Bool.and_eq_true] at this
        exact this.2
      have := pop_but hx
      rw [cirF_enough t f g i _ (by omega) (by omega)]
/-- A row's going on, by what is left. -/
theorem row_cir {N : Nat} (hN : N < 32) (t : List (BitVec 32)) : ∀ (f : Nat) (l : List Nat) (a : Nat), RowOk N (l ++ [a]) → (l ++ [a]).length + f = N → (∀ b, (l ++ [a]).getD 0 0 = b → b = 0) →
    rowF t true N f (l ++ [a]) = (cirF t (f + 1) a (leftW N (l ++ [a]))).map (l ++ ·)
  | 0, l, a, hok, hlen, h0 => by
    have hz := (leftW_zero hN hok).2 (by omega)
    rw [rowF, cirF, if_pos hz]
    unfold endOk
    have hne : (l ++ [a]).isEmpty = false := by simp
    have hl : lastN (l ++ [a]) = a := by unfold lastN; simp
    rw [hne, hl, h0 _ rfl]
    cases bitB (lw t a) 0
    · rfl
    · rfl
  | f + 1, l, a, hok, hlen, h0 => by
    have hnz : leftW N (l ++ [a]) ≠ w0 := fun h => by have := (leftW_zero hN hok).1 h; omega
    have hne : (l ++ [a]).isEmpty = false := by simp
    have hl : lastN (l ++ [a]) = a := by unfold lastN; simp
    rw [rowF_bits hN, cirF, if_neg hnz, nextW, hne, hl]
    simp only [Bool.false_eq_true, if_false]
    rw [wAnd_comm]
    have hmap : ∀ (L : List Nat) (g : Nat → Option (List Nat)), (L.findSome? g).map (l ++ ·) = L.findSome? fun i => (g i).map (l ++ ·) := fun L g => by
      induction L with
      | nil => rfl
      | cons b L ih =>
        rw [List.findSome?_cons, List.findSome?_cons]
        cases g b with
        | none => exact ih
        | some c => rfl
    rw [hmap]
    refine findSome_congr fun i hi => ?_
    have hx : (leftW N (l ++ [a])).getLsbD i = true := by
      have := mem_bitsL.1 hi
      rw [b_and, Bool.and_eq_true] at this
      exact this.2
    rw [leftW_bit hN, Bool.and_eq_true, decide_eq_true_iff] at hx
    have hno : (l ++ [a]).contains i = false := by simpa using hx.2
    rw [row_cir hN t f (l ++ [a]) i (hok.snoc hx.1 hno) (by simp at hlen ⊢; omega) (fun b hb => h0 b (by rw [← hb]; cases l <;> simp)), leftW_snoc]
    cases cirF t (f + 1) i (wBut (leftW N (l ++ [a])) (wShl w1 i)) <;> simp
/-- The search by what is left, with fuel enough for all. -/
def circ (t : List (BitVec 32)) (a : Nat) (x : BitVec 32) : Option (List Nat) := cirF t 11 a x
theorem circ_step (t : List (BitVec 32)) (a : Nat) {x : BitVec 32} (hx : x ≠ w0) (hp : pop x ≤ 10) : circ t a x = (bitsL (wAnd (lw t a) x)).findSome? fun i => (circ t i (wBut x (wShl w1 i))).map (a :: ·) := by
  unfold circ
  rw [cirF, if_neg hx]
  refine findSome_congr fun i hi => ?_
  have hxi : x.getLsbD i = true := by
    have := mem_bitsL.1 hi
    rw [b_and, Bool.and_eq_true] at this
    exact this.2
  have := pop_but hxi
  rw [cirF_enough t 10 11 i _ (by omega) (by omega)]
theorem circ_end (t : List (BitVec 32)) (a : Nat) : circ t a w0 = if bitB (lw t a) 0 = true then some [a] else none := by
  unfold circ
  rw [cirF, if_pos rfl]
abbrev twoV (p : BitVec 32 × BitVec 32) : Value := .agg #[.int .u32 (wN p.1), .int .u32 (wN p.2)]
theorem keyL_two : KeyL Tryd.prog 119 twoV where
  chk b a w := by
    obtain ⟨x, y⟩ := a
    kernel_rfl
  eqv a b w := by
    obtain ⟨x, y⟩ := a
    obtain ⟨x', y'⟩ := b
    unfold Op.equal
    rw [show Op.maxDepth = 9999 + 1 from rfl]
    obtain ⟨i, hi, _⟩ := info_parts (P := Tryd.prog) (e := 46) (z := .int .u32 0) (size := 1) (bytes := 4) (by kernel_rfl)
    rw [run_equalIn_array (P := Tryd.prog) (w := w) 9999 (t := 119) (e := 46) (n := 2) _ _ Tryd.underlying119 hi]
    have hcs : Tryd.prog.cellsOf 46 = 1 := by kernel_rfl
    have hr2 : List.range 2 = [0, 1] := rfl
    rw [hcs, hr2]
    have hag : ∀ W, (isAgg 46).run Tryd.prog W = .ok false W := fun W => by kernel_rfl
    have he := fun (W : World) (d : Nat) (p q : BitVec 32) => run_equalIn_int (P := Tryd.prog) W d 46 .u32 .u32 (wN p) (wN q) Tryd.underlying46
    by_cases h1 : x = x'
    · by_cases h2 : y = y'
      · subst h1 h2
        simp [Op.eqItems, part, hag, he, Result.andThen]
      · subst h1
        have h2' : ¬ wN y = wN y' := fun h => h2 (wN_inj h)
        simp [Op.eqItems, part, hag, he, Result.andThen, h2, h2']
    · have h1' : ¬ wN x = wN x' := fun h => h1 (wN_inj h)
      simp [Op.eqItems, part, hag, he, Result.andThen, h1, h1']
  desc := ⟨_, Tryd.underlying119, .inl fun a b => rfl⟩
  self a := by simp [Instr.sameBits]
end Go.Proofs.YtnpcbbdfpbnakaaDoor
