/- Rows of players in plain Lean: the first row that goes on with some, by a search in order. Conditions: none. -/
import Derived.Test.YtokmialpclcodaaDoorEach
import Derived.Test.YtokmialpclcodaaDoorCells
import Derived.Test.YtokmialpclcodaaDoorCount
namespace Go.Proofs.YtokmialpclcodaaDoor
open Go.RowKit

theorem findSome_filter {α β : Type} (p : α → Bool) (g : α → Option β) : ∀ l : List α, (l.filter p).findSome? g = l.findSome? fun i => if p i then g i else none
  | [] => rfl
  | a :: l => by
    rw [List.filter_cons]
    cases h : p a
    · simp only [Bool.false_eq_true, if_false, List.findSome?_cons, h]
      exact findSome_filter p g l
    · simp only [if_true, List.findSome?_cons, h]
      cases g a
      · exact findSome_filter p g l
      · rfl
theorem findSome_stop {α β : Type} {g : α → Option β} {pre : List α} {x : α} {xs : List α} {b : β} (hp : pre.findSome? g = none) (hx : g x = some b) (h : pre ++ [x] <+: xs) : xs.findSome? g = some b := by
  obtain ⟨z, hz⟩ := h
  rw [← hz, List.findSome?_append, List.findSome?_append, hp]
  simp [hx]
theorem findSome_more {α β : Type} {g : α → Option β} {pre : List α} {x : α} (hp : pre.findSome? g = none) (hx : g x = none) : (pre ++ [x]).findSome? g = none := by
  rw [List.findSome?_append, hp]
  simp [hx]
def lastN (l : List Nat) : Nat := l.getLastD 0
theorem lastN_at {l : List Nat} {k : Nat} (h : l.length = k + 1) : lastN l = l.getD k 0 := by
  unfold lastN
  rw [List.getLastD_eq_getLast?, List.getLast?_eq_getElem?, h, List.getD_eq_getElem?_getD]
  simp
/-- Which ones may come next: not in yet, and beaten by the last one. -/
def canGo (t : List (BitVec 32)) (l : List Nat) (i : Nat) : Bool := !l.contains i && (l.isEmpty || bitB (lw t (lastN l)) i)
def endOk (t : List (BitVec 32)) (ring : Bool) (l : List Nat) : Bool := !ring || (!l.isEmpty && bitB (lw t (lastN l)) (l.getD 0 0))
def rowF (t : List (BitVec 32)) (ring : Bool) (n : Nat) : Nat → List Nat → Option (List Nat)
  | 0, l => if endOk t ring l = true then some l else none
  | f + 1, l => (List.range n).findSome? fun i => if canGo t l i then rowF t ring n f (l ++ [i]) else none
theorem findSome_from {α β : Type} {g : α → Option β} {b : β} : ∀ {l : List α}, l.findSome? g = some b → ∃ x ∈ l, g x = some b
  | [], h => by cases h
  | a :: l, h => by
    rw [List.findSome?_cons] at h
    cases hg : g a with
    | some c =>
      rw [hg] at h
      exact ⟨a, by simp, by rw [hg]; exact h⟩
    | none =>
      rw [hg] at h
      obtain ⟨x, hx, he⟩ := findSome_from h
      exact ⟨x, by simp [hx], he⟩
theorem rowF_length (t : List (BitVec 32)) (ring : Bool) (n : Nat) : ∀ (f : Nat) (l u : List Nat), rowF t ring n f l = some u → u.length = l.length + f
  | 0, l, u, h => by
    rw [rowF] at h
    split at h
    · injection h with h; rw [h]; omega
    · cases h
  | f + 1, l, u, h => by
    obtain ⟨i, _, hg⟩ := findSome_from h
    split at hg
    · have := rowF_length t ring n f _ _ hg
      simp at this
      omega
    · cases hg
/-- The ones that are left, as a word. -/
def leftW (n : Nat) (l : List Nat) : BitVec 32 := l.foldl (fun w i => wBut w (wShl w1 i)) (maskW n)
theorem leftW_snoc (n : Nat) (l : List Nat) (i : Nat) : leftW n (l ++ [i]) = wBut (leftW n l) (wShl w1 i) := by simp [leftW]
theorem foldl_but_bit (j : Nat) : ∀ (l : List Nat) (w : BitVec 32), (l.foldl (fun w i => wBut w (wShl w1 i)) w).getLsbD j = (w.getLsbD j && !l.contains j)
  | [], w => by simp
  | i :: l, w => by
    rw [List.foldl_cons, foldl_but_bit j l, b_but, b_one, List.contains_cons]
    by_cases hj : j < 32
    · by_cases hji : j = i
      · subst hji; simp [hj]
      · have h' : (j == i) = false := by simpa using hji
        rw [h']
        simp [hji]
    · rw [b_ge w (by omega)]; simp
theorem leftW_bit {n : Nat} (hn : n < 32) (l : List Nat) (j : Nat) : (leftW n l).getLsbD j = (decide (j < n) && !l.contains j) := by
  unfold leftW
  rw [foldl_but_bit, b_mask hn]
def nextW (t : List (BitVec 32)) (n : Nat) (l : List Nat) : BitVec 32 := if l.isEmpty then leftW n l else wAnd (leftW n l) (lw t (lastN l))
theorem nextW_bit {n : Nat} (hn : n < 32) (t : List (BitVec 32)) (l : List Nat) (j : Nat) : (nextW t n l).getLsbD j = (decide (j < n) && canGo t l j) := by
  unfold nextW canGo
  cases h : l.isEmpty
  · rw [if_neg (by simp), b_and, leftW_bit hn, Bool.false_or, bitB_nat, Bool.and_assoc]
  · rw [if_pos rfl, leftW_bit hn, Bool.true_or, Bool.and_true]
theorem nextW_bits {n : Nat} (hn : n < 32) (t : List (BitVec 32)) (l : List Nat) : bitsL (nextW t n l) = (List.range n).filter (canGo t l) := by
  unfold bitsL
  have h32 : List.range 32 = List.range n ++ (List.range (32 - n)).map fun x => n + x := by
    rw [← List.range_add]
    congr 1
    omega
  rw [h32, List.filter_append]
  have e2 : (List.map (fun x => n + x) (List.range (32 - n))).filter (fun j => (nextW t n l).getLsbD j) = [] := by
    refine List.filter_eq_nil_iff.2 fun j hj => ?_
    obtain ⟨x, _, rfl⟩ := List.mem_map.1 hj
    rw [nextW_bit hn, decide_eq_false (by omega)]
    simp
  rw [e2, List.append_nil]
  refine List.filter_congr fun j hj => ?_
  rw [nextW_bit hn]
  simp [List.mem_range.1 hj]
theorem rowF_bits {n : Nat} (hn : n < 32) (t : List (BitVec 32)) (ring : Bool) (f : Nat) (l : List Nat) : rowF t ring n (f + 1) l = (bitsL (nextW t n l)).findSome? fun i => rowF t ring n f (l ++ [i]) := by
  rw [nextW_bits hn, findSome_filter]
  rfl
/-- Some of the first n, each once. -/
def RowOk (n : Nat) (l : List Nat) : Prop := l.Nodup ∧ ∀ i ∈ l, i < n
theorem RowOk.snoc {n : Nat} {l : List Nat} (h : RowOk n l) {i : Nat} (hi : i < n) (hno : l.contains i = false) : RowOk n (l ++ [i]) := by
  have hm : ¬ i ∈ l := by simpa using hno
  refine ⟨List.nodup_append.2 ⟨h.1, by simp, fun a ha b hb => ?_⟩, fun j hj => ?_⟩
  · rw [List.mem_singleton] at hb
    intro e
    exact hm (by rw [← hb, ← e]; exact ha)
  · rcases List.mem_append.1 hj with h1 | h1
    · exact h.2 j h1
    · rw [List.mem_singleton] at h1; omega
theorem nodup_len {n : Nat} : ∀ {l : List Nat}, l.Nodup → (∀ i ∈ l, i < n) → l.length ≤ n := by
  induction n with
  | zero =>
    intro l _ h
    cases l with
    | nil => simp
    | cons a l => have := h a (by simp); omega
  | succ n ih =>
    intro l hn h
    by_cases hm : n ∈ l
    · have h1 := ih (l := l.erase n) (hn.erase n) (fun i hi => by
        have h2 := (List.Nodup.mem_erase_iff hn).1 hi
        have := h i h2.2
        omega)
      have := List.length_erase_of_mem hm
      omega
    · have h2 := ih hn (fun i hi => by
        have h3 := h i hi
        have h4 : i ≠ n := fun e => hm (e ▸ hi)
        omega)
      omega
theorem leftW_zero {n : Nat} (hn : n < 32) {l : List Nat} (h : RowOk n l) : leftW n l = w0 ↔ l.length = n := by
  have hle := nodup_len h.1 h.2
  constructor
  · intro h0
    refine Nat.le_antisymm hle ?_
    have hall : ∀ i, i < n → i ∈ l := fun i hi => by
      have := congrArg (fun v => v.getLsbD i) h0
      simp only [leftW_bit hn, b_0] at this
      simpa [hi] using this
    have := (List.nodup_range (n := n)).length_le_of_subset (l₂ := l) (fun i hi => hall i (List.mem_range.1 hi))
    simpa using this
  · intro hl
    apply w_ext
    intro i _
    rw [leftW_bit hn, b_0]
    by_cases hi : i < n
    · have : i ∈ l := by
        refine Classical.byContradiction fun hno => ?_
        have := nodup_len (n := n) (l := i :: l) (List.nodup_cons.2 ⟨hno, h.1⟩) (fun j hj => by
          rcases List.mem_cons.1 hj with rfl | hj
          · exact hi
          · exact h.2 j hj)
        simp at this
        omega
      simp [this]
    · simp [hi]
end Go.Proofs.YtokmialpclcodaaDoor
