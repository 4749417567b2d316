/- Can it be had cheaper: turn by turn, and by detours: in plain Lean. Conditions: none. -/
import Derived.Test.YtjkfogkpacmdlaaFeeLeast1
namespace Go.Proofs.Ytjkfogkpacmdlaa
open Go.RowKit
/-! ### Steps -/
/-- A step with room: from where, to where, at what cost. -/
structure StpZ where
  a : Nat
  b : Nat
  c : Int
def updZ (x : Nat → Int) (i : Nat) (v : Int) : Nat → Int := fun j => if j = i then v else x j
/-- One step, if there is room; did something get better? -/
def stepZ (r : Bool) (s : StpZ) (d : (Nat → Int) × Bool) : (Nat → Int) × Bool := if r && decide (d.1 s.a + s.c < d.1 s.b) then (updZ d.1 s.b (d.1 s.a + s.c), true) else d
def passZ (S : List (Bool × StpZ)) (d : Nat → Int) : (Nat → Int) × Bool := S.foldl (fun d s => stepZ s.1 s.2 d) (d, false)
/-- So many turns: does each one better something? -/
def relaxZ (S : List (Bool × StpZ)) : Nat → (Nat → Int) → Bool
  | 0, _ => true
  | r + 1, d => if (passZ S d).2 then relaxZ S r (passZ S d).1 else false
/-- A height of each node: no step with room goes down by more than it costs. -/
def Pot (S : List (Bool × StpZ)) (h : Nat → Int) : Prop := ∀ s ∈ S, s.1 = true → h s.2.b ≤ h s.2.a + s.2.c
theorem stepZ_le (r : Bool) (s : StpZ) (d : (Nat → Int) × Bool) (j : Nat) : (stepZ r s d).1 j ≤ d.1 j := by
  unfold stepZ
  split
  · rename_i h
    rw [Bool.and_eq_true, decide_eq_true_eq] at h
    show updZ d.1 s.b (d.1 s.a + s.c) j ≤ d.1 j
    unfold updZ
    split
    · rename_i e; rw [e]; omega
    · exact Int.le_refl _
  · exact Int.le_refl _
theorem fold_le : ∀ (S : List (Bool × StpZ)) (d : (Nat → Int) × Bool) (j : Nat), (S.foldl (fun d s => stepZ s.1 s.2 d) d).1 j ≤ d.1 j
  | [], _, _ => Int.le_refl _
  | s :: S, d, j => by rw [List.foldl_cons]; exact Int.le_trans (fold_le S _ j) (stepZ_le _ _ d j)
theorem stepZ_true {r : Bool} {s : StpZ} {d : (Nat → Int) × Bool} (h : d.2 = true) : (stepZ r s d).2 = true := by
  unfold stepZ
  split
  · rfl
  · exact h
theorem fold_true : ∀ (S : List (Bool × StpZ)) (d : (Nat → Int) × Bool), d.2 = true → (S.foldl (fun d s => stepZ s.1 s.2 d) d).2 = true
  | [], _, h => h
  | s :: S, d, h => by rw [List.foldl_cons]; exact fold_true S _ (stepZ_true h)
theorem fold_false : ∀ (S : List (Bool × StpZ)) (d : Nat → Int), (S.foldl (fun d s => stepZ s.1 s.2 d) (d, false)).2 = false → Pot S d
  | [], _, _ => fun s hs => by cases hs
  | s :: S, d, h => by
    rw [List.foldl_cons] at h
    by_cases hc : (s.1 && decide (d s.2.a + s.2.c < d s.2.b)) = true
    · have e : stepZ s.1 s.2 (d, false) = (updZ d s.2.b (d s.2.a + s.2.c), true) := by unfold stepZ; rw [if_pos hc]
      rw [e, fold_true S _ rfl] at h
      cases h
    · have e : stepZ s.1 s.2 (d, false) = (d, false) := by unfold stepZ; rw [if_neg hc]
      rw [e] at h
      intro t ht htr
      rcases List.mem_cons.1 ht with rfl | ht
      · rw [htr, Bool.true_and, decide_eq_true_eq] at hc
        omega
      · exact fold_false S d h t ht htr
theorem fold_pot {d : Nat → Int} : ∀ (S : List (Bool × StpZ)), Pot S d → S.foldl (fun d s => stepZ s.1 s.2 d) (d, false) = (d, false)
  | [], _ => rfl
  | s :: S, h => by
    rw [List.foldl_cons]
    have e : stepZ s.1 s.2 (d, false) = (d, false) := by
      unfold stepZ
      rw [if_neg ?_]
      intro hc
      rw [Bool.and_eq_true, decide_eq_true_eq] at hc
      have h1 : d s.2.b ≤ d s.2.a + s.2.c := h s List.mem_cons_self hc.1
      have h2 : d s.2.a + s.2.c < d s.2.b := hc.2
      omega
    rw [e]
    exact fold_pot S fun t ht => h t (List.mem_cons_of_mem _ ht)
/-- Behind a turn no step is worse than from what was ahead of it. -/
theorem fold_hit : ∀ (S : List (Bool × StpZ)) (d : (Nat → Int) × Bool) (x : Nat → Int), (∀ j, d.1 j ≤ x j) → ∀ s ∈ S, s.1 = true → (S.foldl (fun d s => stepZ s.1 s.2 d) d).1 s.2.b ≤ x s.2.a + s.2.c
  | [], _, _, _, s, hs, _ => by cases hs
  | s :: S, d, x, hx, t, ht, htr => by
    rw [List.foldl_cons]
    rcases List.mem_cons.1 ht with rfl | ht
    · refine Int.le_trans (fold_le S _ _) ?_
      have h1 := hx t.2.a
      unfold stepZ
      rw [htr, Bool.true_and]
      split
      · show updZ d.1 t.2.b (d.1 t.2.a + t.2.c) t.2.b ≤ _
        unfold updZ
        rw [if_pos rfl]
        omega
      · rename_i h
        rw [decide_eq_true_eq] at h
        omega
    · exact fold_hit S _ x (fun j => Int.le_trans (stepZ_le _ _ d j) (hx j)) t ht htr
theorem fold_low {h : Nat → Int} : ∀ (S : List (Bool × StpZ)), Pot S h → ∀ (d : (Nat → Int) × Bool), (∀ j, h j ≤ d.1 j) → ∀ j, h j ≤ (S.foldl (fun d s => stepZ s.1 s.2 d) d).1 j
  | [], _, d, hd, j => hd j
  | s :: S, hp, d, hd, j => by
    rw [List.foldl_cons]
    refine fold_low S (fun t ht => hp t (List.mem_cons_of_mem _ ht)) _ (fun i => ?_) j
    unfold stepZ
    split
    · rename_i hc
      rw [Bool.and_eq_true] at hc
      show h i ≤ updZ d.1 s.2.b (d.1 s.2.a + s.2.c) i
      unfold updZ
      split
      · rename_i e
        have h1 := hp s List.mem_cons_self hc.1
        have h2 := hd s.2.a
        rw [e]; omega
      · exact hd i
    · exact hd i
/-- How far heights lie below none, in all. -/
def deep (n : Nat) (h : Nat → Int) : Nat := ((List.range n).map fun i => (-h i).toNat).sum
theorem deep_succ (n : Nat) (h : Nat → Int) : deep (n + 1) h = deep n h + (-h n).toNat := by unfold deep; rw [List.range_succ]; simp
theorem deep_le {h h' : Nat → Int} : ∀ n, (∀ i, i < n → h i ≤ h' i) → deep n h' ≤ deep n h
  | 0, _ => Nat.le_refl _
  | n + 1, hh => by
    have h1 := deep_le n fun i hi => hh i (by omega)
    have h2 := hh n (by omega)
    rw [deep_succ, deep_succ]
    omega
theorem deep_lt {h h' : Nat → Int} : ∀ n, (∀ i, i < n → h i ≤ h' i) → ∀ j, j < n → h j < h' j → h' j ≤ 0 → deep n h' < deep n h
  | 0, _, j, hj, _, _ => by omega
  | n + 1, hh, j, hj, hl, h0 => by
    have h1 := deep_le n fun i hi => hh i (by omega)
    have h2 := hh n (by omega)
    rw [deep_succ, deep_succ]
    by_cases e : j = n
    · subst e; omega
    · have := deep_lt n (fun i hi => hh i (by omega)) j (by omega) hl h0
      omega
/-- Of all heights not above none the highest. -/
def Top (n : Nat) (S : List (Bool × StpZ)) (h : Nat → Int) : Prop := Pot S h ∧ (∀ i, h i ≤ 0) ∧ ∀ h', Pot S h' → (∀ i, h' i ≤ 0) → deep n h ≤ deep n h'
theorem top_of {n : Nat} {S : List (Bool × StpZ)} (hs : ∀ s ∈ S, s.2.a < n ∧ s.2.b < n) {h : Nat → Int} (hp : Pot S h) : ∃ h', Top n S h' := by
  have bound : ∀ n : Nat, ∃ M : Int, ∀ i, i < n → h i ≤ M := fun n => by
    induction n with
    | zero => exact ⟨0, fun i hi => by omega⟩
    | succ n ih =>
      obtain ⟨M, hM⟩ := ih
      refine ⟨max M (h n), fun i hi => ?_⟩
      by_cases e : i = n
      · rw [e]; exact Int.le_max_right _ _
      · exact Int.le_trans (hM i (by omega)) (Int.le_max_left _ _)
  obtain ⟨M, hM⟩ := bound n
  have main : ∀ (m : Nat) (h : Nat → Int), deep n h = m → Pot S h → (∀ i, h i ≤ 0) → ∃ h', Top n S h' := by
    intro m
    induction m using Nat.strongRecOn with
    | ind m ih =>
      intro h hm hp h0
      by_cases hx : ∃ h', Pot S h' ∧ (∀ i, h' i ≤ 0) ∧ deep n h' < deep n h
      · obtain ⟨h', h1, h2, h3⟩ := hx
        exact ih _ (by omega) h' rfl h1 h2
      · refine ⟨h, hp, h0, fun h' h1 h2 => ?_⟩
        rcases Nat.lt_or_ge (deep n h') (deep n h) with h3 | h3
        · exact absurd ⟨h', h1, h2, h3⟩ hx
        · exact h3
  refine main _ (fun i => if i < n then h i - M else 0) rfl (fun s hs' hr => ?_) (fun i => ?_)
  · have h1 := hp s hs' hr
    have h2 := hs s hs'
    simp only [if_pos h2.1, if_pos h2.2]
    omega
  · split
    · rename_i hi
      have := hM i hi
      show h i - M ≤ 0
      omega
    · exact Int.le_refl _
def high (n : Nat) (h d : Nat → Int) : List Nat := (List.range n).filter fun j => decide (h j < d j)
theorem high_mono {h d d' : Nat → Int} (hd : ∀ j, d' j ≤ d j) : ∀ n, (high n h d').length ≤ (high n h d).length
  | 0 => Nat.le_refl _
  | n + 1 => by
    unfold high
    rw [List.range_succ, List.filter_append, List.filter_append, List.length_append, List.length_append]
    have h1 := high_mono (h := h) hd n
    unfold high at h1
    have h2 : (List.filter (fun j => decide (h j < d' j)) [n]).length ≤ (List.filter (fun j => decide (h j < d j)) [n]).length := by
      by_cases e : h n < d' n
      · have := hd n
        simp [e, show h n < d n by omega]
      · simp [e]
    omega
theorem high_less {h d d' : Nat → Int} (hd : ∀ j, d' j ≤ d j) : ∀ n j, j < n → h j < d j → d' j ≤ h j → (high n h d').length < (high n h d).length
  | 0, j, hj, _, _ => by omega
  | n + 1, j, hj, h1, h2 => by
    unfold high
    rw [List.range_succ, List.filter_append, List.filter_append, List.length_append, List.length_append]
    by_cases e : j = n
    · subst e
      have h3 := high_mono (h := h) hd j
      unfold high at h3
      simp [h1, show ¬ h j < d' j by omega]
      omega
    · have h3 := high_less (h := h) hd n j (by omega) h1 h2
      unfold high at h3
      have h4 : (List.filter (fun j => decide (h j < d' j)) [n]).length ≤ (List.filter (fun j => decide (h j < d j)) [n]).length := by
        by_cases e : h n < d' n
        · have := hd n
          simp [e, show h n < d n by omega]
        · simp [e]
      omega
/-- A turn brings one at least down to where it can get. -/
theorem pass_down {n : Nat} {S : List (Bool × StpZ)} (hS : ∀ s ∈ S, s.2.a < n ∧ s.2.b < n) {h : Nat → Int} (ht : Top n S h) {d : Nat → Int} (hd : ∀ j, h j ≤ d j) (h0 : ∀ j, d j ≤ 0) {j : Nat} (hj : j < n) (hlt : h j < d j) : ∃ i, i < n ∧ h i < d i ∧ (passZ S d).1 i ≤ h i := by
  refine Classical.byContradiction fun hno => ?_
  have hall : ∀ i, i < n → h i < d i → h i < (passZ S d).1 i := fun i hi hl => by
    rcases Int.lt_or_le (h i) ((passZ S d).1 i) with h1 | h1
    · exact h1
    · exact absurd ⟨i, hi, hl, h1⟩ hno
  let h' : Nat → Int := fun i => if i < n ∧ h i < d i then h i + 1 else h i
  have hp : Pot S h' := by
    intro s hs hr
    have h1 := ht.1 s hs hr
    have h2 : (passZ S d).1 s.2.b ≤ d s.2.a + s.2.c := fold_hit S (d, false) d (fun _ => Int.le_refl _) s hs hr
    show (if s.2.b < n ∧ h s.2.b < d s.2.b then h s.2.b + 1 else h s.2.b) ≤ (if s.2.a < n ∧ h s.2.a < d s.2.a then h s.2.a + 1 else h s.2.a) + s.2.c
    by_cases hb : s.2.b < n ∧ h s.2.b < d s.2.b
    · rw [if_pos hb]
      by_cases ha : s.2.a < n ∧ h s.2.a < d s.2.a
      · rw [if_pos ha]; omega
      · rw [if_neg ha]
        have h3 := hall _ hb.1 hb.2
        have h4 := hd s.2.a
        have hda : ¬ h s.2.a < d s.2.a := fun e => ha ⟨(hS s hs).1, e⟩
        omega
    · rw [if_neg hb]
      split <;> omega
  have hz : ∀ i, h' i ≤ 0 := fun i => by
    show (if i < n ∧ h i < d i then h i + 1 else h i) ≤ 0
    split
    · rename_i hi
      have := h0 i
      omega
    · exact ht.2.1 i
  have h1 := ht.2.2 h' hp hz
  have h2 : deep n h' < deep n h := deep_lt n (fun i _ => by show h i ≤ if i < n ∧ h i < d i then h i + 1 else h i; split <;> omega) j hj (by show h j < if j < n ∧ h j < d j then h j + 1 else h j; rw [if_pos ⟨hj, hlt⟩]; omega) (hz j)
  omega
theorem high_none {n : Nat} {h d : Nat → Int} (hh : (high n h d).length = 0) (hd : ∀ j, h j ≤ d j) : ∀ j, j < n → d j = h j := fun j hj => by
  have h1 : high n h d = [] := List.length_eq_zero_iff.1 hh
  unfold high at h1
  have h2 := List.filter_eq_nil_iff.1 h1 j (List.mem_range.2 hj)
  rw [decide_eq_true_eq] at h2
  have := hd j
  omega
theorem relax_stops {n : Nat} {S : List (Bool × StpZ)} (hS : ∀ s ∈ S, s.2.a < n ∧ s.2.b < n) {h : Nat → Int} (ht : Top n S h) : ∀ (r : Nat) (d : Nat → Int), (∀ j, h j ≤ d j) → (∀ j, d j ≤ 0) → (high n h d).length < r → relaxZ S r d = false
  | 0, _, _, _, hr => by omega
  | r + 1, d, hd, h0, hr => by
    unfold relaxZ
    by_cases hz : (high n h d).length = 0
    · have he := high_none hz hd
      have hp : Pot S d := fun s hs hsr => by
        rw [he _ (hS s hs).1, he _ (hS s hs).2]
        exact ht.1 s hs hsr
      have e : passZ S d = (d, false) := fold_pot S hp
      rw [e]
      rfl
    · obtain ⟨j, hj⟩ : ∃ j, j ∈ high n h d := List.exists_mem_of_length_pos (by omega)
      have hj' := List.mem_filter.1 hj
      rw [List.mem_range, decide_eq_true_eq] at hj'
      obtain ⟨i, hi, h1, h2⟩ := pass_down hS ht hd h0 hj'.1 hj'.2
      have hle : ∀ j, (passZ S d).1 j ≤ d j := fold_le S (d, false)
      have h3 := high_less hle n i hi h1 h2
      split
      · exact relax_stops hS ht r _ (fold_low S ht.1 (d, false) hd) (fun j => Int.le_trans (hle j) (h0 j)) (by omega)
      · rfl
theorem relax_goes {S : List (Bool × StpZ)} (hno : ¬ ∃ h, Pot S h) : ∀ (r : Nat) (d : Nat → Int), relaxZ S r d = true
  | 0, _ => rfl
  | r + 1, d => by
    unfold relaxZ
    split
    · exact relax_goes hno r _
    · rename_i h
      exact absurd ⟨d, fold_false S d (by simpa [passZ] using h)⟩ hno
/-- Turn by turn: it goes on getting better when there are no heights. -/
theorem relax_iff {n : Nat} {S : List (Bool × StpZ)} (hS : ∀ s ∈ S, s.2.a < n ∧ s.2.b < n) : relaxZ S (n + 1) (fun _ => 0) = false ↔ ∃ h, Pot S h := by
  constructor
  · intro h
    refine Classical.byContradiction fun hno => ?_
    rw [relax_goes hno] at h
    cases h
  · rintro ⟨h, hp⟩
    obtain ⟨h', ht⟩ := top_of hS hp
    refine relax_stops hS ht _ _ ht.2.1 (fun _ => Int.le_refl _) ?_
    have : (high n h' fun _ => 0).length ≤ (List.range n).length := List.length_filter_le _ _
    rw [List.length_range] at this
    omega

/-! ### By detours -/
/-- No way yet. -/
def farZ : Int := 1152921504606846976
abbrev Mtx := Nat → Nat → Int
def updM (M : Mtx) (i j : Nat) (v : Int) : Mtx := fun a b => if a = i ∧ b = j then v else M a b
/-- Is it shorter by k? -/
def byB (M : Mtx) (k i j : Nat) : Bool := decide (M i k < farZ) && decide (M k j < farZ) && decide (M i k + M k j < M i j)
def by1 (k : Nat) (M : Mtx) (i j : Nat) : Mtx := if byB M k i j then updM M i j (M i k + M k j) else M
/-- Part of a turn by k: all lines ahead of i, of line i the places ahead of j. -/
def lineM (k n : Nat) (M : Mtx) (i : Nat) : Nat → Mtx
  | 0 => M
  | j + 1 => by1 k (lineM k n M i j) i j
def turnM (k n : Nat) (M : Mtx) : Nat → Mtx
  | 0 => M
  | i + 1 => lineM k n (turnM k n M i) i n
def negM (M : Mtx) (n : Nat) : Bool := (List.range n).any fun i => decide (M i i < 0)
/-- Turn by turn, so many left, till a node is less than none away from itself. -/
def floM (n : Nat) : Nat → Mtx → Bool
  | 0, _ => false
  | r + 1, M => if negM (turnM (n - (r + 1)) n M n) n then true else floM n r (turnM (n - (r + 1)) n M n)
/-- What a whole turn by k tells of one place. -/
def viaM (k : Nat) (M : Mtx) (i j : Nat) : Int := if byB M k i j then M i k + M k j else M i j
theorem by1_at (k : Nat) (M : Mtx) (i j a b : Nat) : by1 k M i j a b = if a = i ∧ b = j then viaM k M i j else M a b := by
  unfold by1 viaM
  split
  · unfold updM; rfl
  · split
    · rename_i h; rw [h.1, h.2]
    · rfl
/-- Row and column of k stay, when k is not less than none away from itself. -/
theorem via_row {k : Nat} {M : Mtx} (h : 0 ≤ M k k) (j : Nat) : viaM k M k j = M k j := by
  unfold viaM byB
  rw [if_neg]
  intro hc
  simp only [Bool.and_eq_true, decide_eq_true_eq] at hc
  omega
theorem via_col {k : Nat} {M : Mtx} (h : 0 ≤ M k k) (i : Nat) : viaM k M i k = M i k := by
  unfold viaM byB
  rw [if_neg]
  intro hc
  simp only [Bool.and_eq_true, decide_eq_true_eq] at hc
  omega
theorem line_alone {k n : Nat} {M : Mtx} {i : Nat} (h0 : 0 ≤ M k k) : ∀ (j : Nat) a b, lineM k n M i j a b = if a = i ∧ b < j then viaM k M a b else M a b := by
  intro j
  induction j with
  | zero => intro a b; rw [if_neg (by omega)]; rfl
  | succ j ih =>
    intro a b
    have hrow : ∀ b, lineM k n M i j k b = M k b := fun b => by
      rw [ih]
      split
      · exact via_row h0 b
      · rfl
    have hcol : ∀ a, lineM k n M i j a k = M a k := fun a => by
      rw [ih]
      split
      · exact via_col h0 a
      · rfl
    show by1 k (lineM k n M i j) i j a b = _
    rw [by1_at]
    have h1 : lineM k n M i j i j = M i j := by rw [ih, if_neg (by omega)]
    have h2 : viaM k (lineM k n M i j) i j = viaM k M i j := by
      unfold viaM byB
      rw [hrow, hcol, h1]
    by_cases e : a = i ∧ b = j
    · rw [if_pos e, if_pos (by omega), h2, e.1, e.2]
    · rw [if_neg e, ih]
      by_cases e2 : a = i ∧ b < j
      · rw [if_pos e2, if_pos (by omega)]
      · rw [if_neg e2, if_neg (by omega)]
theorem turn_at {k n : Nat} {M : Mtx} (h0 : 0 ≤ M k k) : ∀ (i : Nat) a b, turnM k n M i a b = if a < i ∧ b < n then viaM k M a b else M a b := by
  intro i
  induction i with
  | zero => intro a b; rw [if_neg (by omega)]; rfl
  | succ i ih =>
    intro a b
    have hrow : ∀ b, turnM k n M i k b = M k b := fun b => by
      rw [ih]
      split
      · exact via_row h0 b
      · rfl
    have hcol : ∀ a, turnM k n M i a k = M a k := fun a => by
      rw [ih]
      split
      · exact via_col h0 a
      · rfl
    have h0' : 0 ≤ turnM k n M i k k := by rw [hrow k]; exact h0
    show lineM k n (turnM k n M i) i n a b = _
    rw [line_alone h0']
    have h1 : turnM k n M i i b = M i b := by rw [ih, if_neg (by omega)]
    have h2 : viaM k (turnM k n M i) i b = viaM k M i b := by
      unfold viaM byB
      rw [hrow, hcol, h1]
    by_cases e : a = i ∧ b < n
    · rw [if_pos e, if_pos (by omega), e.1, h2]
    · rw [if_neg e, ih]
      by_cases e2 : a < i ∧ b < n
      · rw [if_pos e2, if_pos (by omega)]
      · rw [if_neg e2, if_neg (by omega)]
theorem line_at {k n : Nat} {M : Mtx} (h0 : 0 ≤ M k k) (i j a b : Nat) : lineM k n (turnM k n M i) i j a b = if (a < i ∧ b < n) ∨ (a = i ∧ b < j) then viaM k M a b else M a b := by
  have hrow : ∀ b, turnM k n M i k b = M k b := fun b => by
    rw [turn_at h0]
    split
    · exact via_row h0 b
    · rfl
  have hcol : ∀ a, turnM k n M i a k = M a k := fun a => by
    rw [turn_at h0]
    split
    · exact via_col h0 a
    · rfl
  have h0' : 0 ≤ turnM k n M i k k := by rw [hrow k]; exact h0
  rw [line_alone h0']
  have h1 : turnM k n M i i b = M i b := by rw [turn_at h0, if_neg (by omega)]
  have h2 : viaM k (turnM k n M i) i b = viaM k M i b := by
    unfold viaM byB
    rw [hrow, hcol, h1]
  by_cases e : a = i ∧ b < j
  · rw [if_pos e, if_pos (by omega), e.1, h2]
  · rw [if_neg e, turn_at h0]
    by_cases e2 : a < i ∧ b < n
    · rw [if_pos e2, if_pos (by omega)]
    · rw [if_neg e2, if_neg (by omega)]
/-- Entries are small, or there is no way. -/
def Small (n : Nat) (M : Mtx) (X : Int) : Prop := ∀ i j, i < n → j < n → M i j = farZ ∨ (-X ≤ M i j ∧ M i j ≤ X)
theorem small_via {n k : Nat} {M : Mtx} {X : Int} (h : Small n M X) (hk : k < n) {i j : Nat} (hi : i < n) (hj : j < n) : viaM k M i j = farZ ∨ (-(2 * X) ≤ viaM k M i j ∧ viaM k M i j ≤ 2 * X) := by
  unfold viaM byB
  have h1 := h i k hi hk
  have h2 := h k j hk hj
  have h3 := h i j hi hj
  split
  · rename_i hc
    simp only [Bool.and_eq_true, decide_eq_true_eq] at hc
    right
    omega
  · omega
theorem small_mid {n k : Nat} {M : Mtx} {X : Int} (h0 : 0 ≤ M k k) (h : Small n M X) (hX : 0 ≤ X) (hk : k < n) (i j : Nat) : Small n (lineM k n (turnM k n M i) i j) (2 * X) := by
  intro a b ha hb
  rw [line_at h0]
  split
  · exact small_via h hk ha hb
  · have := h a b ha hb
    omega
/-- Shut by the nodes ahead of k: no detour by them is shorter. -/
structure Shut_ (n k : Nat) (M : Mtx) : Prop where
  diag : ∀ i, i < n → 0 ≤ M i i
  tri : ∀ m, m < k → ∀ i j, i < n → j < n → M i m < farZ → M m j < farZ → M i j ≤ M i m + M m j
theorem via_le (k : Nat) (M : Mtx) (i j : Nat) : viaM k M i j ≤ M i j := by
  unfold viaM byB
  split
  · rename_i hc
    simp only [Bool.and_eq_true, decide_eq_true_eq] at hc
    omega
  · exact Int.le_refl _
theorem via_by {k : Nat} {M : Mtx} {i j : Nat} (h1 : M i k < farZ) (h2 : M k j < farZ) : viaM k M i j ≤ M i k + M k j := by
  unfold viaM byB
  rw [decide_eq_true h1, decide_eq_true h2, Bool.true_and, Bool.true_and]
  split
  · exact Int.le_refl _
  · rename_i h
    rw [decide_eq_true_eq] at h
    omega
theorem via_cases (k : Nat) (M : Mtx) (i j : Nat) : viaM k M i j = M i j ∨ (M i k < farZ ∧ M k j < farZ ∧ viaM k M i j = M i k + M k j) := by
  unfold viaM byB
  split
  · rename_i hc
    simp only [Bool.and_eq_true, decide_eq_true_eq] at hc
    exact .inr ⟨hc.1.1, hc.1.2, rfl⟩
  · exact .inl rfl
theorem Small.low {n : Nat} {M : Mtx} {X : Int} (h : Small n M X) {i j : Nat} (hi : i < n) (hj : j < n) (hl : M i j < farZ) : -X ≤ M i j ∧ M i j ≤ X := by
  rcases h i j hi hj with e | e
  · omega
  · exact e
theorem shut_next {n k : Nat} (hk : k < n) {M M' : Mtx} {X : Int} (hX : 2 * X < farZ) (hsm : Small n M X) (h : Shut_ n k M) (hv : ∀ i j, i < n → j < n → M' i j = viaM k M i j) (hd : ∀ i, i < n → 0 ≤ M' i i) : Shut_ n (k + 1) M' := by
  refine ⟨hd, fun m hm i j hi hj h1 h2 => ?_⟩
  have h0 := h.diag k hk
  by_cases e : m = k
  · subst e
    rw [hv i m hi hk, via_col h0] at h1 ⊢
    rw [hv m j hk hj, via_row h0] at h2 ⊢
    rw [hv i j hi hj]
    exact via_by h1 h2
  · have hmk : m < k := by omega
    have hmn : m < n := by omega
    rw [hv i m hi hmn] at h1 ⊢
    rw [hv m j hmn hj] at h2 ⊢
    rw [hv i j hi hj]
    have tri := fun a b ha hb l1 l2 => h.tri m hmk a b ha hb l1 l2
    rcases via_cases k M i m with e1 | ⟨a1, a2, e1⟩ <;> rcases via_cases k M m j with e2 | ⟨b1, b2, e2⟩ <;> rw [e1] at h1 ⊢ <;> rw [e2] at h2 ⊢
    · exact Int.le_trans (via_le k M i j) (tri i j hi hj h1 h2)
    · have h3 := tri i k hi hk h1 b1
      have s1 := hsm.low hi hmn h1
      have s2 := hsm.low hmn hk b1
      have h4 := via_by (k := k) (i := i) (j := j) (M := M) (by omega) b2
      omega
    · have h3 := tri k j hk hj a2 h2
      have s1 := hsm.low hk hmn a2
      have s2 := hsm.low hmn hj h2
      have h4 := via_by (k := k) (i := i) (j := j) (M := M) a1 (by omega)
      omega
    · have h3 := tri k k hk hk a2 b1
      have h4 := via_by (k := k) (i := i) (j := j) (M := M) a1 b2
      omega
/-- How large entries can be ahead of a turn. -/
def big : Nat → Int
  | 0 => 1048576
  | k + 1 => 2 * big k
theorem big_pos : ∀ k, 0 ≤ big k
  | 0 => by unfold big; omega
  | k + 1 => by have := big_pos k; unfold big; omega
theorem big_le {k : Nat} (h : k ≤ 10) : big k ≤ 1073741824 := by
  have : ∀ k, k ≤ 10 → big k ≤ 1048576 * 2 ^ k := fun k => by
    induction k with
    | zero => intro _; decide
    | succ k ih => intro h; have := ih (by omega); unfold big; rw [Int.pow_succ]; omega
  have h1 := this k h
  have h2 : (2 : Int) ^ k ≤ 2 ^ 10 := by
    obtain ⟨d, hd⟩ : ∃ d, 10 = k + d := ⟨10 - k, by omega⟩
    rw [hd, Int.pow_add]
    have h3 : (1 : Int) ≤ 2 ^ d := by
      have : ∀ d : Nat, (1 : Int) ≤ 2 ^ d := fun d => by
        induction d with
        | zero => decide
        | succ d ih => rw [Int.pow_succ]; omega
      exact this d
    have h4 : (0 : Int) ≤ 2 ^ k := by
      have : ∀ d : Nat, (0 : Int) ≤ 2 ^ d := fun d => by
        induction d with
        | zero => decide
        | succ d ih => rw [Int.pow_succ]; omega
      exact this k
    calc (2 : Int) ^ k = 2 ^ k * 1 := by omega
      _ ≤ 2 ^ k * 2 ^ d := Int.mul_le_mul_of_nonneg_left h3 h4
  have h3 : (2 : Int) ^ 10 = 1024 := by decide
  omega
theorem neg_of {M : Mtx} {n : Nat} (h : negM M n = false) : ∀ i, i < n → 0 ≤ M i i := fun i hi => by
  unfold negM at h
  have := List.any_eq_false.1 h i (List.mem_range.2 hi)
  rw [decide_eq_true_eq] at this
  omega
/-- The state ahead of turn k: what it owes of what came in. -/
structure FloZ (n : Nat) (M0 : Mtx) (k : Nat) (M : Mtx) : Prop where
  small : Small n M (big k)
  shut : Shut_ n k M
  le : ∀ i j, i < n → j < n → M i j ≤ M0 i j
theorem FloZ.next {n k : Nat} {M0 M : Mtx} (h : FloZ n M0 k M) (hk : k < n) (hn : n ≤ 10) (hno : negM (turnM k n M n) n = false) : FloZ n M0 (k + 1) (turnM k n M n) := by
  have h0 := h.shut.diag k hk
  have hv : ∀ i j, i < n → j < n → turnM k n M n i j = viaM k M i j := fun i j hi hj => by rw [turn_at h0, if_pos ⟨hi, hj⟩]
  have hb := big_le (show k ≤ 10 by omega)
  refine ⟨fun i j hi hj => ?_, shut_next hk (X := big k) (by unfold farZ; omega) h.small h.shut hv (neg_of hno), fun i j hi hj => ?_⟩
  · rw [hv i j hi hj]
    exact small_via h.small hk hi hj
  · rw [hv i j hi hj]
    exact Int.le_trans (via_le k M i j) (h.le i j hi hj)
/-- To the end: all shut. -/
theorem flo_end {n : Nat} {M0 : Mtx} (hn : n ≤ 10) : ∀ (r : Nat) (M : Mtx), r ≤ n → FloZ n M0 (n - r) M → floM n r M = false → ∃ D, FloZ n M0 n D
  | 0, M, _, h, _ => ⟨M, h⟩
  | r + 1, M, hr, h, hf => by
    unfold floM at hf
    split at hf
    · cases hf
    · rename_i hno
      have h1 := h.next (by omega) hn (by simpa using hno)
      rw [show n - (r + 1) + 1 = n - r by omega] at h1
      exact flo_end hn r _ (by omega) h1 hf
/-- With heights, none is ever less than none away from itself. -/
def PotM (n : Nat) (h : Nat → Int) (M : Mtx) : Prop := ∀ i j, i < n → j < n → M i j < farZ → h j - h i ≤ M i j
theorem pot_by1 {n k i j : Nat} {h : Nat → Int} {M : Mtx} (hk : k < n) (hi : i < n) (hj : j < n) (hp : PotM n h M) : PotM n h (by1 k M i j) := by
  intro a b ha hb hl
  rw [by1_at] at hl ⊢
  split
  · rename_i e
    rw [if_pos e] at hl
    rw [e.1, e.2]
    rcases via_cases k M i j with e1 | ⟨a1, a2, e1⟩
    · rw [e1] at hl ⊢; exact hp i j hi hj hl
    · rw [e1]
      have h1 := hp i k hi hk a1
      have h2 := hp k j hk hj a2
      omega
  · rename_i e
    rw [if_neg e] at hl
    exact hp a b ha hb hl
theorem pot_line {n k i : Nat} {h : Nat → Int} {M : Mtx} (hk : k < n) (hi : i < n) (hp : PotM n h M) : ∀ j, j ≤ n → PotM n h (lineM k n M i j)
  | 0, _ => hp
  | j + 1, hj => pot_by1 hk hi (by omega) (pot_line hk hi hp j (by omega))
theorem pot_turn {n k : Nat} {h : Nat → Int} {M : Mtx} (hk : k < n) (hp : PotM n h M) : ∀ i, i ≤ n → PotM n h (turnM k n M i)
  | 0, _ => hp
  | i + 1, hi => pot_line hk (by omega) (pot_turn hk hp i (by omega)) n (Nat.le_refl _)
theorem pot_neg {n : Nat} {h : Nat → Int} {M : Mtx} (hp : PotM n h M) : negM M n = false := by
  unfold negM
  rw [List.any_eq_false]
  intro i hi
  rw [List.mem_range] at hi
  rw [decide_eq_true_eq]
  intro hl
  have := hp i i hi hi (by unfold farZ; omega)
  omega
theorem flo_pot {n : Nat} {h : Nat → Int} : ∀ (r : Nat) (M : Mtx), r ≤ n → PotM n h M → floM n r M = false
  | 0, _, _, _ => rfl
  | r + 1, M, hr, hp => by
    have h1 := pot_turn (k := n - (r + 1)) (by omega) hp n (Nat.le_refl _)
    unfold floM
    rw [pot_neg h1]
    exact flo_pot r _ (by omega) h1
/-! ### What the reference begins with -/
def zeroM : Mtx := fun i j => if i = j then 0 else farZ
def stepMz (M : Mtx) (s : Bool × StpZ) : Mtx := if s.1 && decide (s.2.c < M s.2.a s.2.b) then updM M s.2.a s.2.b s.2.c else M
/-! ### Both the same -/
/-- What the reference begins with: of all steps with room the cheapest. -/
structure FstZ (n : Nat) (S : List (Bool × StpZ)) (M : Mtx) : Prop where
  diag : ∀ i, i < n → M i i = 0
  small : Small n M 1048576
  le : ∀ s ∈ S, s.1 = true → M s.2.a s.2.b ≤ s.2.c
  is : ∀ i j, i < n → j < n → M i j < farZ → i = j ∨ ∃ s ∈ S, s.1 = true ∧ s.2.a = i ∧ s.2.b = j ∧ M i j = s.2.c
theorem fst_of {n : Nat} : ∀ (S : List (Bool × StpZ)), (∀ s ∈ S, s.2.a < n ∧ s.2.b < n ∧ s.2.a ≠ s.2.b ∧ -1048576 ≤ s.2.c ∧ s.2.c ≤ 1048576) → ∀ (T : List (Bool × StpZ)) (M : Mtx), FstZ n T M → FstZ n (T ++ S) (S.foldl stepMz M)
  | [], _, T, M, h => by rw [List.append_nil]; exact h
  | s :: S, hS, T, M, h => by
    rw [List.foldl_cons, show T ++ s :: S = (T ++ [s]) ++ S by simp]
    refine fst_of S (fun t ht => hS t (List.mem_cons_of_mem _ ht)) _ _ ?_
    obtain ⟨ha, hb, hab, hc1, hc2⟩ := hS s List.mem_cons_self
    unfold stepMz
    split
    · rename_i hc
      rw [Bool.and_eq_true, decide_eq_true_eq] at hc
      refine ⟨fun i hi => ?_, fun i j hi hj => ?_, fun t ht htr => ?_, fun i j hi hj hl => ?_⟩
      · unfold updM
        rw [if_neg (by omega)]
        exact h.diag i hi
      · unfold updM
        split
        · right; omega
        · exact h.small i j hi hj
      · unfold updM
        rcases List.mem_append.1 ht with ht | ht
        · have h1 := h.le t ht htr
          split
          · rename_i e
            rw [e.1, e.2] at h1
            omega
          · exact h1
        · rw [List.mem_singleton] at ht
          subst ht
          rw [if_pos ⟨rfl, rfl⟩]
          exact Int.le_refl _
      · unfold updM at hl ⊢
        split
        · rename_i e
          right
          exact ⟨s, by simp, hc.1, e.1.symm, e.2.symm, rfl⟩
        · rename_i e
          rw [if_neg e] at hl
          rcases h.is i j hi hj hl with h1 | ⟨t, ht, h2⟩
          · exact .inl h1
          · exact .inr ⟨t, List.mem_append_left _ ht, h2⟩
    · rename_i hc
      rw [Bool.and_eq_true, decide_eq_true_eq] at hc
      refine ⟨h.diag, h.small, fun t ht htr => ?_, fun i j hi hj hl => ?_⟩
      · rcases List.mem_append.1 ht with ht | ht
        · exact h.le t ht htr
        · rw [List.mem_singleton] at ht
          subst ht
          have : ¬ (t.2.c < M t.2.a t.2.b) := fun e => hc ⟨htr, e⟩
          omega
      · rcases h.is i j hi hj hl with h1 | ⟨t, ht, h2⟩
        · exact .inl h1
        · exact .inr ⟨t, List.mem_append_left _ ht, h2⟩
theorem fst_zero (n : Nat) : FstZ n [] zeroM := by
  refine ⟨fun i _ => by unfold zeroM; rw [if_pos rfl], fun i j _ _ => ?_, fun s hs => by (cases hs), fun i j _ _ hl => ?_⟩
  · unfold zeroM
    split
    · right; omega
    · exact .inl rfl
  · unfold zeroM at hl
    split at hl
    · rename_i e; exact .inl e
    · omega
theorem cheap_iff {n : Nat} {S : List (Bool × StpZ)} {M : Mtx} (hn : n ≤ 10) (hS : ∀ s ∈ S, s.2.a < n ∧ s.2.b < n) (hc : ∀ s ∈ S, s.2.c ≤ 1048576) (hM : FstZ n S M) : floM n n M = false ↔ ∃ h, Pot S h := by
  constructor
  · intro hf
    have h0 : FloZ n M (n - n) M := by
      rw [Nat.sub_self]
      exact ⟨hM.small, ⟨fun i hi => by rw [hM.diag i hi]; exact Int.le_refl _, fun m hm => by omega⟩, fun _ _ _ _ => Int.le_refl _⟩
    obtain ⟨D, hD⟩ := flo_end hn n M (Nat.le_refl _) h0 hf
    have hb := big_le hn
    refine ⟨fun j => (List.range n).foldl (fun x i => if D i j < farZ ∧ D i j < x then D i j else x) 0, fun s hs hr => ?_⟩
    have key : ∀ (j : Nat) m, m ≤ n → (∀ i, i < m → D i j < farZ → (List.range m).foldl (fun x i => if D i j < farZ ∧ D i j < x then D i j else x) 0 ≤ D i j) ∧ (List.range m).foldl (fun x i => if D i j < farZ ∧ D i j < x then D i j else x) 0 ≤ 0 ∧ ((List.range m).foldl (fun x i => if D i j < farZ ∧ D i j < x then D i j else x) 0 = 0 ∨ ∃ i, i < m ∧ D i j < farZ ∧ (List.range m).foldl (fun x i => if D i j < farZ ∧ D i j < x then D i j else x) 0 = D i j) := fun j m => by
      induction m with
      | zero => exact fun _ => ⟨fun i hi => by omega, Int.le_refl _, .inl rfl⟩
      | succ m ih =>
        intro hm
        obtain ⟨h1, h2, h3⟩ := ih (by omega)
        rw [List.range_succ, List.foldl_append, List.foldl_cons, List.foldl_nil]
        generalize (List.range m).foldl (fun x i => if D i j < farZ ∧ D i j < x then D i j else x) 0 = x at *
        by_cases hc : D m j < farZ ∧ D m j < x
        · rw [if_pos hc]
          refine ⟨fun i hi hl => ?_, by omega, .inr ⟨m, by omega, hc.1, rfl⟩⟩
          by_cases e : i = m
          · rw [e]; exact Int.le_refl _
          · have := h1 i (by omega) hl; omega
        · rw [if_neg hc]
          refine ⟨fun i hi hl => ?_, h2, ?_⟩
          · by_cases e : i = m
            · rw [e] at hl ⊢; omega
            · exact h1 i (by omega) hl
          · rcases h3 with h3 | ⟨i, hi, h4, h5⟩
            · exact .inl h3
            · exact .inr ⟨i, by omega, h4, h5⟩
    obtain ⟨ha, hb'⟩ := hS s hs
    obtain ⟨b1, b2, b3⟩ := key s.2.b n (Nat.le_refl _)
    obtain ⟨a1, a2, a3⟩ := key s.2.a n (Nat.le_refl _)
    have h1 := hD.le s.2.a s.2.b ha hb'
    have h2 := hM.le s hs hr
    have h3 := hc s hs
    have hl : D s.2.a s.2.b < farZ := by unfold farZ; omega
    show (List.range n).foldl (fun x i => if D i s.2.b < farZ ∧ D i s.2.b < x then D i s.2.b else x) 0 ≤ (List.range n).foldl (fun x i => if D i s.2.a < farZ ∧ D i s.2.a < x then D i s.2.a else x) 0 + s.2.c
    rcases a3 with a3 | ⟨i, hi, a4, a5⟩
    · rw [a3]
      have := b1 s.2.a ha hl
      omega
    · rw [a5]
      have h4 := hD.shut.tri s.2.a ha i s.2.b hi hb' a4 hl
      have h5 : D i s.2.b < farZ := by
        have s1 := hD.small.low hi ha a4
        have s2 := hD.small.low ha hb' hl
        unfold farZ
        omega
      have := b1 i hi h5
      omega
  · rintro ⟨h, hp⟩
    refine flo_pot (h := h) n M (Nat.le_refl _) fun i j hi hj hl => ?_
    rcases hM.is i j hi hj hl with e | ⟨s, hs, h1, h2, h3, h4⟩
    · subst e
      rw [hM.diag i hi]
      omega
    · have := hp s hs h1
      rw [h2, h3] at this
      omega
theorem cheap_same {n : Nat} {S : List (Bool × StpZ)} {M : Mtx} (hn : n ≤ 10) (hS : ∀ s ∈ S, s.2.a < n ∧ s.2.b < n) (hc : ∀ s ∈ S, s.2.c ≤ 1048576) (hM : FstZ n S M) : relaxZ S (n + 1) (fun _ => 0) = floM n n M := by
  have h1 := cheap_iff hn hS hc hM
  have h2 := relax_iff hS
  cases h3 : floM n n M with
  | false => exact h2.2 (h1.1 h3)
  | true =>
    cases h4 : relaxZ S (n + 1) (fun _ => 0) with
    | true => rfl
    | false => rw [h1.2 (h2.1 h4)] at h3; cases h3
end Go.Proofs.Ytjkfogkpacmdlaa
