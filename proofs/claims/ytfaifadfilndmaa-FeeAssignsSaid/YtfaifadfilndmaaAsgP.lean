/- Who gets what: the reference's search, and a table over sets. Conditions: none. -/
import Derived.Test.YtfaifadfilndmaaNats
namespace Go.Proofs.Ytfaifadfilndmaa

def farI : Int := 1152921504606846976
def asgS (x : Nat → Int) (c : Nat → Bool) (g : Nat → List Nat × Int) (b : List Nat × Int) (j : Nat) : List Nat × Int :=
  if c j then b else if (g j).2 + x j < b.2 then ((g j).1, (g j).2 + x j) else b
def asgF (f : Nat → Nat → Int) (n : Nat) : Nat → List Nat → List Nat × Int
  | 0, l => (l, 0)
  | k + 1, l => (List.range n).foldl (asgS (f l.length) (fun j => l.contains j) (fun j => asgF f n k (l ++ [j]))) ([], farI)
theorem foldR_succ {β : Type} (h : β → Nat → β) (b : β) (m : Nat) : (List.range (m + 1)).foldl h b = h ((List.range m).foldl h b) m := by
  rw [List.range_succ, List.foldl_append]; rfl
theorem asg_or (x : Nat → Int) (c : Nat → Bool) (g : Nat → List Nat × Int) : ∀ m, ((List.range m).foldl (asgS x c g) ([], farI) = ([], farI) ∧ ∀ j, j < m → c j = false → farI ≤ (g j).2 + x j) ∨
    ∃ j, j < m ∧ c j = false ∧ (List.range m).foldl (asgS x c g) ([], farI) = ((g j).1, (g j).2 + x j) ∧ (g j).2 + x j < farI ∧ (∀ j', j' < j → c j' = false → (g j).2 + x j < (g j').2 + x j') ∧ ∀ j', j' < m → c j' = false → (g j).2 + x j ≤ (g j').2 + x j' := by
  intro m
  induction m with
  | zero => exact .inl ⟨rfl, fun j h => absurd h (by omega)⟩
  | succ m ih =>
    rw [foldR_succ]
    by_cases hc : c m = true
    · have hs : ∀ b, asgS x c g b m = b := fun b => by unfold asgS; rw [if_pos hc]
      rw [hs]
      rcases ih with ⟨h1, h2⟩ | ⟨j, h1, h2, h3, h3', h4, h5⟩
      · refine .inl ⟨h1, fun j hj hcj => h2 j ?_ hcj⟩
        by_cases e : j = m
        · subst e; rw [hc] at hcj; cases hcj
        · omega
      · refine .inr ⟨j, by omega, h2, h3, h3', h4, fun j' hj' hcj => h5 j' ?_ hcj⟩
        by_cases e : j' = m
        · subst e; rw [hc] at hcj; cases hcj
        · omega
    · have hcf : c m = false := by simpa using hc
      rcases ih with ⟨h1, h2⟩ | ⟨j, h1, h2, h3, h3', h4, h5⟩
      · rw [h1]
        by_cases hlt : (g m).2 + x m < farI
        · refine .inr ⟨m, by omega, hcf, ?_, hlt, ?_, ?_⟩
          · unfold asgS; rw [if_neg hc, if_pos hlt]
          · intro j' hj' hcj; have := h2 j' hj' hcj; omega
          · intro j' hj' hcj
            by_cases e : j' = m
            · subst e; omega
            · have := h2 j' (by omega) hcj; omega
        · refine .inl ⟨?_, ?_⟩
          · unfold asgS; rw [if_neg hc, if_neg hlt]
          · intro j hj hcj
            by_cases e : j = m
            · subst e; omega
            · exact h2 j (by omega) hcj
      · rw [h3]
        by_cases hlt : (g m).2 + x m < (g j).2 + x j
        · refine .inr ⟨m, by omega, hcf, ?_, by omega, ?_, ?_⟩
          · unfold asgS; rw [if_neg hc, if_pos hlt]
          · intro j' hj' hcj; have := h5 j' hj' hcj; omega
          · intro j' hj' hcj
            by_cases e : j' = m
            · subst e; omega
            · have := h5 j' (by omega) hcj; omega
        · refine .inr ⟨j, by omega, h2, ?_, h3', h4, ?_⟩
          · unfold asgS; rw [if_neg hc, if_neg hlt]
          · intro j' hj' hcj
            by_cases e : j' = m
            · subst e; omega
            · exact h5 j' (by omega) hcj
theorem asgS_snd (x : Nat → Int) (c : Nat → Bool) (g : Nat → List Nat × Int) (b : List Nat × Int) (j : Nat) : (asgS x c g b j).2 = if c j then b.2 else if (g j).2 + x j < b.2 then (g j).2 + x j else b.2 := by
  unfold asgS
  split
  · rfl
  · split <;> rfl
/-- Lists of unlike numbers below n. -/
def PathOk (n : Nat) (l : List Nat) : Prop := l.Nodup ∧ ∀ i ∈ l, i < n
theorem PathOk.free {n : Nat} {l : List Nat} (h : PathOk n l) (hl : l.length < n) : ∃ j, j < n ∧ l.contains j = false := by
  refine Classical.byContradiction fun hc => ?_
  have hs : ∀ j, j ∈ List.range n → j ∈ l := fun j hj => Classical.byContradiction fun hn => hc ⟨j, List.mem_range.1 hj, by simpa using hn⟩
  have := (List.nodup_range (n := n)).length_le_of_subset hs
  rw [List.length_range] at this
  omega
theorem PathOk.snoc {n : Nat} {l : List Nat} {j : Nat} (h : PathOk n l) (hj : j < n) (hc : l.contains j = false) : PathOk n (l ++ [j]) := by
  have hn : j ∉ l := by simpa using hc
  refine ⟨?_, fun i hi => ?_⟩
  · rw [List.nodup_append]
    refine ⟨h.1, by simp, fun a ha b hb => ?_⟩
    simp at hb
    subst hb
    exact fun e => hn (e ▸ ha)
  · rw [List.mem_append, List.mem_singleton] at hi
    rcases hi with hi | rfl
    · exact h.2 i hi
    · exact hj
theorem asg_bound {f : Nat → Nat → Int} {n : Nat} (h8 : n ≤ 8) (hf : ∀ i j, -1048576 ≤ f i j ∧ f i j ≤ 1048576) : ∀ (k : Nat) (l : List Nat), PathOk n l → l.length + k = n → -(1048576 * (k : Int)) ≤ (asgF f n k l).2 ∧ (asgF f n k l).2 ≤ 1048576 * (k : Int) := by
  intro k
  induction k with
  | zero => intro l _ _; simp [asgF]
  | succ k ih =>
    intro l hl hk
    have hg : ∀ j, j < n → l.contains j = false → -(1048576 * (k : Int)) ≤ (asgF f n k (l ++ [j])).2 ∧ (asgF f n k (l ++ [j])).2 ≤ 1048576 * (k : Int) := fun j hj hc =>
      ih (l ++ [j]) (hl.snoc hj hc) (by rw [List.length_append, List.length_singleton]; omega)
    obtain ⟨j0, hj0, hc0⟩ := hl.free (by omega)
    have hb0 := hg j0 hj0 hc0
    have hf0 := hf l.length j0
    unfold asgF
    rcases asg_or (f l.length) (fun j => l.contains j) (fun j => asgF f n k (l ++ [j])) n with ⟨_, h2⟩ | ⟨j, h1, h2, h3, _, _, h5⟩
    · have h2' : farI ≤ (asgF f n k (l ++ [j0])).2 + f l.length j0 := h2 j0 hj0 hc0
      unfold farI at h2'
      omega
    · rw [h3]
      have hb := hg j h1 h2
      have hfj := hf l.length j
      show _ ≤ (asgF f n k (l ++ [j])).2 + f l.length j ∧ (asgF f n k (l ++ [j])).2 + f l.length j ≤ _
      omega
theorem asg_step {f : Nat → Nat → Int} {n : Nat} (h8 : n ≤ 8) (hf : ∀ i j, -1048576 ≤ f i j ∧ f i j ≤ 1048576) {k : Nat} {l : List Nat} (hl : PathOk n l) (hk : l.length + (k + 1) = n) :
    ∃ j, j < n ∧ l.contains j = false ∧ (asgF f n (k + 1) l).1 = (asgF f n k (l ++ [j])).1 ∧ (asgF f n (k + 1) l).2 = f l.length j + (asgF f n k (l ++ [j])).2 ∧ ∀ j', j' < j → l.contains j' = false → f l.length j' + (asgF f n k (l ++ [j'])).2 ≠ (asgF f n (k + 1) l).2 := by
  obtain ⟨j0, hj0, hc0⟩ := hl.free (by omega)
  have hb0 := asg_bound h8 hf k (l ++ [j0]) (hl.snoc hj0 hc0) (by rw [List.length_append, List.length_singleton]; omega)
  have hf0 := hf l.length j0
  rcases asg_or (f l.length) (fun j => l.contains j) (fun j => asgF f n k (l ++ [j])) n with ⟨_, h2⟩ | ⟨j, h1, h2, h3, _, h4, _⟩
  · have h2' : farI ≤ (asgF f n k (l ++ [j0])).2 + f l.length j0 := h2 j0 hj0 hc0
    unfold farI at h2'
    omega
  · have h3' : asgF f n (k + 1) l = ((asgF f n k (l ++ [j])).1, (asgF f n k (l ++ [j])).2 + f l.length j) := h3
    refine ⟨j, h1, h2, by rw [h3'], by rw [h3']; exact Int.add_comm _ _, fun j' hj' hc' => ?_⟩
    have h4' : (asgF f n k (l ++ [j])).2 + f l.length j < (asgF f n k (l ++ [j'])).2 + f l.length j' := h4 j' hj' hc'
    rw [h3']
    show f l.length j' + (asgF f n k (l ++ [j'])).2 ≠ (asgF f n k (l ++ [j])).2 + f l.length j
    omega
theorem asg_congr {f : Nat → Nat → Int} {n : Nat} : ∀ (k : Nat) {l l' : List Nat}, l.length = l'.length → (∀ j, l.contains j = l'.contains j) → (asgF f n k l).2 = (asgF f n k l').2 := by
  intro k
  induction k with
  | zero => intro l l' _ _; rfl
  | succ k ih =>
    intro l l' hn hc
    unfold asgF
    have hg : ∀ j, (asgF f n k (l ++ [j])).2 = (asgF f n k (l' ++ [j])).2 := fun j => ih (by simp [hn]) (fun i => by
      have := hc i
      simp only [List.contains_eq_mem, List.mem_append] at this ⊢
      simp only [decide_eq_decide] at this ⊢
      rw [this])
    have hgen : ∀ m, ((List.range m).foldl (asgS (f l.length) (fun j => l.contains j) (fun j => asgF f n k (l ++ [j]))) ([], farI)).2 = ((List.range m).foldl (asgS (f l'.length) (fun j => l'.contains j) (fun j => asgF f n k (l' ++ [j]))) ([], farI)).2 := by
      intro m
      induction m with
      | zero => rfl
      | succ m ihm =>
        rw [foldR_succ, foldR_succ, asgS_snd, asgS_snd, ihm, hg m, hn]
        show (if l.contains m then _ else _) = (if l'.contains m then _ else _)
        rw [hc m]
    exact hgen n
/-- The word of a list, and the members of a word. -/
def wl (l : List Nat) : Nat := l.foldl (fun a j => nOr a (pw j)) 0
theorem wl_snoc (l : List Nat) (j : Nat) : wl (l ++ [j]) = nOr (wl l) (pw j) := by unfold wl; rw [List.foldl_append]; rfl
theorem nOr_bit (a j i : Nat) : (nOr a (pw j)).testBit i = (a.testBit i || decide (j = i)) := by
  unfold nOr pw
  rw [Nat.testBit_or, Nat.testBit_two_pow]
theorem wl_bit (l : List Nat) (i : Nat) : (wl l).testBit i = l.contains i := by
  have h : ∀ (q : List Nat) (a : Nat), (q.foldl (fun a j => nOr a (pw j)) a).testBit i = (a.testBit i || q.contains i) := by
    intro q
    induction q with
    | nil => intro a; simp
    | cons x q ih =>
      intro a
      rw [List.foldl_cons, ih, nOr_bit, List.contains_cons, Bool.or_assoc]
      congr 2
      rw [Bool.eq_iff_iff, decide_eq_true_iff, beq_iff_eq]
      exact eq_comm
  unfold wl
  rw [h]
  simp
def mem8 (w : Nat) : List Nat := (List.range 8).filter fun i => w.testBit i
def pop8 (w : Nat) : Nat := (mem8 w).length
theorem mem8_has (w i : Nat) (hw : w < 256) : (mem8 w).contains i = w.testBit i := by
  have h : i ∈ mem8 w ↔ w.testBit i = true := by
    unfold mem8
    rw [List.mem_filter, List.mem_range]
    refine ⟨fun h => h.2, fun h => ⟨?_, h⟩⟩
    refine Classical.byContradiction fun hc => ?_
    have hlt : w < 2 ^ i := Nat.lt_of_lt_of_le hw (Nat.pow_le_pow_right (n := 2) (by omega) (show 8 ≤ i by omega))
    rw [Nat.testBit_lt_two_pow hlt] at h
    cases h
  rw [Bool.eq_iff_iff, List.contains_iff_mem]
  exact h
theorem mem8_ok {n w : Nat} (h8 : n ≤ 8) (hw : w < pw n) : PathOk n (mem8 w) := by
  have h256 : w < 256 := Nat.lt_of_lt_of_le hw (Nat.pow_le_pow_right (n := 2) (by omega) h8)
  refine ⟨List.Pairwise.filter _ List.nodup_range, fun i hi => ?_⟩
  have hb : w.testBit i = true := by
    rw [← mem8_has w i h256]
    simpa using hi
  refine Classical.byContradiction fun hc => ?_
  have hlt : w < 2 ^ i := Nat.lt_of_lt_of_le hw (Nat.pow_le_pow_right (n := 2) (by omega) (show n ≤ i by omega))
  rw [Nat.testBit_lt_two_pow hlt] at hb
  cases hb
theorem PathOk.len {n : Nat} {l : List Nat} (h : PathOk n l) : l.length ≤ n := by
  have := h.1.length_le_of_subset (l₂ := List.range n) (fun i hi => List.mem_range.2 (h.2 i hi))
  rwa [List.length_range] at this
theorem pop8_le {n w : Nat} (h8 : n ≤ 8) (hw : w < pw n) : pop8 w ≤ n := (mem8_ok h8 hw).len
theorem same_len {l l' : List Nat} (h : l.Nodup) (h' : l'.Nodup) (hc : ∀ j, l.contains j = l'.contains j) : l.length = l'.length := by
  have hm : ∀ j, j ∈ l ↔ j ∈ l' := fun j => by
    rw [← List.contains_iff_mem, ← List.contains_iff_mem, hc j]
  exact Nat.le_antisymm (h.length_le_of_subset fun j hj => (hm j).1 hj) (h'.length_le_of_subset fun j hj => (hm j).2 hj)
theorem wl_lt {n : Nat} {l : List Nat} (h : PathOk n l) : wl l < pw n := by
  unfold pw
  refine Nat.lt_pow_two_of_testBit _ fun i hi => ?_
  rw [wl_bit]
  cases hb : l.contains i with
  | false => rfl
  | true =>
    have := h.2 i (by simpa using hb)
    omega
theorem pow_le_256 {n : Nat} (h8 : n ≤ 8) : pw n ≤ 256 := Nat.pow_le_pow_right (n := 2) (by omega) h8
theorem pop8_wl {n : Nat} (h8 : n ≤ 8) {l : List Nat} (h : PathOk n l) : pop8 (wl l) = l.length :=
  same_len (mem8_ok h8 (wl_lt h)).1 h.1 fun j => by rw [mem8_has _ _ (Nat.lt_of_lt_of_le (wl_lt h) (pow_le_256 h8)), wl_bit]
/-- What the table holds of a set: the fees of those behind. -/
def tv (f : Nat → Nat → Int) (n w : Nat) : Int := (asgF f n (n - pop8 w) (mem8 w)).2
theorem tv_wl {f : Nat → Nat → Int} {n : Nat} (h8 : n ≤ 8) {l : List Nat} (h : PathOk n l) : tv f n (wl l) = (asgF f n (n - l.length) l).2 := by
  unfold tv
  rw [pop8_wl h8 h]
  exact asg_congr _ (pop8_wl h8 h) fun j => by rw [mem8_has _ _ (Nat.lt_of_lt_of_le (wl_lt h) (pow_le_256 h8)), wl_bit]
def minS (x : Nat → Int) (T : Nat → Int) (w : Nat) (a : Int) (j : Nat) : Int := if w.testBit j then a else if x j + T (nOr w (pw j)) < a then x j + T (nOr w (pw j)) else a
def minF (x : Nat → Int) (T : Nat → Int) (w m : Nat) : Int := (List.range m).foldl (minS x T w) farI
theorem minF_succ (x : Nat → Int) (T : Nat → Int) (w m : Nat) : minF x T w (m + 1) = minS x T w (minF x T w m) m := foldR_succ _ _ _
theorem wl_mem8 {w : Nat} (hw : w < 256) : wl (mem8 w) = w := Nat.eq_of_testBit_eq fun i => by rw [wl_bit, mem8_has w i hw]
theorem tv_eq {f : Nat → Nat → Int} {n : Nat} (h8 : n ≤ 8) {w : Nat} (hw : w < pw n) (hp : pop8 w < n) : tv f n w = minF (f (pop8 w)) (tv f n) w n := by
  have h256 := Nat.lt_of_lt_of_le hw (pow_le_256 h8)
  have hok := mem8_ok h8 hw
  obtain ⟨k, hk⟩ : ∃ k, n - pop8 w = k + 1 := ⟨n - pop8 w - 1, by omega⟩
  have hsub : ∀ j, j < n → w.testBit j = false → tv f n (nOr w (pw j)) = (asgF f n k (mem8 w ++ [j])).2 := fun j hj hb => by
    have hc : (mem8 w).contains j = false := by rw [mem8_has w j h256, hb]
    have hl := tv_wl (f := f) h8 (hok.snoc hj hc)
    rw [wl_snoc, wl_mem8 h256, List.length_append, List.length_singleton] at hl
    rw [hl]
    have : n - ((mem8 w).length + 1) = k := by show n - (pop8 w + 1) = k; omega
    rw [this]
  have hgen : ∀ m, m ≤ n → ((List.range m).foldl (asgS (f (mem8 w).length) (fun j => (mem8 w).contains j) (fun j => asgF f n k (mem8 w ++ [j]))) ([], farI)).2 = minF (f (pop8 w)) (tv f n) w m := by
    intro m
    induction m with
    | zero => intro _; rfl
    | succ m ih =>
      intro hm
      rw [foldR_succ, minF_succ, asgS_snd, ih (by omega)]
      unfold minS
      show (if (mem8 w).contains m then _ else _) = _
      rw [mem8_has w m h256]
      cases hb : w.testBit m with
      | true => rfl
      | false =>
        rw [hsub m (by omega) hb, Int.add_comm (f (pop8 w) m)]
        rfl
  unfold tv
  rw [hk]
  exact hgen n (Nat.le_refl _)
theorem tv_bound {f : Nat → Nat → Int} {n : Nat} (h8 : n ≤ 8) (hf : ∀ i j, -1048576 ≤ f i j ∧ f i j ≤ 1048576) {w : Nat} (hw : w < pw n) : -8388608 ≤ tv f n w ∧ tv f n w ≤ 8388608 := by
  have hp := pop8_le h8 hw
  have := asg_bound h8 hf (n - pop8 w) (mem8 w) (mem8_ok h8 hw) (by show pop8 w + _ = n; omega)
  unfold tv
  omega
theorem pop8_full {n w : Nat} (h8 : n ≤ 8) (hw : w < pw n) (hp : n ≤ pop8 w) : w = pw n - 1 := by
  have h256 := Nat.lt_of_lt_of_le hw (pow_le_256 h8)
  have hok := mem8_ok h8 hw
  have hall : ∀ i, i < n → w.testBit i = true := fun i hi => by
    refine Classical.byContradiction fun hb => ?_
    have hc : (mem8 w).contains i = false := by rw [mem8_has w i h256]; simpa using hb
    have := (hok.snoc hi hc).len
    rw [List.length_append, List.length_singleton] at this
    have : pop8 w = (mem8 w).length := rfl
    omega
  refine Nat.eq_of_testBit_eq fun i => ?_
  unfold pw
  rw [Nat.testBit_two_pow_sub_one]
  by_cases hi : i < n
  · rw [hall i hi, decide_eq_true hi]
  · rw [decide_eq_false hi]
    have hlt : w < 2 ^ i := Nat.lt_of_lt_of_le hw (Nat.pow_le_pow_right (n := 2) (by omega) (show n ≤ i by omega))
    exact Nat.testBit_lt_two_pow hlt
theorem tv_full {f : Nat → Nat → Int} {n : Nat} (h8 : n ≤ 8) : tv f n (pw n - 1) = 0 := by
  have hlt : pw n - 1 < pw n := by have : 0 < pw n := Nat.two_pow_pos n; omega
  have h256 := Nat.lt_of_lt_of_le hlt (pow_le_256 h8)
  have hsub : ∀ i, i ∈ List.range n → i ∈ mem8 (pw n - 1) := fun i hi => by
    have : (mem8 (pw n - 1)).contains i = true := by
      rw [mem8_has _ _ h256]; unfold pw; rw [Nat.testBit_two_pow_sub_one]; exact decide_eq_true (List.mem_range.1 hi)
    simpa using this
  have := (List.nodup_range (n := n)).length_le_of_subset hsub
  rw [List.length_range] at this
  have hp : n ≤ pop8 (pw n - 1) := this
  unfold tv
  rw [show n - pop8 (pw n - 1) = 0 by omega]
  rfl
end Go.Proofs.Ytfaifadfilndmaa
