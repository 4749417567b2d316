/- The elimination step by step, by places. Conditions: the part hangs together, its edges are simple. -/
import Derived.Test.YtbbdiondhnmnaaaDoorSpanMany21
namespace Go.Proofs.YtbbdiondhnmnaaaDoor

structure POk (w : Nat → Nat → Int) (X : List Nat) (r : Nat) : Prop where
  symm : ∀ i j, w i j = w j i
  self : ∀ i, w i i = 0
  nn : ∀ i j, 0 ≤ w i j
  one : ∀ i j, w i j ≤ 1
  nd : (r :: X).Nodup
  len : X.length ≤ 9
  con : ∀ P : Nat → Prop, (∃ x ∈ X, P x) → ¬ P r → ∃ y ∈ X, P y ∧ ∃ z ∈ r :: X, ¬ P z ∧ 0 < w y z
def pa (X : List Nat) (a : Nat) : Nat := X.getD a 0
def eM (w : Nat → Nat → Int) (X : List Nat) (r s a b : Nat) : Int := brd (LM w X (to_ w [r])) (X.take s) (pa X a) (pa X b)
def eL (w : Nat → Nat → Int) (X : List Nat) (r s : Nat) : Int := lead (LM w X (to_ w [r])) (X.take s)
section
variable {w : Nat → Nat → Int} {X : List Nat} {r : Nat}
theorem pa_at {a : Nat} (h : a < X.length) : pa X a = X[a] := by
  unfold pa
  rw [List.getD_eq_getElem?_getD, List.getElem?_eq_getElem h]
  rfl
theorem pa_app {a : Nat} (h : a < X.length) : pa (X ++ [r]) a = pa X a := by
  unfold pa
  rw [List.getD_eq_getElem?_getD, List.getD_eq_getElem?_getD, List.getElem?_append_left h]
theorem eL_0 : eL w X r 0 = 1 := rfl
theorem eL_succ {s : Nat} (hs : s < X.length) : eL w X r (s + 1) = eM w X r s s s := by
  unfold eL eM
  rw [List.take_succ_eq_append_getElem hs, lead_snoc, pa_at hs]
theorem POk.nz (h : POk w X r) : NZ (LM w X (to_ w [r])) X :=
  nz_part h.symm h.self h.nn r X (List.nodup_cons.1 h.nd).1 (List.nodup_cons.1 h.nd).2 h.con
theorem POk.nzt (h : POk w X r) (s : Nat) : NZ (LM w X (to_ w [r])) (X.take s) := fun P Q e => h.nz P (Q ++ X.drop s) (by rw [← List.append_assoc, ← e, List.take_append_drop])
theorem POk.ne (h : POk w X r) (s : Nat) : eL w X r s ≠ 0 := h.nzt s (X.take s) [] (by simp)
theorem eM_0 (a b : Nat) : eM w X r 0 a b = LM w X (to_ w [r]) (pa X a) (pa X b) := brd_nil _ _ _
theorem POk.step (h : POk w X r) {s : Nat} (hs : s < X.length) (a b : Nat) : (eM w X r s a b * eM w X r s s s - eM w X r s a s * eM w X r s s b).tdiv (eL w X r s) = eM w X r (s + 1) a b := by
  have := syl_div (h.nzt s) (pa X s) (pa X a) (pa X b)
  unfold eM eL
  rw [this, List.take_succ_eq_append_getElem hs, pa_at hs]
theorem POk.deg (h : POk w X r) {k : Nat} (hk : k ∈ X) : sm (w k) (r :: X) ≤ 9 := by
  have h1 := sm_deg h.one h.self (k := k) (Y := r :: X) (by simp [hk])
  have h2 := h.len
  rw [List.length_cons] at h1
  omega
theorem mem_drop_at {s a : Nat} (h1 : s ≤ a) (h2 : a < X.length) : pa X a ∈ X.drop s := by
  rw [pa_at h2]
  refine List.mem_iff_getElem.2 ⟨a - s, by rw [List.length_drop]; omega, ?_⟩
  rw [List.getElem_drop]
  congr 1
  omega
theorem POk.size (h : POk w X r) {s a b : Nat} (ha : s ≤ a) (ha' : a < X.length) (hb : s ≤ b) (hb' : b < X.length) : -(9 ^ (s + 1)) ≤ eM w X r s a b ∧ eM w X r s a b ≤ 9 ^ (s + 1) := by
  have := brd_size h.symm h.self h.nn (b := 9) (by omega) r (X.take s) (X.drop s) (by rw [List.take_append_drop]; exact (List.nodup_cons.1 h.nd).2) (fun k hk => by rw [List.take_append_drop] at hk ⊢; exact h.deg hk) (pa X a) (pa X b) (mem_drop_at ha ha') (mem_drop_at hb hb')
  rw [List.take_append_drop, List.length_take, Nat.min_eq_left (by omega)] at this
  exact this
theorem nine {s : Nat} (h : s ≤ 7) : (9 : Int) ^ (s + 1) ≤ 43046721 := by
  have : ∀ s : Fin 8, (9 : Int) ^ (s.val + 1) ≤ 43046721 := by decide
  exact this ⟨s, by omega⟩
theorem POk.small (h : POk w X r) {s a b : Nat} (h7 : s ≤ 7) (ha : s ≤ a) (ha' : a < X.length) (hb : s ≤ b) (hb' : b < X.length) : -43046721 ≤ eM w X r s a b ∧ eM w X r s a b ≤ 43046721 := by
  have h1 := h.size ha ha' hb hb'
  have h2 := nine h7
  omega
/-- All is done: the trees. -/
theorem POk.end_ (h : POk w X r) : eL w X r X.length = D w (X ++ [r]) := by
  unfold eL
  rw [List.take_length]
  have h1 := lead_prefix h.symm h.self r X [] (by rw [List.append_nil]; exact (List.nodup_cons.1 h.nd).2)
  rw [List.append_nil] at h1
  rw [h1, D_perm h.symm (List.perm_append_singleton r X)]
  exact Z_ground w X fun i => by
    unfold to_
    rw [sm, sm, h.symm i r]
    omega
/-- The table's number at a place, before the step s. -/
def eV (w : Nat → Nat → Int) (X : List Nat) (r s a b : Nat) : Int := eM w X r (min s (min a b)) a b
/-- In the step s, at row i and column j. -/
def eU (w : Nat → Nat → Int) (X : List Nat) (r s i j a b : Nat) : Int := if a < i ∨ (a = i ∧ b < j) then eV w X r (s + 1) a b else eV w X r s a b
theorem eV_low {s a b : Nat} (h : a ≤ s ∨ b ≤ s) : eV w X r (s + 1) a b = eV w X r s a b := by
  unfold eV
  rw [show min (s + 1) (min a b) = min s (min a b) by omega]
theorem eU_start (s a b : Nat) : eU w X r s (s + 1) (s + 1) a b = eV w X r s a b := by
  unfold eU
  split
  · exact eV_low (by omega)
  · rfl
theorem eU_row {s i a b : Nat} (hb : b < X.length) : eU w X r s i X.length a b = eU w X r s (i + 1) (s + 1) a b := by
  unfold eU
  by_cases h1 : a < i ∨ (a = i ∧ b < X.length)
  · rw [if_pos h1, if_pos (by omega)]
  · rw [if_neg h1]
    split
    · exact (eV_low (by omega)).symm
    · rfl
theorem eU_end {s j a b : Nat} (ha : a < X.length) : eU w X r s X.length j a b = eV w X r (s + 1) a b := by
  unfold eU
  rw [if_pos (by omega)]
theorem eU_put {s i j a b : Nat} (hi : s < i) (hj : s < j) : (if a = i ∧ b = j then eM w X r (s + 1) i j else eU w X r s i j a b) = eU w X r s i (j + 1) a b := by
  unfold eU
  by_cases h : a = i ∧ b = j
  · obtain ⟨rfl, rfl⟩ := h
    rw [if_pos ⟨rfl, rfl⟩, if_pos (by omega)]
    unfold eV
    rw [show min (s + 1) (min a b) = s + 1 by omega]
  · rw [if_neg h]
    by_cases h1 : a < i ∨ (a = i ∧ b < j)
    · rw [if_pos h1, if_pos (by omega)]
    · rw [if_neg h1, if_neg (by omega)]
theorem eU_ij {s i j : Nat} (hi : s < i) (hj : s < j) : eU w X r s i j i j = eM w X r s i j := by
  unfold eU eV
  rw [if_neg (by omega), show min s (min i j) = s by omega]
theorem eU_is {s i j : Nat} (hi : s < i) (hj : s < j) : eU w X r s i j i s = eM w X r s i s := by
  unfold eU eV
  rw [if_pos (by omega), show min (s + 1) (min i s) = s by omega]
theorem eU_ss {s i j : Nat} (hi : s < i) : eU w X r s i j s s = eM w X r s s s := by
  unfold eU eV
  rw [if_pos (by omega), show min (s + 1) (min s s) = s by omega]
theorem eU_sj {s i j : Nat} (hi : s < i) (hj : s < j) : eU w X r s i j s j = eM w X r s s j := by
  unfold eU eV
  rw [if_pos (by omega), show min (s + 1) (min s j) = s by omega]
theorem eV_ss (s : Nat) : eV w X r (s + 1) s s = eM w X r s s s := by
  unfold eV
  rw [show min (s + 1) (min s s) = s by omega]
/-! How the table is filled. -/
def f1 (w : Nat → Nat → Int) (P : List Nat) (i t b : Nat) : Int := if b = i then sm (w (pa P i)) (P.take t) else 0
def f2 (w : Nat → Nat → Int) (P : List Nat) (i j b : Nat) : Int := (if b = i then sm (w (pa P i)) P else 0) - (if b < j then w (pa P i) (pa P b) else 0)
/-- The rows ahead are filled, this one is being filled. -/
def fT (w : Nat → Nat → Int) (X : List Nat) (r i : Nat) (g : Nat → Int) (a b : Nat) : Int := if a < i then eM w X r 0 a b else g b
theorem f1_0 (P : List Nat) (i b : Nat) : f1 w P i 0 b = 0 := by
  unfold f1
  rw [List.take_zero, sm, ite_self]
theorem f1_put {P : List Nat} {i t b : Nat} (ht : t < P.length) : (if b = i then f1 w P i t i + w (pa P i) (pa P t) else f1 w P i t b) = f1 w P i (t + 1) b := by
  unfold f1
  by_cases h : b = i
  · rw [if_pos h, if_pos rfl, if_pos h, List.take_succ_eq_append_getElem ht, sm_app, sm, sm, pa_at ht]
    omega
  · rw [if_neg h, if_neg h, if_neg h]
theorem f1_end (P : List Nat) (i b : Nat) : f1 w P i P.length b = f2 w P i 0 b := by
  unfold f1 f2
  rw [List.take_length, if_neg (show ¬ b < 0 by omega), Int.sub_zero]
theorem f2_put {P : List Nat} {i j b : Nat} : (if b = j then f2 w P i j j - w (pa P i) (pa P j) else f2 w P i j b) = f2 w P i (j + 1) b := by
  unfold f2
  by_cases h : b = j
  · subst h
    rw [if_pos rfl, if_neg (show ¬ b < b by omega), if_pos (show b < b + 1 by omega)]
    omega
  · rw [if_neg h]
    by_cases h1 : b < j
    · rw [if_pos h1, if_pos (show b < j + 1 by omega)]
    · rw [if_neg h1, if_neg (show ¬ b < j + 1 by omega)]
theorem POk.filled (h : POk w X r) {i b : Nat} (hi : i < X.length) (hb : b < X.length) : f2 w (X ++ [r]) i X.length b = eM w X r 0 i b := by
  rw [eM_0]
  unfold f2 LM
  rw [if_pos hb, pa_app hi, pa_app hb]
  have hnd := (List.nodup_cons.1 h.nd).2
  by_cases e : b = i
  · subst e
    rw [if_pos rfl, if_pos rfl, h.self, sm_app]
    show _ = sm (w (pa X b)) [r] + _
    omega
  · have hne : pa X i ≠ pa X b := fun e' => by
      rw [pa_at hi, pa_at hb] at e'
      exact e ((List.getElem_inj hnd).1 e').symm
    rw [if_neg e, if_neg hne]
    omega
theorem f1_in (h : POk w X r) (i t b : Nat) : 0 ≤ f1 w (X ++ [r]) i t b ∧ f1 w (X ++ [r]) i t b ≤ 10 := by
  unfold f1
  split
  · have h1 := sm_nonneg (h.nn (pa (X ++ [r]) i)) ((X ++ [r]).take t)
    have h2 := sm_len (h.one (pa (X ++ [r]) i)) ((X ++ [r]).take t)
    have h4 := List.length_take_le' t (X ++ [r])
    rw [List.length_append, List.length_singleton] at h4
    have h5 := h.len
    omega
  · omega
theorem f2_in (h : POk w X r) (i j b : Nat) : -1 ≤ f2 w (X ++ [r]) i j b ∧ f2 w (X ++ [r]) i j b ≤ 10 := by
  have h0 := f1_in h i (X ++ [r]).length b
  rw [f1_end] at h0
  unfold f2 at h0 ⊢
  rw [if_neg (show ¬ b < 0 by omega)] at h0
  have h1 := h.nn (pa (X ++ [r]) i) (pa (X ++ [r]) b)
  have h2 := h.one (pa (X ++ [r]) i) (pa (X ++ [r]) b)
  split <;> omega
theorem fT_row {i a b : Nat} (hb : b < X.length) (h : POk w X r) (ha : a ≤ i) (hi : i < X.length) (g : Nat → Int) : fT w X r i (f2 w (X ++ [r]) i X.length) a b = fT w X r (i + 1) g a b := by
  unfold fT
  by_cases e : a < i
  · rw [if_pos e, if_pos (by omega)]
  · obtain rfl : a = i := by omega
    rw [if_neg e, if_pos (by omega)]
    exact h.filled hi hb
end
end Go.Proofs.YtbbdiondhnmnaaaDoor
