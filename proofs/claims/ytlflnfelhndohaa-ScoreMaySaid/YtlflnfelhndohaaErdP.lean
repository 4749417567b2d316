/- Erdos and Gallai's sums and Havel and Hakimi's step, in plain Lean. Conditions: none. -/
import Derived.Test.YtlflnfelhndohaaHavR
namespace Go.Proofs.Ytlflnfelhndohaa
open Go.RowKit

def lsum : List Int → Int
  | [] => 0
  | x :: l => x + lsum l
def ksum (k : Int) : List Int → Int
  | [] => 0
  | x :: l => min x k + ksum k l
def decL (l : List Int) : List Int := l.map (· - 1)
theorem lsum_append : ∀ (a b : List Int), lsum (a ++ b) = lsum a + lsum b
  | [], b => by simp [lsum]
  | x :: a, b => by simp only [List.cons_append, lsum, lsum_append a b]; omega
theorem ksum_append (k : Int) : ∀ (a b : List Int), ksum k (a ++ b) = ksum k a + ksum k b
  | [], b => by simp [ksum]
  | x :: a, b => by simp only [List.cons_append, ksum, ksum_append k a b]; omega
theorem lsum_perm {a b : List Int} (h : a.Perm b) : lsum a = lsum b := by
  induction h with
  | nil => rfl
  | cons x _ ih => simp only [lsum, ih]
  | swap x y l => simp only [lsum]; omega
  | trans _ _ h1 h2 => exact h1.trans h2
theorem ksum_perm {a b : List Int} (k : Int) (h : a.Perm b) : ksum k a = ksum k b := by
  induction h with
  | nil => rfl
  | cons x _ ih => simp only [ksum, ih]
  | swap x y l => simp only [ksum]; omega
  | trans _ _ h1 h2 => exact h1.trans h2
theorem lsum_dec : ∀ l, lsum (decL l) = lsum l - l.length
  | [] => rfl
  | x :: l => by have := lsum_dec l; simp only [decL, List.map_cons, lsum, List.length_cons] at *; omega
theorem ksum_dec (k : Int) : ∀ l, ksum (k + 1) l = ksum k (decL l) + l.length
  | [] => rfl
  | x :: l => by have := ksum_dec k l; simp only [decL, List.map_cons, ksum, List.length_cons] at *; omega
theorem ksum_dec_le (k : Int) : ∀ l, ksum k (decL l) ≤ ksum k l
  | [] => Int.le_refl _
  | x :: l => by have := ksum_dec_le k l; simp only [decL, List.map_cons, ksum] at *; omega
theorem ksum_mono (k : Int) : ∀ l, ksum k l ≤ ksum (k + 1) l
  | [] => Int.le_refl _
  | x :: l => by have := ksum_mono k l; simp only [ksum] at *; omega
theorem ksum_nn {k : Int} (hk : 0 ≤ k) : ∀ {l : List Int}, (∀ x ∈ l, 0 ≤ x) → 0 ≤ ksum k l
  | [], _ => Int.le_refl _
  | x :: l, h => by have := ksum_nn hk (l := l) fun y hy => h y (List.mem_cons_of_mem _ hy); have := h x (List.mem_cons_self ..); simp only [ksum]; omega
theorem ksum_all {k : Int} : ∀ {l : List Int}, (∀ x ∈ l, x ≤ k) → ksum k l = lsum l
  | [], _ => rfl
  | x :: l, h => by have := ksum_all (l := l) fun y hy => h y (List.mem_cons_of_mem _ hy); have := h x (List.mem_cons_self ..); simp only [ksum, lsum]; omega
theorem ksum_big {k : Int} : ∀ {l : List Int}, (∀ x ∈ l, k ≤ x) → ksum k l = l.length * k
  | [], _ => by simp [ksum]
  | x :: l, h => by
    have := ksum_big (l := l) fun y hy => h y (List.mem_cons_of_mem _ hy)
    have := h x (List.mem_cons_self ..)
    simp only [ksum, List.length_cons, Int.natCast_add, Int.add_mul]; omega
theorem ksum_same {k : Int} : ∀ {l : List Int}, (∀ x ∈ l, x ≤ k) → ksum (k + 1) l = ksum k l
  | [], _ => rfl
  | x :: l, h => by have := ksum_same (l := l) fun y hy => h y (List.mem_cons_of_mem _ hy); have := h x (List.mem_cons_self ..); simp only [ksum]; omega
theorem ksum_dec_big {k : Int} : ∀ {l : List Int}, (∀ x ∈ l, k + 1 ≤ x) → ksum k (decL l) = ksum k l
  | [], _ => rfl
  | x :: l, h => by have := ksum_dec_big (l := l) fun y hy => h y (List.mem_cons_of_mem _ hy); have := h x (List.mem_cons_self ..); simp only [decL, List.map_cons, ksum] at *; omega
theorem lsum_le {c : Int} : ∀ {l : List Int}, (∀ x ∈ l, x ≤ c) → lsum l ≤ l.length * c
  | [], _ => by simp [lsum]
  | x :: l, h => by
    have := lsum_le (l := l) fun y hy => h y (List.mem_cons_of_mem _ hy)
    have := h x (List.mem_cons_self ..)
    simp only [lsum, List.length_cons, Int.natCast_add, Int.add_mul]; omega
theorem lsum_nn : ∀ {l : List Int}, (∀ x ∈ l, 0 ≤ x) → 0 ≤ lsum l
  | [], _ => Int.le_refl _
  | x :: l, h => by have := lsum_nn (l := l) fun y hy => h y (List.mem_cons_of_mem _ hy); have := h x (List.mem_cons_self ..); simp only [lsum]; omega
/-- So many can be had: for each part of them. -/
def EGp (l : List Int) : Prop := ∀ A B : List Int, (A ++ B).Perm l → lsum A ≤ A.length * (A.length - 1) + ksum A.length B
theorem EGp.perm {l m : List Int} (h : EGp l) (hp : l.Perm m) : EGp m := fun A B hab => h A B (hab.trans hp.symm)
theorem perm_split {A B T U : List Int} (h : (A ++ B).Perm (T ++ U)) : ∃ A1 A2 B1 B2, A.Perm (A1 ++ A2) ∧ B.Perm (B1 ++ B2) ∧ (A1 ++ B1).Perm T ∧ (A2 ++ B2).Perm U := by
  induction T generalizing A B with
  | nil => exact ⟨[], A, [], B, .refl _, .refl _, .refl _, h⟩
  | cons x T ih =>
    have hx : x ∈ A ++ B := h.mem_iff.2 (by simp)
    rcases List.mem_append.1 hx with hx | hx
    · have hA := List.perm_cons_erase hx
      have h2 : (A.erase x ++ B).Perm (T ++ U) := by
        have := (hA.append_right B).symm.trans h
        exact List.Perm.cons_inv this
      obtain ⟨A1, A2, B1, B2, h3, h4, h5, h6⟩ := ih h2
      exact ⟨x :: A1, A2, B1, B2, hA.trans (h3.cons x), h4, h5.cons x, h6⟩
    · have hB := List.perm_cons_erase hx
      have h2 : (A ++ B.erase x).Perm (T ++ U) := by
        have : (x :: (A ++ B.erase x)).Perm (x :: (T ++ U)) := (List.perm_middle.symm.trans (hB.symm.append_left A)).trans h
        exact List.Perm.cons_inv this
      obtain ⟨A1, A2, B1, B2, h3, h4, h5, h6⟩ := ih h2
      exact ⟨A1, A2, x :: B1, B2, h3, hB.trans (h4.cons x), (List.perm_middle).trans (h5.cons x), h6⟩
theorem perm4 (a b c d : List Int) : (a ++ b ++ (c ++ d)).Perm (a ++ c ++ (b ++ d)) := by
  rw [List.append_assoc, List.append_assoc]
  refine List.Perm.append_left a ?_
  rw [← List.append_assoc, ← List.append_assoc]
  exact List.perm_append_comm.append_right d
theorem dec_perm {a b : List Int} (h : a.Perm b) : (decL a).Perm (decL b) := h.map _
theorem dec_app (a b : List Int) : decL (a ++ b) = decL a ++ decL b := List.map_append ..
theorem dec_len (a : List Int) : (decL a).length = a.length := List.length_map ..
theorem cast_len2 (a b : List Int) : ((a ++ b).length : Int) = a.length + b.length := by rw [List.length_append]; omega
/-- The step back. -/
theorem eg_back {t : Int} {T U : List Int} (ht : t = T.length) (h : EGp (decL T ++ U)) : EGp (t :: (T ++ U)) := by
  intro A B hab
  have htm : t ∈ A ++ B := hab.mem_iff.2 (by simp)
  have use : ∀ A1 A2 B1 B2, (A1 ++ B1).Perm T → (A2 ++ B2).Perm U → lsum A1 - A1.length + lsum A2 ≤ ((A1.length : Int) + A2.length) * ((A1.length : Int) + A2.length - 1) + ksum ((A1.length : Int) + A2.length) (decL B1) + ksum ((A1.length : Int) + A2.length) B2 := by
    intro A1 A2 B1 B2 h1 h2
    have := h (decL A1 ++ A2) (decL B1 ++ B2) ((perm4 _ _ _ _).trans (by
      rw [← dec_app]
      exact (dec_perm h1).append h2))
    rw [lsum_append, ksum_append, lsum_dec, List.length_append, dec_len, Int.natCast_add] at this
    omega
  rcases List.mem_append.1 htm with hx | hx
  · have hA := List.perm_cons_erase hx
    have h2 : (A.erase t ++ B).Perm (T ++ U) := List.Perm.cons_inv ((hA.append_right B).symm.trans hab)
    obtain ⟨A1, A2, B1, B2, h3, h4, h5, h6⟩ := perm_split h2
    have hu := use A1 A2 B1 B2 h5 h6
    have hl := h5.length_eq
    have e1 := lsum_perm (hA.trans (h3.cons t))
    have e2 := (hA.trans (h3.cons t)).length_eq
    simp only [lsum, List.length_cons, List.length_append] at e1 e2
    rw [lsum_append] at e1
    rw [List.length_append] at hl
    rw [e1, e2, ksum_perm _ h4, ksum_append]
    obtain ⟨s, hs⟩ : ∃ s : Int, s = (A1.length : Int) + A2.length := ⟨_, rfl⟩
    have e3 : ((A1.length + A2.length + 1 : Nat) : Int) = s + 1 := by omega
    rw [← hs] at hu
    rw [e3]
    have k1 := ksum_dec s B1
    have k2 := ksum_mono s B2
    have k3 : s * (s - 1) = s * s - s := by grind
    have k4 : (s + 1) * (s + 1 - 1) = s * s + s := by grind
    rw [k1, k4]
    rw [k3] at hu
    omega
  · have hB := List.perm_cons_erase hx
    have h2 : (A ++ B.erase t).Perm (T ++ U) := List.Perm.cons_inv ((List.perm_middle.symm.trans (hB.symm.append_left A)).trans hab)
    obtain ⟨A1, A2, B1, B2, h3, h4, h5, h6⟩ := perm_split h2
    have hu := use A1 A2 B1 B2 h5 h6
    have hl := h5.length_eq
    have e1 := lsum_perm h3
    have e2 := h3.length_eq
    simp only [List.length_append] at e2 hl
    rw [lsum_append] at e1
    rw [e1, e2, ksum_perm _ (hB.trans (h4.cons t))]
    simp only [ksum]
    rw [ksum_append]
    obtain ⟨s, hs⟩ : ∃ s : Int, s = (A1.length : Int) + A2.length := ⟨_, rfl⟩
    have e3 : ((A1.length + A2.length : Nat) : Int) = s := by omega
    rw [← hs] at hu
    rw [e3]
    have k1 := ksum_dec_le s B1
    omega
/-- The step on. -/
theorem eg_fwd {t : Int} {T U : List Int} (ht : t = T.length) (hT : ∀ x ∈ T, 1 ≤ x ∧ x ≤ t) (hTU : ∀ x ∈ T, ∀ y ∈ U, y ≤ x) (hU : ∀ y ∈ U, 0 ≤ y) (hev : (t + lsum T + lsum U) % 2 = 0) (h : EGp (t :: (T ++ U))) :
    ∀ (n m : Nat) (A1 A2 B1 B2 : List Int), (A1 ++ B1).Perm T → (A2 ++ B2).Perm U → A1.length + A2.length = n → B1.length = m → lsum A1 - A1.length + lsum A2 ≤ (n : Int) * (n - 1) + ksum n (decL B1) + ksum n B2 := by
  intro n
  induction n with
  | zero =>
    intro m A1 A2 B1 B2 h1 h2 h3 _
    obtain rfl : A1 = [] := List.eq_nil_of_length_eq_zero (by omega)
    obtain rfl : A2 = [] := List.eq_nil_of_length_eq_zero (by omega)
    have k1 : 0 ≤ ksum 0 (decL B1) := ksum_nn (Int.le_refl _) fun x hx => by
      unfold decL at hx
      obtain ⟨y, hy, rfl⟩ := List.mem_map.1 hx
      have := hT y (h1.mem_iff.1 (by simp [hy]))
      omega
    have k2 : 0 ≤ ksum 0 B2 := ksum_nn (Int.le_refl _) fun x hx => hU x (h2.mem_iff.1 (by simp [hx]))
    simp only [lsum, List.length_nil]
    simpa using Int.add_nonneg k1 k2
  | succ n ihn =>
    intro m
    induction m with
    | zero =>
      intro A1 A2 B1 B2 h1 h2 h3 h4
      obtain rfl : B1 = [] := List.eq_nil_of_length_eq_zero h4
      rw [List.append_nil] at h1
      have hh := h (A1 ++ A2) (t :: B2) (by
        refine List.perm_middle.trans (List.Perm.cons t ?_)
        rw [List.append_assoc]
        exact h1.append h2)
      rw [lsum_append, cast_len2] at hh
      simp only [ksum] at hh
      have hl := h1.length_eq
      have e3 : (A1.length : Int) + A2.length = ((n + 1 : Nat) : Int) := by omega
      rw [e3] at hh
      simp only [decL, List.map_nil, ksum]
      omega
    | succ m ihm =>
      intro A1 A2 B1 B2 h1 h2 h3 h4
      obtain ⟨s, hs⟩ : ∃ s : Int, s = ((n + 1 : Nat) : Int) := ⟨_, rfl⟩
      have hl := h1.length_eq
      rw [List.length_append] at hl
      rw [← hs]
      by_cases c1 : ∃ j ∈ A1, j ≤ s
      · obtain ⟨j, hj, hjs⟩ := c1
        have hp := List.perm_cons_erase hj
        have hq : (A1.erase j ++ (j :: B1)).Perm T := List.perm_middle.trans ((hp.symm.append_right B1).trans h1)
        have hlen := hp.length_eq
        rw [List.length_cons] at hlen
        have ih := ihn (m + 2) (A1.erase j) A2 (j :: B1) B2 hq h2 (by omega) (by simp [h4])
        have e1 := lsum_perm hp
        simp only [lsum] at e1
        have hn : (n : Int) = s - 1 := by omega
        rw [hn] at ih
        simp only [decL, List.map_cons, ksum] at ih
        have k1 := ksum_mono (s - 1) (decL B1)
        have k2 := ksum_mono (s - 1) B2
        rw [show s - 1 + 1 = s by omega] at k1 k2
        have k3 : (s - 1) * (s - 1 - 1) = s * (s - 1) - 2 * (s - 1) := by grind
        rw [k3] at ih
        unfold decL at k1 ⊢
        omega
      by_cases c2 : ∃ j ∈ A2, j ≤ s - 1
      · obtain ⟨j, hj, hjs⟩ := c2
        have hp := List.perm_cons_erase hj
        have hq : (A2.erase j ++ (j :: B2)).Perm U := List.perm_middle.trans ((hp.symm.append_right B2).trans h2)
        have hlen := hp.length_eq
        rw [List.length_cons] at hlen
        have ih := ihn (m + 1) A1 (A2.erase j) B1 (j :: B2) h1 hq (by omega) h4
        have e1 := lsum_perm hp
        simp only [lsum] at e1
        have hn : (n : Int) = s - 1 := by omega
        rw [hn] at ih
        simp only [ksum] at ih
        have k1 := ksum_mono (s - 1) (decL B1)
        have k2 := ksum_mono (s - 1) B2
        rw [show s - 1 + 1 = s by omega] at k1 k2
        have k3 : (s - 1) * (s - 1 - 1) = s * (s - 1) - 2 * (s - 1) := by grind
        rw [k3] at ih
        omega
      by_cases c3 : ∃ i ∈ A2, ∃ j ∈ B1, i ≤ j - 1
      · obtain ⟨i, hi, j, hj, hij⟩ := c3
        have hp := List.perm_cons_erase hi
        have hr := List.perm_cons_erase hj
        have hq1 : ((j :: A1) ++ B1.erase j).Perm T := (List.perm_middle.symm.trans (hr.symm.append_left A1)).trans h1
        have hq2 : (A2.erase i ++ (i :: B2)).Perm U := List.perm_middle.trans ((hp.symm.append_right B2).trans h2)
        have hlen := hp.length_eq
        have hlen2 := hr.length_eq
        rw [List.length_cons] at hlen hlen2
        have ih := ihm (j :: A1) (A2.erase i) (B1.erase j) (i :: B2) hq1 hq2 (by rw [List.length_cons]; omega) (by omega)
        have e1 := lsum_perm hp
        have e2 := ksum_perm s (dec_perm hr)
        simp only [lsum, decL, List.map_cons, ksum] at e1 e2 ih
        rw [← hs, List.length_cons] at ih
        unfold decL
        rw [e1, e2]
        omega
      have hA1 : ∀ x ∈ A1, s + 1 ≤ x := fun x hx => Classical.byContradiction fun hn => c1 ⟨x, hx, by omega⟩
      have hA2 : ∀ x ∈ A2, s ≤ x := fun x hx => Classical.byContradiction fun hn => c2 ⟨x, hx, by omega⟩
      have hAB : ∀ i ∈ A2, ∀ j ∈ B1, j ≤ i := fun i hi j hj => Classical.byContradiction fun hn => c3 ⟨i, hi, j, hj, by omega⟩
      have mT : ∀ {x}, x ∈ A1 → x ∈ T := fun hx => h1.mem_iff.1 (List.mem_append_left _ hx)
      have mT2 : ∀ {x}, x ∈ B1 → x ∈ T := fun hx => h1.mem_iff.1 (List.mem_append_right _ hx)
      have mU : ∀ {x}, x ∈ A2 → x ∈ U := fun hx => h2.mem_iff.1 (List.mem_append_left _ hx)
      have mU2 : ∀ {x}, x ∈ B2 → x ∈ U := fun hx => h2.mem_iff.1 (List.mem_append_right _ hx)
      cases A2 with
      | nil =>
        rw [List.nil_append] at h2
        simp only [List.length_nil] at h3
        simp only [lsum]
        by_cases c4 : ∀ y ∈ B2, y ≤ s
        · have hh := h (t :: A1) (B1 ++ B2) (by
            rw [List.cons_append]
            refine List.Perm.cons t ?_
            rw [← List.append_assoc]
            exact h1.append h2)
          rw [ksum_append] at hh
          simp only [lsum, List.length_cons] at hh
          have e3 : ((A1.length + 1 : Nat) : Int) = s + 1 := by omega
          rw [e3, ksum_dec s B1, ksum_same c4] at hh
          have k4 : (s + 1) * (s + 1 - 1) = s * (s - 1) + 2 * s := by grind
          rw [k4] at hh
          omega
        · obtain ⟨y, hy, hys⟩ : ∃ y ∈ B2, s + 1 ≤ y := Classical.byContradiction fun hn => c4 fun y hy => Classical.byContradiction fun h5 => hn ⟨y, hy, by omega⟩
          have hh := h A1 (t :: (B1 ++ B2)) (by
            refine List.perm_middle.trans (List.Perm.cons t ?_)
            rw [← List.append_assoc]
            exact h1.append h2)
          simp only [ksum] at hh
          rw [ksum_append] at hh
          have e3 : ((A1.length : Nat) : Int) = s := by omega
          have k := ksum_dec_big (k := s) (l := B1) fun x hx => by have := hTU x (mT2 hx) y (mU2 hy); omega
          rw [e3] at hh ⊢
          rw [k]
          omega
      | cons v A2 =>
        obtain ⟨j0, hj0⟩ : ∃ j0, j0 ∈ B1 := by
          cases B1 with
          | nil => simp at h4
          | cons j0 B1 => exact ⟨j0, by simp⟩
        have hv0 : v ∈ v :: A2 := List.mem_cons_self ..
        have hj0v : j0 = v := by have := hAB v hv0 j0 hj0; have := hTU j0 (mT2 hj0) v (mU hv0); omega
        have hAv : ∀ x ∈ v :: A2, x = v := fun x hx => by have := hAB x hx j0 hj0; have := hTU j0 (mT2 hj0) x (mU hx); omega
        have hBv : ∀ x ∈ B1, x = v := fun x hx => by have := hAB v hv0 x hx; have := hTU x (mT2 hx) v (mU hv0); omega
        have hvt : v ≤ t := by have := hT j0 (mT2 hj0); omega
        have hvs := hA2 v hv0
        have s1 := lsum_le (c := t) (l := A1) fun x hx => (hT x (mT hx)).2
        have s2 := lsum_le (c := v) (l := v :: A2) fun x hx => Int.le_of_eq (hAv x hx)
        have k2 := ksum_nn (k := s) (by omega) (l := B2) fun x hx => hU x (mU2 hx)
        obtain ⟨q, hq⟩ : ∃ q : Int, q = A1.length := ⟨_, rfl⟩
        obtain ⟨x, hx⟩ : ∃ x : Int, x = (v :: A2).length := ⟨_, rfl⟩
        obtain ⟨z, hz⟩ : ∃ z : Int, z = B1.length := ⟨_, rfl⟩
        have hx1 : 1 ≤ x := by rw [hx, List.length_cons]; omega
        have hz1 : 1 ≤ z := by omega
        have hq0 : 0 ≤ q := by omega
        have etq : t = q + z := by omega
        have esq : s = q + x := by omega
        rw [← hq] at s1 ⊢
        rw [← hx] at s2
        by_cases c5 : s + 1 ≤ v
        · have k1 := ksum_dec_big (k := s) (l := B1) fun y hy => by rw [hBv y hy]; exact c5
          have k3 := ksum_big (k := s) (l := B1) fun y hy => by rw [hBv y hy]; exact hvs
          rw [← hz] at k3
          rw [k1, k3]
          have i1 : x * v ≤ x * t := Int.mul_le_mul_of_nonneg_left hvt (by omega)
          have i2 : q * t - q + x * t = s * t - q := by grind
          have i3 : s * (s - 1) + z * s = s * t + s * (x - 1) := by grind
          have i4 : 0 ≤ s * (x - 1) := Int.mul_nonneg (by omega) (by omega)
          omega
        · have hvs2 : v = s := by omega
          have k3 := ksum_big (k := s - 1) (l := decL B1) fun y hy => by
            unfold decL at hy
            obtain ⟨u, hu, rfl⟩ := List.mem_map.1 hy
            rw [hBv u hu]; omega
          have k4 := ksum_mono (s - 1) (decL B1)
          rw [dec_len, ← hz] at k3
          rw [show s - 1 + 1 = s by omega] at k4
          by_cases c6 : 1 ≤ q ∨ 2 ≤ x
          · have i1 : q * t - q + x * v = q * (q - 1) + q * z + x * q + x * x := by subst hvs2 etq esq; grind
            have i2 : s * (s - 1) + z * (s - 1) = q * (q - 1) + q * z + x * q + x * x + (q * x - x + z * (x - 1)) := by subst etq esq; grind
            have i3 : 0 ≤ q * x - x + z * (x - 1) := by
              have j1 : 0 ≤ z * (x - 1) := Int.mul_nonneg (by omega) (by omega)
              rcases c6 with c6 | c6
              · have j2 : 1 * x ≤ q * x := Int.mul_le_mul_of_nonneg_right c6 (by omega)
                omega
              · by_cases c7 : 1 ≤ q
                · have j2 : 1 * x ≤ q * x := Int.mul_le_mul_of_nonneg_right c7 (by omega)
                  omega
                · have hq00 : q = 0 := by omega
                  subst hq00
                  have j3 : x * 1 ≤ z * (x - 1) := Int.mul_le_mul (by omega) (by omega) (by omega) (by omega)
                  omega
            omega
          · have hq00 : q = 0 := by omega
            have hx00 : x = 1 := by omega
            have hA10 : A1 = [] := List.eq_nil_of_length_eq_zero (by omega)
            have hA20 : A2 = [] := List.eq_nil_of_length_eq_zero (by rw [List.length_cons] at hx; omega)
            subst hA10 hA20
            have hs1 : s = 1 := by omega
            have hv1 : v = 1 := by omega
            subst hv1
            rw [List.nil_append] at h1
            have u1 : lsum T = t := by
              rw [← lsum_perm h1]
              have a1 := ksum_big (k := 1) (l := B1) fun y hy => Int.le_of_eq (hBv y hy).symm
              have a2 := ksum_all (k := 1) (l := B1) fun y hy => Int.le_of_eq (hBv y hy)
              omega
            have u2 : lsum U = 1 + lsum B2 := by
              rw [← lsum_perm h2]
              rfl
            have u3 : ksum 1 B2 = lsum B2 := ksum_all fun y hy => by have := hTU j0 (mT2 hj0) y (mU2 hy); omega
            have u4 := lsum_nn (l := B2) fun y hy => hU y (mU2 hy)
            rw [hs1] at k3 k4 ⊢
            simp only [lsum]
            rw [u3]
            omega
theorem eg_next {t : Int} {T U : List Int} (ht : t = T.length) (hT : ∀ x ∈ T, 1 ≤ x ∧ x ≤ t) (hTU : ∀ x ∈ T, ∀ y ∈ U, y ≤ x) (hU : ∀ y ∈ U, 0 ≤ y) (hev : (t + lsum T + lsum U) % 2 = 0) (h : EGp (t :: (T ++ U))) : EGp (decL T ++ U) := by
  intro A B hab
  obtain ⟨A1, A2, B1, B2, h3, h4, h5, h6⟩ := perm_split hab
  have hx : ∃ C1 D1, A1 = decL C1 ∧ B1 = decL D1 ∧ (C1 ++ D1).Perm T := by
    refine ⟨A1.map (· + 1), B1.map (· + 1), ?_, ?_, ?_⟩
    · simp [decL, Function.comp_def]
    · simp [decL, Function.comp_def]
    · have := h5.map (· + 1)
      rw [List.map_append] at this
      refine this.trans ?_
      simp [decL, Function.comp_def]
  obtain ⟨C1, D1, rfl, rfl, h7⟩ := hx
  have := eg_fwd ht hT hTU hU hev h _ _ C1 A2 D1 B2 h7 h6 rfl rfl
  rw [lsum_perm h3, h3.length_eq, ksum_perm _ h4, lsum_append, ksum_append, lsum_dec, List.length_append, dec_len]
  omega
/-- On a falling list the first ones are the worst. -/
theorem eg_pre {l : List Int} (hs : l.Pairwise (fun a b => b ≤ a)) (h0 : ∀ x ∈ l, 0 ≤ x) (h : ∀ k, k < l.length → lsum (l.take (k + 1)) ≤ ((k + 1 : Nat) : Int) * k + ksum ((k + 1 : Nat) : Int) (l.drop (k + 1))) : EGp l := by
  intro A B hab
  have hB : ∀ x ∈ B, 0 ≤ x := fun x hx => h0 x (hab.mem_iff.1 (by simp [hx]))
  have hlen := hab.length_eq
  rw [List.length_append] at hlen
  cases hA : A.length with
  | zero =>
    obtain rfl : A = [] := List.eq_nil_of_length_eq_zero hA
    have := ksum_nn (Int.le_refl 0) hB
    simp only [lsum]
    simpa using this
  | succ k =>
    have hk : k < l.length := by omega
    obtain ⟨s, hse⟩ : ∃ s : Int, s = ((k + 1 : Nat) : Int) := ⟨_, rfl⟩
    obtain ⟨v, hv⟩ : ∃ v, v = l[k] := ⟨_, rfl⟩
    have htk : ∀ x ∈ l.take (k + 1), v ≤ x := fun x hx => by
      rw [List.mem_take_iff_getElem] at hx
      obtain ⟨q, hq, rfl⟩ := hx
      by_cases e : q = k
      · subst e; omega
      · have := List.pairwise_iff_getElem.1 hs q k (by omega) hk (by omega)
        omega
    have hdr : ∀ x ∈ l.drop (k + 1), x ≤ v := fun x hx => by
      rw [List.mem_drop_iff_getElem] at hx
      obtain ⟨q, hq, rfl⟩ := hx
      have := List.pairwise_iff_getElem.1 hs k (k + 1 + q) hk (by omega) (by omega)
      omega
    -- what each is worth
    have up : ∀ C : List Int, lsum C + ksum s C ≤ C.length * (v + min v s) + lsum (C.map fun x => max (x + min x s - (v + min v s)) 0) := by
      intro C
      induction C with
      | nil => simp [lsum, ksum]
      | cons x C ih =>
        simp only [lsum, ksum, List.map_cons, List.length_cons, Int.natCast_add, Int.add_mul]
        omega
    have mx : ∀ C D : List Int, C.Perm D → lsum (C.map fun x => max (x + min x s - (v + min v s)) 0) = lsum (D.map fun x => max (x + min x s - (v + min v s)) 0) := fun C D h => lsum_perm (h.map _)
    have e1 : ∀ C : List Int, (∀ x ∈ C, v ≤ x) → lsum C + ksum s C = C.length * (v + min v s) + lsum (C.map fun x => max (x + min x s - (v + min v s)) 0) := by
      intro C
      induction C with
      | nil => intro _; simp [lsum, ksum]
      | cons x C ih =>
        intro hC
        have h1 := ih fun y hy => hC y (List.mem_cons_of_mem _ hy)
        have h2 := hC x (List.mem_cons_self ..)
        simp only [lsum, ksum, List.map_cons, List.length_cons, Int.natCast_add, Int.add_mul]
        omega
    have e2 : ∀ C : List Int, (∀ x ∈ C, x ≤ v) → lsum (C.map fun x => max (x + min x s - (v + min v s)) 0) = 0 := by
      intro C
      induction C with
      | nil => intro _; rfl
      | cons x C ih =>
        intro hC
        have h1 := ih fun y hy => hC y (List.mem_cons_of_mem _ hy)
        have h2 := hC x (List.mem_cons_self ..)
        simp only [lsum, List.map_cons]
        omega
    have nn : ∀ C : List Int, 0 ≤ lsum (C.map fun x => max (x + min x s - (v + min v s)) 0) := fun C => lsum_nn fun x hx => by
      obtain ⟨y, _, rfl⟩ := List.mem_map.1 hx
      exact Int.le_max_right _ _
    have a1 := up A
    have a2 := mx (A ++ B) l hab
    rw [List.map_append, lsum_append] at a2
    have a3 := nn B
    have a4 := e1 (l.take (k + 1)) htk
    have a5 := e2 (l.drop (k + 1)) hdr
    have a6 : lsum (l.map fun x => max (x + min x s - (v + min v s)) 0) = lsum ((l.take (k + 1)).map fun x => max (x + min x s - (v + min v s)) 0) + lsum ((l.drop (k + 1)).map fun x => max (x + min x s - (v + min v s)) 0) := by
      rw [← lsum_append, ← List.map_append, List.take_append_drop]
    have a7 := ksum_perm s hab
    rw [ksum_append] at a7
    have a8 : ksum s l = ksum s (l.take (k + 1)) + ksum s (l.drop (k + 1)) := by rw [← ksum_append, List.take_append_drop]
    have a9 := h k hk
    rw [List.length_take, Nat.min_eq_left (by omega)] at a4
    rw [← hse] at a4 a9 ⊢
    rw [hA, ← hse] at a1
    have b1 : s * (k : Int) = s * (s - 1) := by congr 1; omega
    rw [b1] at a9
    omega
theorem eg_take {l : List Int} (h : EGp l) {k : Nat} (hk : k < l.length) : lsum (l.take (k + 1)) ≤ ((k + 1 : Nat) : Int) * k + ksum ((k + 1 : Nat) : Int) (l.drop (k + 1)) := by
  have := h (l.take (k + 1)) (l.drop (k + 1)) (by rw [List.take_append_drop])
  rw [List.length_take, Nat.min_eq_left (by omega)] at this
  rw [show ((k + 1 : Nat) : Int) - 1 = k by omega] at this
  exact this
theorem ksum_le {k c : Int} : ∀ {l : List Int}, (∀ x ∈ l, min x k ≤ c) → ksum k l ≤ l.length * c
  | [], _ => by simp [ksum]
  | x :: l, h => by
    have := ksum_le (l := l) fun y hy => h y (List.mem_cons_of_mem _ hy)
    have := h x (List.mem_cons_self ..)
    simp only [ksum, List.length_cons, Int.natCast_add, Int.add_mul]; omega
theorem eg_zero {l : List Int} (h : ∀ x ∈ l, x = 0) : EGp l ∧ lsum l % 2 = 0 := by
  have hz : ∀ m : List Int, (∀ x ∈ m, x = 0) → lsum m = 0 := by
    intro m
    induction m with
    | nil => intro _; rfl
    | cons x m ih => intro hm; simp only [lsum, ih fun y hy => hm y (List.mem_cons_of_mem _ hy), hm x (List.mem_cons_self ..)]; rfl
  refine ⟨fun A B hab => ?_, by rw [hz l h]; rfl⟩
  rw [hz A fun x hx => h x (hab.mem_iff.1 (by simp [hx]))]
  have h1 := ksum_nn (k := (A.length : Int)) (by omega) (l := B) fun x hx => by rw [h x (hab.mem_iff.1 (by simp [hx]))]; exact Int.le_refl _
  have h2 : 0 ≤ (A.length : Int) * ((A.length : Int) - 1) := by
    cases hA : A.length with
    | zero => simp
    | succ k => exact Int.mul_nonneg (by omega) (by omega)
  omega
theorem eg_first {t : Int} {M : List Int} (h : EGp (t :: M)) (q : Nat) (hq : ∀ x ∈ M.drop q, x ≤ 0) : t ≤ q := by
  have h1 := h [t] M (by rw [List.singleton_append])
  simp only [lsum, List.length_singleton] at h1
  have h2 : ksum 1 M = ksum 1 (M.take q) + ksum 1 (M.drop q) := by rw [← ksum_append, List.take_append_drop]
  have h3 := ksum_le (k := 1) (c := 1) (l := M.take q) fun x _ => by omega
  have h4 := ksum_le (k := 1) (c := 0) (l := M.drop q) fun x hx => by have := hq x hx; omega
  rw [List.length_take] at h3
  have h5 : ((min q M.length : Nat) : Int) ≤ q := by omega
  have h6 : ((1 : Nat) : Int) * (((1 : Nat) : Int) - 1) = 0 := by decide
  rw [h6] at h1
  have h7 : ((1 : Nat) : Int) = 1 := rfl
  rw [h7] at h1
  omega
/-- The program's way ends well just where the sums say so. -/
theorem hk_may : ∀ (f : Nat) (L : List Nd), L.length < f → (∀ a ∈ L, 0 ≤ a.i ∧ a.i < 16 ∧ 0 ≤ a.d) → ((hkF f L).isSome = true ↔ EGp (L.map Nd.d) ∧ lsum (L.map Nd.d) % 2 = 0)
  | 0, L, h, _ => by omega
  | f + 1, L, h, hok => by
    have hpd : ((srtN L).map Nd.d).Perm (L.map Nd.d) := (srtN_perm L).map _
    have hiff : (EGp (L.map Nd.d) ∧ lsum (L.map Nd.d) % 2 = 0) ↔ (EGp ((srtN L).map Nd.d) ∧ lsum ((srtN L).map Nd.d) % 2 = 0) :=
      ⟨fun h => ⟨h.1.perm hpd.symm, by rw [lsum_perm hpd]; exact h.2⟩, fun h => ⟨h.1.perm hpd, by rw [← lsum_perm hpd]; exact h.2⟩⟩
    have hsort := srtN_sorted (l := L) fun a ha => ⟨(hok a ha).1, (hok a ha).2.1⟩
    have hlen := srtN_len L
    have hok2 : ∀ a ∈ srtN L, 0 ≤ a.i ∧ a.i < 16 ∧ 0 ≤ a.d := fun a ha => hok a ((srtN_perm L).mem_iff.1 ha)
    rw [hiff, hkF]
    cases hs : srtN L with
    | nil =>
      have := eg_zero (l := []) (fun x hx => by cases hx)
      simpa using this
    | cons t R =>
      rw [hs] at hsort hlen hok2
      have ht := hok2 t (List.mem_cons_self ..)
      have hRt : ∀ a ∈ R, a.d ≤ t.d := fun a ha => by
        have := (List.pairwise_cons.1 hsort).1 a ha
        unfold aheadN at this; omega
      have hR0 : ∀ a ∈ R, 0 ≤ a.d := fun a ha => (hok2 a (List.mem_cons_of_mem _ ha)).2.2
      have hRs := (List.pairwise_cons.1 hsort).2
      rw [List.map_cons]
      show (if t.d = 0 then _ else _ : Option _).isSome = true ↔ _
      by_cases hd : t.d = 0
      · rw [if_pos hd]
        have := eg_zero (l := t.d :: R.map Nd.d) (fun x hx => by
          rcases List.mem_cons.1 hx with rfl | hx
          · exact hd
          · obtain ⟨a, ha, rfl⟩ := List.mem_map.1 hx
            have := hRt a ha; have := hR0 a ha; omega)
        simpa using this
      · rw [if_neg hd]
        have hfail : ∀ q : Nat, (q : Int) < t.d → (∀ x ∈ (R.map Nd.d).drop q, x ≤ 0) → ¬ (EGp (t.d :: R.map Nd.d) ∧ lsum (t.d :: R.map Nd.d) % 2 = 0) := fun q h1 h2 h3 => by
          have := eg_first h3.1 q h2
          omega
        by_cases hle : R.length < t.d.toNat
        · rw [if_pos hle]
          have := hfail R.length (by omega) (fun x hx => by rw [List.drop_eq_nil_of_le (by rw [List.length_map]; exact Nat.le_refl _)] at hx; cases hx)
          simp [this]
        · rw [if_neg hle]
          by_cases ha : (R.take t.d.toNat).any (fun a => decide (a.d ≤ 0)) = true
          · rw [if_pos ha]
            obtain ⟨a, ha1, ha2⟩ := List.any_eq_true.1 ha
            rw [List.mem_take_iff_getElem] at ha1
            obtain ⟨q, hq, rfl⟩ := ha1
            have ha2 := of_decide_eq_true ha2
            have := hfail q (by omega) (fun x hx => by
              rw [List.mem_drop_iff_getElem] at hx
              obtain ⟨j, hj, rfl⟩ := hx
              rw [List.getElem_map]
              rw [List.length_map] at hj
              by_cases e : j = 0
              · subst e; exact ha2
              · have := List.pairwise_iff_getElem.1 hRs q (q + j) (by omega) (by omega) (by omega)
                unfold aheadN at this; omega)
            simp [this]
          · rw [if_neg ha]
            have hall : ∀ a ∈ R.take t.d.toNat, 0 < a.d := fun a h2 => Classical.byContradiction fun h3 => ha (List.any_eq_true.2 ⟨a, h2, decide_eq_true (by omega)⟩)
            obtain ⟨T, hT⟩ : ∃ T, T = (R.take t.d.toNat).map Nd.d := ⟨_, rfl⟩
            obtain ⟨U, hU⟩ : ∃ U, U = (R.drop t.d.toNat).map Nd.d := ⟨_, rfl⟩
            have hRTU : R.map Nd.d = T ++ U := by rw [hT, hU, ← List.map_append, List.take_append_drop]
            have hdec : (decN t.d.toNat R).map Nd.d = decL T ++ U := by
              rw [hT, hU]
              unfold decN decL
              rw [List.map_append, List.map_map, List.map_map]
              rfl
            have hTl : t.d = T.length := by rw [hT, List.length_map, List.length_take]; omega
            have hdl : (decN t.d.toNat R).length = R.length := by
              have := congrArg List.length (decN_i t.d.toNat R)
              rwa [List.length_map, List.length_map] at this
            have hih := hk_may f (decN t.d.toNat R) (by rw [hdl]; rw [List.length_cons] at hlen; omega) (fun a ha => by
              unfold decN at ha
              rcases List.mem_append.1 ha with ha | ha
              · obtain ⟨b, hb, rfl⟩ := List.mem_map.1 ha
                have h1 := hok2 b (List.mem_cons_of_mem _ (List.mem_of_mem_take hb))
                have h2 := hall b hb
                exact ⟨h1.1, h1.2.1, by show 0 ≤ b.d - 1; omega⟩
              · exact hok2 a (List.mem_cons_of_mem _ (List.mem_of_mem_drop ha)))
            rw [hdec] at hih
            rw [hRTU, Option.isSome_map, hih]
            have hev : lsum (decL T ++ U) = lsum (t.d :: (T ++ U)) - 2 * T.length := by
              rw [lsum_append, lsum_dec]
              simp only [lsum]
              rw [lsum_append]
              omega
            have hT1 : ∀ x ∈ T, 1 ≤ x ∧ x ≤ t.d := fun x hx => by
              rw [hT] at hx
              obtain ⟨a, ha, rfl⟩ := List.mem_map.1 hx
              have := hall a ha; have := hRt a (List.mem_of_mem_take ha); omega
            have hU1 : ∀ y ∈ U, 0 ≤ y := fun y hy => by
              rw [hU] at hy
              obtain ⟨a, ha, rfl⟩ := List.mem_map.1 hy
              exact hR0 a (List.mem_of_mem_drop ha)
            have hTU : ∀ x ∈ T, ∀ y ∈ U, y ≤ x := fun x hx y hy => by
              rw [hT] at hx
              rw [hU] at hy
              obtain ⟨a, ha, rfl⟩ := List.mem_map.1 hx
              obtain ⟨b, hb, rfl⟩ := List.mem_map.1 hy
              rw [← List.take_append_drop t.d.toNat R, List.pairwise_append] at hRs
              have := hRs.2.2 a ha b hb
              unfold aheadN at this; omega
            constructor
            · rintro ⟨h1, h2⟩
              exact ⟨eg_back hTl h1, by omega⟩
            · rintro ⟨h1, h2⟩
              refine ⟨eg_next hTl hT1 hTU hU1 ?_ h1, by omega⟩
              simp only [lsum] at h2
              rw [lsum_append] at h2
              omega
end Go.Proofs.Ytlflnfelhndohaa
