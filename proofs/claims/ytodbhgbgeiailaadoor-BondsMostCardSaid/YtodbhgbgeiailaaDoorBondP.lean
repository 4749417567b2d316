/- The most edges of which no two share a node, in plain Lean: edge by edge, and node by node. Conditions: none. -/
import Derived.Test.YtodbhgbgeiailaaDoorNearP
namespace Go.Proofs.YtodbhgbgeiailaaDoor
open Go.RowKit

def m1 (p : Int → Bool) (i : Int) : Int → Bool := fun x => p x && decide (x ≠ i)
theorem m1_comm (p : Int → Bool) (a b : Int) : m1 (m1 p a) b = m1 (m1 p b) a := by
  funext x
  unfold m1
  rw [Bool.and_assoc, Bool.and_assoc, Bool.and_comm (decide (x ≠ a))]
theorem m1_true {p : Int → Bool} {i x : Int} : m1 p i x = true ↔ p x = true ∧ x ≠ i := by simp [m1]
def bondF : List Ed → (Int → Bool) → Nat
  | [], _ => 0
  | e :: es, p => if p e.a = true ∧ p e.b = true then max (bondF es p) (1 + bondF es (m1 (m1 p e.a) e.b)) else bondF es p
theorem bond_mono : ∀ (es : List Ed) {p q : Int → Bool}, (∀ x, p x = true → q x = true) → bondF es p ≤ bondF es q
  | [], _, _, _ => Nat.le_refl _
  | e :: es, p, q, h => by
    have h1 := bond_mono es h
    unfold bondF
    by_cases hp : p e.a = true ∧ p e.b = true
    · rw [if_pos hp, if_pos ⟨h _ hp.1, h _ hp.2⟩]
      have h2 := bond_mono es (p := m1 (m1 p e.a) e.b) (q := m1 (m1 q e.a) e.b) fun x hx => by
        rw [m1_true, m1_true] at hx ⊢
        exact ⟨⟨h x hx.1.1, hx.1.2⟩, hx.2⟩
      omega
    · rw [if_neg hp]
      split <;> omega
theorem bond_cons (e : Ed) (es : List Ed) (p : Int → Bool) : bondF es p ≤ bondF (e :: es) p := by
  rw [bondF.eq_def (e :: es)]
  simp only
  split <;> omega
theorem bond_take {e : Ed} {es : List Ed} {p : Int → Bool} (ha : p e.a = true) (hb : p e.b = true) : 1 + bondF es (m1 (m1 p e.a) e.b) ≤ bondF (e :: es) p := by
  rw [bondF.eq_def (e :: es)]
  simp only
  rw [if_pos ⟨ha, hb⟩]
  omega
theorem bond_edge : ∀ {es : List Ed} {p : Int → Bool} {e : Ed}, (∀ f ∈ es, f.a ≠ f.b) → e ∈ es → p e.a = true → p e.b = true → 1 + bondF es (m1 (m1 p e.a) e.b) ≤ bondF es p
  | f :: es, p, e, hne, hm, ha, hb => by
    by_cases hfe : f = e
    · subst hfe
      have h1 := bond_take (es := es) ha hb
      have h2 : bondF (f :: es) (m1 (m1 p f.a) f.b) = bondF es (m1 (m1 p f.a) f.b) := by
        rw [bondF.eq_def (f :: es)]
        simp only
        rw [if_neg]
        rintro ⟨_, h⟩
        rw [m1_true] at h
        exact h.2 rfl
      omega
    · have hm' : e ∈ es := by
        rcases List.mem_cons.1 hm with h | h
        · exact absurd h.symm hfe
        · exact h
      have hne' : ∀ f ∈ es, f.a ≠ f.b := fun g hg => hne g (List.mem_cons_of_mem _ hg)
      have h1 := bond_edge hne' hm' ha hb
      have h3 := bond_cons f es p
      rw [bondF.eq_def (f :: es) (m1 (m1 p e.a) e.b)]
      simp only
      by_cases hf : m1 (m1 p e.a) e.b f.a = true ∧ m1 (m1 p e.a) e.b f.b = true
      · rw [if_pos hf]
        obtain ⟨hfa, hfb⟩ := hf
        rw [m1_true, m1_true] at hfa hfb
        have h4 := bond_take (es := es) hfa.1.1 hfb.1.1
        have h5 := bond_edge (p := m1 (m1 p f.a) f.b) hne' hm' (by rw [m1_true, m1_true]; exact ⟨⟨ha, fun h => hfa.1.2 h.symm⟩, fun h => hfb.1.2 h.symm⟩) (by rw [m1_true, m1_true]; exact ⟨⟨hb, fun h => hfa.2 h.symm⟩, fun h => hfb.2 h.symm⟩)
        have h6 : m1 (m1 (m1 (m1 p e.a) e.b) f.a) f.b = m1 (m1 (m1 (m1 p f.a) f.b) e.a) e.b := by
          rw [m1_comm (m1 p e.a) e.b f.a, m1_comm p e.a f.a, m1_comm (m1 (m1 p f.a) e.a) e.b f.b, m1_comm (m1 p f.a) e.a f.b]
        rw [h6]
        omega
      · rw [if_neg hf]
        omega
theorem bond_node : ∀ (es : List Ed) {p : Int → Bool} {i : Int}, (∀ f ∈ es, f.a ≠ f.b) → p i = true →
    bondF es p ≤ bondF es (m1 p i) ∨ ∃ e ∈ es, ∃ j, ((e.a = i ∧ e.b = j) ∨ (e.a = j ∧ e.b = i)) ∧ p j = true ∧ bondF es p ≤ 1 + bondF es (m1 (m1 p i) j)
  | [], _, _, _, _ => .inl (Nat.le_refl _)
  | e :: es, p, i, hne, hi => by
    have hne' : ∀ f ∈ es, f.a ≠ f.b := fun g hg => hne g (List.mem_cons_of_mem _ hg)
    have base : bondF es p ≤ bondF (e :: es) (m1 p i) ∨ ∃ f ∈ e :: es, ∃ j, ((f.a = i ∧ f.b = j) ∨ (f.a = j ∧ f.b = i)) ∧ p j = true ∧ bondF es p ≤ 1 + bondF (e :: es) (m1 (m1 p i) j) := by
      rcases bond_node es hne' hi with h | ⟨f, hf, j, h1, h2, h3⟩
      · exact .inl (Nat.le_trans h (bond_cons _ _ _))
      · exact .inr ⟨f, List.mem_cons_of_mem _ hf, j, h1, h2, Nat.le_trans h3 (by have := bond_cons e es (m1 (m1 p i) j); omega)⟩
    by_cases hp : p e.a = true ∧ p e.b = true
    · have hu : bondF (e :: es) p = max (bondF es p) (1 + bondF es (m1 (m1 p e.a) e.b)) := by
        rw [bondF.eq_def (e :: es)]
        simp only
        rw [if_pos hp]
      rcases Nat.le_total (1 + bondF es (m1 (m1 p e.a) e.b)) (bondF es p) with hle | hle
      · rw [hu, Nat.max_eq_left hle]
        exact base
      · rw [hu, Nat.max_eq_right hle]
        by_cases ha : e.a = i
        · exact .inr ⟨e, List.mem_cons_self, e.b, .inl ⟨ha, rfl⟩, hp.2, by rw [← ha]; have := bond_cons e es (m1 (m1 p e.a) e.b); omega⟩
        · by_cases hb : e.b = i
          · refine .inr ⟨e, List.mem_cons_self, e.a, .inr ⟨rfl, hb⟩, hp.1, ?_⟩
            rw [← hb, m1_comm p e.b e.a]
            have := bond_cons e es (m1 (m1 p e.a) e.b)
            omega
          · rcases bond_node es (p := m1 (m1 p e.a) e.b) (i := i) hne' (by rw [m1_true, m1_true]; exact ⟨⟨hi, fun h => ha h.symm⟩, fun h => hb h.symm⟩) with h | ⟨f, hf, j, h1, h2, h3⟩
            · left
              have h4 := bond_take (e := e) (es := es) (p := m1 p i) (by rw [m1_true]; exact ⟨hp.1, ha⟩) (by rw [m1_true]; exact ⟨hp.2, hb⟩)
              have h5 : m1 (m1 (m1 p i) e.a) e.b = m1 (m1 (m1 p e.a) e.b) i := by rw [m1_comm p i e.a, m1_comm (m1 p e.a) i e.b]
              rw [h5] at h4
              omega
            · right
              rw [m1_true, m1_true] at h2
              refine ⟨f, List.mem_cons_of_mem _ hf, j, h1, h2.1.1, ?_⟩
              have h4 := bond_take (e := e) (es := es) (p := m1 (m1 p i) j) (by rw [m1_true, m1_true]; exact ⟨⟨hp.1, ha⟩, fun h => h2.1.2 h.symm⟩) (by rw [m1_true, m1_true]; exact ⟨⟨hp.2, hb⟩, fun h => h2.2 h.symm⟩)
              have h5 : m1 (m1 (m1 (m1 p i) j) e.a) e.b = m1 (m1 (m1 (m1 p e.a) e.b) i) j := by
                rw [m1_comm (m1 p i) j e.a, m1_comm p i e.a, m1_comm (m1 (m1 p e.a) i) j e.b, m1_comm (m1 p e.a) i e.b]
              rw [h5] at h4
              omega
    · have hu : bondF (e :: es) p = bondF es p := by
        rw [bondF.eq_def (e :: es)]
        simp only
        rw [if_neg hp]
      rw [hu]
      rcases bond_node es hne' hi with h | ⟨f, hf, j, h1, h2, h3⟩
      · exact .inl (Nat.le_trans h (bond_cons _ _ _))
      · exact .inr ⟨f, List.mem_cons_of_mem _ hf, j, h1, h2, Nat.le_trans h3 (by have := bond_cons e es (m1 (m1 p i) j); omega)⟩
/-- By a node: it stays alone, or has one of those beside it. -/
def bondM (es : List Ed) (p : Int → Bool) (i : Nat) (js : List Nat) : Nat := js.foldl (fun m (j : Nat) => max m (1 + bondF es (m1 (m1 p i) j))) (bondF es (m1 p i))
theorem bondM_snoc (es : List Ed) (p : Int → Bool) (i : Nat) (js : List Nat) (j : Nat) : bondM es p i (js ++ [j]) = max (bondM es p i js) (1 + bondF es (m1 (m1 p i) j)) := by simp [bondM, List.foldl_append]
theorem fold_max {f : Nat → Nat} : ∀ (js : List Nat) (m b : Nat), m ≤ b → (∀ j ∈ js, f j ≤ b) → js.foldl (fun m j => max m (f j)) m ≤ b
  | [], m, b, h, _ => h
  | j :: js, m, b, h, hj => fold_max js _ b (Nat.max_le.2 ⟨h, hj j List.mem_cons_self⟩) fun k hk => hj k (List.mem_cons_of_mem _ hk)
theorem fold_ge {f : Nat → Nat} : ∀ (js : List Nat) (m : Nat), m ≤ js.foldl (fun m j => max m (f j)) m ∧ ∀ j ∈ js, f j ≤ js.foldl (fun m j => max m (f j)) m
  | [], m => ⟨Nat.le_refl _, fun j hj => by cases hj⟩
  | j :: js, m => by
    obtain ⟨h1, h2⟩ := fold_ge (f := f) js (max m (f j))
    refine ⟨by rw [List.foldl_cons]; omega, fun k hk => ?_⟩
    rw [List.foldl_cons]
    rcases List.mem_cons.1 hk with rfl | hk
    · omega
    · exact h2 k hk
theorem bondM_all {N : Nat} {es : List Ed} {p : Int → Bool} {i : Nat} {js : List Nat} (hed : ∀ e ∈ es, GoodE N e) (hi : p i = true) (hj : ∀ j : Nat, j ∈ js ↔ (adj es i j = true ∧ p j = true ∧ j ≠ i)) : bondM es p i js = bondF es p := by
  have hne : ∀ f ∈ es, f.a ≠ f.b := fun f hf => (hed f hf).ne
  apply Nat.le_antisymm
  · refine fold_max (f := fun j : Nat => 1 + bondF es (m1 (m1 p i) j)) js _ _ (bond_mono es fun x hx => (m1_true.1 hx).1) fun j hjm => ?_
    obtain ⟨h1, h2, h3⟩ := (hj j).1 hjm
    obtain ⟨e, he, hje⟩ := List.any_eq_true.1 h1
    unfold joins at hje
    rcases of_decide_eq_true hje with ⟨h4, h5⟩ | ⟨h4, h5⟩
    · rw [← h4, ← h5]
      exact bond_edge hne he (by rw [h4]; exact hi) (by rw [h5]; exact h2)
    · rw [← h4, ← h5, m1_comm]
      exact bond_edge hne he (by rw [h4]; exact h2) (by rw [h5]; exact hi)
  · obtain ⟨g1, g2⟩ := fold_ge (f := fun j : Nat => 1 + bondF es (m1 (m1 p i) j)) js (bondF es (m1 p i))
    rcases bond_node es hne hi with h | ⟨e, he, j, h1, h2, h3⟩
    · exact Nat.le_trans h g1
    · obtain ⟨a0, a1, b0, b1, ab, _, _⟩ := hed e he
      obtain ⟨j', rfl⟩ : ∃ k : Nat, j = k := ⟨j.toNat, by omega⟩
      refine Nat.le_trans h3 (g2 j' ((hj j').2 ⟨List.any_eq_true.2 ⟨e, he, decide_eq_true h1⟩, h2, ?_⟩))
      rintro rfl
      rcases h1 with ⟨h4, h5⟩ | ⟨h4, h5⟩ <;> exact ab (by rw [h4, h5])
/-- The edges that are taken, one by one. -/
def bondL : List Ed → Nat → (Int → Bool) → List Nat
  | [], _, _ => []
  | e :: es, k, p => if (p e.a = true ∧ p e.b = true) ∧ 1 + bondF es (m1 (m1 p e.a) e.b) = bondF (e :: es) p then k :: bondL es (k + 1) (m1 (m1 p e.a) e.b) else bondL es (k + 1) p
theorem bond_skip {e : Ed} {es : List Ed} {p : Int → Bool} (h : ¬ ((p e.a = true ∧ p e.b = true) ∧ 1 + bondF es (m1 (m1 p e.a) e.b) = bondF (e :: es) p)) : bondF (e :: es) p = bondF es p := by
  rw [bondF.eq_def (e :: es)] at h ⊢
  simp only at h ⊢
  by_cases hp : p e.a = true ∧ p e.b = true
  · rw [if_pos hp] at h ⊢
    have : ¬ (1 + bondF es (m1 (m1 p e.a) e.b) = max (bondF es p) (1 + bondF es (m1 (m1 p e.a) e.b))) := fun h1 => h ⟨hp, h1⟩
    omega
  · rw [if_neg hp]
theorem bond_len : ∀ (es : List Ed) (p : Int → Bool), bondF es p ≤ es.length
  | [], _ => Nat.le_refl _
  | e :: es, p => by
    have h1 := bond_len es p
    have h2 := bond_len es (m1 (m1 p e.a) e.b)
    unfold bondF
    rw [List.length_cons]
    split <;> omega
end Go.Proofs.YtodbhgbgeiailaaDoor
