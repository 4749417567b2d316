/- Moore and Hodgson: by when they are due; when one is late the longest one goes; in plain Lean. Conditions: none. -/
import Derived.Test.YtokmialpclcodaaCells
namespace Go.Proofs.Ytokmialpclcodaa
open Go.RowKit

/-- A job: how long, by when. -/
abbrev Mj := Int × Int
def tsum (l : List Mj) : Int := (l.map (·.1)).sum
theorem tsum_snoc (l : List Mj) (j : Mj) : tsum (l ++ [j]) = tsum l + j.1 := by unfold tsum; simp
theorem tsum_app (a b : List Mj) : tsum (a ++ b) = tsum a + tsum b := by unfold tsum; simp
/-- All done in time, in this order; what was before takes x. -/
def Feas (x : Int) : List Mj → Prop
  | [] => True
  | j :: l => x + j.1 ≤ j.2 ∧ Feas (x + j.1) l
theorem feas_snoc : ∀ (l : List Mj) (x : Int) (j : Mj), Feas x (l ++ [j]) ↔ Feas x l ∧ x + tsum l + j.1 ≤ j.2
  | [], x, j => by simp [Feas, tsum]
  | a :: l, x, j => by
    rw [List.cons_append, Feas, feas_snoc l _ j, Feas]
    have : tsum (a :: l) = a.1 + tsum l := by unfold tsum; simp
    rw [this, show x + (a.1 + tsum l) = x + a.1 + tsum l by omega]
    exact ⟨fun h => ⟨⟨h.1, h.2.1⟩, h.2.2⟩, fun h => ⟨h.1.1, h.1.2, h.2⟩⟩
theorem feas_less : ∀ (l : List Mj) {x y : Int}, y ≤ x → Feas x l → Feas y l
  | [], _, _, _, _ => trivial
  | a :: l, x, y, h, hf => ⟨by have := hf.1; omega, feas_less l (by omega) hf.2⟩
theorem feas_sub {a b : List Mj} (h : a.Sublist b) : ∀ {x : Int}, (∀ j ∈ b, 0 ≤ j.1) → Feas x b → Feas x a := by
  induction h with
  | slnil => intro x _ h; exact h
  | cons c _ ih => intro x h0 h; exact ih (fun j hj => h0 j (by simp [hj])) (feas_less _ (by have := h0 c (by simp); omega) h.2)
  | cons_cons c _ ih => intro x h0 h; exact ⟨h.1, ih (fun j hj => h0 j (by simp [hj])) h.2⟩
/-- As many again, and no dearer, one more that is there. -/
theorem fill_one {x : Int} {m e : List Int} (h : m.Sublist e) : (∀ y ∈ e, y ≤ x) → m.length < e.length → ∃ m' : List Int, m'.Sublist e ∧ m'.length = m.length + 1 ∧ m'.sum ≤ m.sum + x := by
  induction h with
  | slnil => intro _ h; exact absurd h (by simp)
  | @cons m e a hs _ =>
    intro hx _
    exact ⟨a :: m, List.Sublist.cons_cons a hs, rfl, by have := hx a (by simp); rw [List.sum_cons]; omega⟩
  | cons_cons a _ ih =>
    intro hx hl
    obtain ⟨m', h1, h2, h3⟩ := ih (fun y hy => hx y (by simp [hy])) (by simpa using hl)
    exact ⟨a :: m', List.Sublist.cons_cons a h1, by simp [h2], by rw [List.sum_cons, List.sum_cons]; omega⟩
theorem drop_max {x : Int} {A B m : List Int} (hx : ∀ y ∈ A ++ x :: B, y ≤ x) (h : m.Sublist (A ++ x :: B)) (hl : m.length < (A ++ x :: B).length) : ∃ m' : List Int, m'.Sublist (A ++ B) ∧ m'.length = m.length ∧ m'.sum ≤ m.sum := by
  obtain ⟨m1, m2, rfl, h1, h2⟩ := List.sublist_append_iff.1 h
  cases h2 with
  | cons _ h2 => exact ⟨m1 ++ m2, h1.append h2, rfl, Int.le_refl _⟩
  | cons_cons _ h2 =>
    rename_i m3
    obtain ⟨m', k1, k2, k3⟩ := fill_one (x := x) (h1.append h2) (fun y hy => hx y (by rcases List.mem_append.1 hy with h | h <;> simp [h])) (by simp at hl ⊢; omega)
    exact ⟨m', k1, by rw [k2]; simp; omega, by rw [List.sum_append] at k3; rw [List.sum_append, List.sum_cons]; omega⟩
/-- What is kept of the jobs so far: in time, and no set in time is larger; and as many of those kept take no longer. -/
structure Moor (J K : List Mj) : Prop where
  sub : K.Sublist J
  ok : Feas 0 K
  best : ∀ S, S.Sublist J → Feas 0 S → ∃ m : List Int, m.Sublist (K.map (·.1)) ∧ m.length = S.length ∧ m.sum ≤ tsum S
theorem Moor.start : Moor [] [] := ⟨List.Sublist.slnil, trivial, fun S hS _ => ⟨[], List.Sublist.slnil, by rw [List.sublist_nil.1 hS]; rfl, by rw [List.sublist_nil.1 hS]; exact Int.le_refl _⟩⟩
theorem sub_snoc {S J : List Mj} {j : Mj} (h : S.Sublist (J ++ [j])) : S.Sublist J ∨ ∃ S0, S = S0 ++ [j] ∧ S0.Sublist J := by
  obtain ⟨a, b, rfl, h1, h2⟩ := List.sublist_append_iff.1 h
  cases h2 with
  | cons _ h2 =>
    rw [List.sublist_nil.1 h2, List.append_nil]
    exact .inl h1
  | cons_cons _ h2 =>
    rw [List.sublist_nil.1 h2]
    exact .inr ⟨a, rfl, h1⟩
theorem feas_last {J K : List Mj} {j : Mj} (hs : (J ++ [j]).Pairwise fun a b => a.2 ≤ b.2) (hK : K.Sublist J) (hf : Feas 0 K) (hne : K ≠ []) : tsum K ≤ j.2 := by
  rcases List.eq_nil_or_concat K with rfl | ⟨K0, a, rfl⟩
  · exact absurd rfl hne
  rw [List.concat_eq_append] at hK hf ⊢
  have h1 := ((feas_snoc K0 0 a).1 hf).2
  have h2 := (List.pairwise_append.1 hs).2.2 a (hK.subset (by simp)) j (by simp)
  rw [tsum_snoc]
  omega
/-- One more, and it is in time. -/
theorem Moor.keep {J K : List Mj} {j : Mj} (h : Moor J K) (hle : tsum K + j.1 ≤ j.2) : Moor (J ++ [j]) (K ++ [j]) := by
  refine ⟨h.sub.append (List.Sublist.refl _), (feas_snoc K 0 j).2 ⟨h.ok, by omega⟩, fun S hS hf => ?_⟩
  rw [List.map_append]
  rcases sub_snoc hS with h1 | ⟨S0, rfl, h1⟩
  · obtain ⟨m, m1, m2, m3⟩ := h.best S h1 hf
    exact ⟨m, m1.trans (List.sublist_append_left _ _), m2, m3⟩
  · obtain ⟨m, m1, m2, m3⟩ := h.best S0 h1 ((feas_snoc S0 0 j).1 hf).1
    exact ⟨m ++ [j.1], m1.append (List.Sublist.refl _), by simp [m2], by rw [tsum_snoc, List.sum_append]; simp; omega⟩
/-- One more, and it is late: the longest goes. -/
theorem Moor.late {J K A B : List Mj} {j x : Mj} (h : Moor J K) (hs : (J ++ [j]).Pairwise fun a b => a.2 ≤ b.2) (h0 : ∀ i ∈ J ++ [j], 0 ≤ i.1) (hgt : j.2 < tsum K + j.1) (hK : K ++ [j] = A ++ x :: B) (hx : ∀ y ∈ K ++ [j], y.1 ≤ x.1) : Moor (J ++ [j]) (A ++ B) := by
  have hsub : (K ++ [j]).Sublist (J ++ [j]) := h.sub.append (List.Sublist.refl _)
  have hAB : (A ++ B).Sublist (K ++ [j]) := by rw [hK]; exact (List.Sublist.refl A).append (List.sublist_cons_self x B)
  refine ⟨hAB.trans hsub, ?_, fun S hS hf => ?_⟩
  · rcases List.eq_nil_or_concat B with rfl | ⟨B0, b, rfl⟩
    · have e : K = A := by
        have := congrArg List.dropLast hK
        simpa using this
      rw [List.append_nil, ← e]
      exact h.ok
    · rw [List.concat_eq_append] at hK hAB ⊢
      have e : K = A ++ x :: B0 ∧ j = b := by
        have h1 : K ++ [j] = (A ++ x :: B0) ++ [b] := by rw [hK]; simp
        have h2 := List.append_inj' h1 rfl
        exact ⟨h2.1, by simpa using h2.2⟩
      obtain ⟨e1, rfl⟩ := e
      rw [← List.append_assoc]
      refine (feas_snoc _ 0 _).2 ⟨feas_sub (b := K) (by rw [e1]; exact (List.Sublist.refl A).append (List.sublist_cons_self x B0)) (fun i hi => h0 i (List.mem_append_left _ (h.sub.subset hi))) h.ok, ?_⟩
      have h4 := feas_last hs h.sub h.ok (by rw [e1]; simp)
      have h5 : tsum K = tsum (A ++ B0) + x.1 := by
        rw [e1, tsum_app, tsum_app]
        have : tsum (x :: B0) = x.1 + tsum B0 := by unfold tsum; simp
        omega
      have h6 := hx j (by simp)
      omega
  · have hm : ∃ m : List Int, m.Sublist ((K ++ [j]).map (·.1)) ∧ m.length = S.length ∧ m.sum ≤ tsum S ∧ m.length < (K ++ [j]).length := by
      rcases sub_snoc hS with h1 | ⟨S0, rfl, h1⟩
      · obtain ⟨m, m1, m2, m3⟩ := h.best S h1 hf
        have := m1.length_le
        rw [List.length_map] at this
        exact ⟨m, by rw [List.map_append]; exact m1.trans (List.sublist_append_left _ _), m2, m3, by rw [List.length_append]; simp; omega⟩
      · have hf0 := (feas_snoc S0 0 j).1 hf
        obtain ⟨m, m1, m2, m3⟩ := h.best S0 h1 hf0.1
        have hl := m1.length_le
        rw [List.length_map] at hl
        refine ⟨m ++ [j.1], by rw [List.map_append]; exact m1.append (List.Sublist.refl _), by simp [m2], by rw [tsum_snoc, List.sum_append]; simp; omega, ?_⟩
        rw [List.length_append, List.length_append]
        rcases Nat.lt_or_ge m.length K.length with h7 | h7
        · simp; omega
        · exfalso
          have h8 := m1.eq_of_length_le (by rw [List.length_map]; exact h7)
          have h9 : m.sum = tsum K := by rw [h8]; rfl
          omega
    obtain ⟨m, m1, m2, m3, m4⟩ := hm
    rw [hK, List.map_append, List.map_cons] at m1
    obtain ⟨m', k1, k2, k3⟩ := drop_max (fun y hy => by
      rw [← List.map_cons, ← List.map_append, ← hK] at hy
      obtain ⟨i, hi, rfl⟩ := List.mem_map.1 hy
      exact hx i hi) m1 (by rw [hK] at m4; simpa using m4)
    exact ⟨m', by rw [List.map_append]; exact k1, by omega, by omega⟩
theorem Moor.most {J K : List Mj} (h : Moor J K) {S : List Mj} (hS : S.Sublist J) (hf : Feas 0 S) : S.length ≤ K.length := by
  obtain ⟨m, m1, m2, _⟩ := h.best S hS hf
  have := m1.length_le
  rw [List.length_map] at this
  omega
end Go.Proofs.Ytokmialpclcodaa
