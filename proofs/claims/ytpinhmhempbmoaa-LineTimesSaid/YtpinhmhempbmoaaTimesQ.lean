/- Jobs that have an order, as a plan. In plain Lean. Conditions: none. -/
import Derived.Test.YtpinhmhempbmoaaTimesP
import Derived.Test.YtpinhmhempbmoaaQueP
namespace Go.Proofs.Ytpinhmhempbmoaa
open Go.RowKit

def lsN (l : List Jb) (i : Nat) : List Nat := (jAt l i).s.l.map Int.toNat
def ordN (l : List Jb) (k : Nat) : List Nat := (orderL l k).map Int.toNat
def planOf (l : List Jb) : Plan := ⟨l.length, lsN l, fun i => (jAt l i).t, ordN l l.length⟩
theorem jAt_mem {l : List Jb} {i : Nat} (hi : i < l.length) : jAt l i ∈ l := by
  unfold jAt
  rw [getD_at l i hi]
  exact List.getElem_mem hi
theorem jAt_out {l : List Jb} {i : Nat} (hi : l.length ≤ i) : jAt l i = ⟨0, ⟨none, 0, []⟩, 0, 0⟩ := by
  unfold jAt
  rw [List.getD_eq_getElem?_getD, List.getElem?_eq_none hi]
  rfl
theorem lsN_ints {l : List Jb} (hg : GoodJs l) {i : Nat} (hi : i < l.length) : intsOf (lsN l i) = (jAt l i).s.l := by
  unfold intsOf lsN
  rw [List.map_map]
  have := hg.k _ (jAt_mem hi)
  refine (List.map_congr_left (g := id) fun k hk => ?_).trans (List.map_id _)
  have := (this k hk).1
  simp; omega
theorem toNat_hasB {gone : List Int} (hp : ∀ x ∈ gone, 0 ≤ x) (i : Nat) : hasB gone (i : Int) = true ↔ i ∈ gone.map Int.toNat := by
  unfold hasB
  rw [List.any_eq_true, List.mem_map]
  constructor
  · rintro ⟨x, hx, he⟩
    exact ⟨x, hx, by simp at he; omega⟩
  · rintro ⟨x, hx, he⟩
    have := hp x hx
    exact ⟨x, hx, by simp; omega⟩
theorem ordN_succ (l : List Jb) (k : Nat) : ordN l (k + 1) = ordN l k ++ [(nextAt l k).toNat] := by
  unfold ordN
  rw [orderL_succ, List.map_append]
  rfl
theorem ordN_len (l : List Jb) (k : Nat) : (ordN l k).length = k := by
  unfold ordN
  rw [List.length_map, orderL_length]
structure OrdOk (l : List Jb) (k : Nat) : Prop where
  pos : ∀ x ∈ orderL l k, 0 ≤ x ∧ x < l.length
  nodup : (ordN l k).Nodup
  dep : ∀ a i b, ordN l k = a ++ i :: b → ∀ j ∈ lsN l i, j ∈ a
theorem ord_ok {l : List Jb} (hg : GoodJs l) (ho : HasOrder l) : ∀ k, k ≤ l.length → OrdOk l k
  | 0, _ => ⟨fun x hx => (by cases hx), List.nodup_nil, fun a i b h => (by
    have h2 := congrArg List.length h
    rw [ordN_len] at h2
    simp at h2)⟩
  | k + 1, hk => by
    have ih := ord_ok hg ho k (by omega)
    rcases nextAt_cases l k with ⟨h, _⟩ | ⟨i, h1, h2, h3, _⟩
    · exact absurd h (ho k (by omega))
    · have hpos : ∀ x ∈ orderL l k, 0 ≤ x := fun x hx => (ih.pos x hx).1
      unfold nextB at h3
      rw [Bool.and_eq_true] at h3
      have hni : i ∉ ordN l k := fun hm => by
        have := (toNat_hasB hpos i).2 hm
        rw [this] at h3
        cases h3.1
      have hdep : ∀ j ∈ lsN l i, j ∈ ordN l k := fun j hj => by
        have h4 := h3.2
        unfold depB at h4
        rw [List.all_eq_true] at h4
        obtain ⟨x, hx, rfl⟩ := List.mem_map.1 hj
        have hx' := hg.k _ (jAt_mem h2) x hx
        have := h4 x hx
        rw [show x = ((x.toNat : Nat) : Int) by omega] at this
        exact (toNat_hasB hpos _).1 this
      have he : ordN l (k + 1) = ordN l k ++ [i] := by rw [ordN_succ, h1]; rfl
      refine ⟨fun x hx => ?_, ?_, fun a x b hs => ?_⟩
      · rw [orderL_succ] at hx
        rcases List.mem_append.1 hx with hx | hx
        · exact ih.pos x hx
        · rw [List.mem_singleton] at hx
          rw [hx, h1]; omega
      · rw [he, List.nodup_append]
        exact ⟨ih.nodup, by simp, fun a ha b hb => by
          rw [List.mem_singleton] at hb
          intro e
          rw [hb] at e
          exact hni (e ▸ ha)⟩
      · rw [he] at hs
        rcases List.eq_nil_or_concat b with rfl | ⟨b', y, rfl⟩
        · have := List.append_inj' hs rfl
          rw [← this.1]
          have hx : i = x := by simpa using this.2
          rw [← hx]; exact hdep
        · rw [List.concat_eq_append] at hs
          have hs' : ordN l k ++ [i] = (a ++ x :: b') ++ [y] := by rw [hs]; simp
          exact ih.dep a x b' (List.append_inj' hs' rfl).1
theorem plan_ok {l : List Jb} (hg : GoodJs l) (ho : HasOrder l) : PlanOk (planOf l) := by
  have hk := ord_ok hg ho l.length (Nat.le_refl _)
  have hlt : ∀ i ∈ ordN l l.length, i < l.length := fun i hi => by
    obtain ⟨x, hx, rfl⟩ := List.mem_map.1 hi
    have := hk.pos x hx
    omega
  refine ⟨hk.nodup, fun i => ⟨fun h => hlt i h, fun h => ?_⟩, fun i k h => ?_, fun i => ?_, hk.dep⟩
  · refine Classical.byContradiction fun hni => ?_
    have hsub : i :: ordN l l.length ⊆ List.range l.length := by
      intro x hx
      rcases List.mem_cons.1 hx with rfl | hx
      · exact List.mem_range.2 h
      · exact List.mem_range.2 (hlt x hx)
    have := (List.nodup_cons.2 ⟨hni, hk.nodup⟩).length_le_of_subset hsub
    rw [List.length_range, List.length_cons, show (planOf l).ord.length = l.length from ordN_len l _] at this
    omega
  · obtain ⟨x, hx, rfl⟩ := List.mem_map.1 h
    by_cases hi : i < l.length
    · have := hg.k _ (jAt_mem hi) x hx
      show x.toNat < l.length
      omega
    · rw [jAt_out (by omega)] at hx
      cases hx
  · show 0 ≤ (jAt l i).t ∧ (jAt l i).t ≤ 1048576
    by_cases hi : i < l.length
    · exact hg.t _ (jAt_mem hi)
    · rw [jAt_out (by omega)]
      decide
theorem plan_far (l : List Jb) : ∀ i, (planOf l).n ≤ i → (planOf l).A i = [] := fun i hi => by
  show lsN l i = []
  unfold lsN
  rw [jAt_out hi]
  rfl
theorem ord_ints {l : List Jb} (hg : GoodJs l) (ho : HasOrder l) : intsOf (planOf l).ord = orderL l l.length := by
  show intsOf (ordN l l.length) = _
  unfold intsOf ordN
  rw [List.map_map]
  refine (List.map_congr_left (g := id) fun k hk => ?_).trans (List.map_id _)
  have := ((ord_ok hg ho l.length (Nat.le_refl _)).pos k hk).1
  simp; omega
/-- A row of numbers. -/
def rowU (N : Nat) (f : Nat → Int) : List Int := (List.range N).map f
theorem rowU_len (N : Nat) (f : Nat → Int) : (rowU N f).length = N := by simp [rowU]
theorem rowU_at (N : Nat) (f : Nat → Int) {k : Nat} (h : k < (rowU N f).length) : (rowU N f)[k] = f k := by simp [rowU]
theorem rowU_congr {N : Nat} {f g : Nat → Int} (h : ∀ i, i < N → f i = g i) : rowU N f = rowU N g := by
  unfold rowU
  exact List.map_congr_left fun i hi => h i (List.mem_range.1 hi)
theorem rowU_rep (N : Nat) (x : Int) : List.replicate N x = rowU N (fun _ => x) := by
  unfold rowU
  apply List.ext_getElem (by simp)
  intro i h1 h2
  simp
theorem rowU_upd (N j : Nat) (f : Nat → Int) (x : Int) : (rowU N f).set j x = rowU N (upd f j x) := by
  apply List.ext_getElem (by simp [rowU])
  intro i h1 h2
  rw [List.getElem_set]
  by_cases h : j = i
  · rw [if_pos h, rowU_at, ← h, upd_same]
  · rw [if_neg h, rowU_at, rowU_at, upd_ne _ _ (Ne.symm h)]
theorem rowU_succ (N : Nat) (f : Nat → Int) : rowU (N + 1) f = rowU N f ++ [f N] := by simp [rowU, List.range_succ]
end Go.Proofs.Ytpinhmhempbmoaa
