/- A table of numbers whose rows lie apart: made row by row, written cell by cell. Conditions: none. -/
import Derived.Test.YtbbdiondhnmnaaaDoorSpanMany24
import Derived.Test.YtbbdiondhnmnaaaDoorSpanMany25
import Derived.Test.YtbbdiondhnmnaaaDoorSpanMany6
namespace Go.Proofs.YtbbdiondhnmnaaaDoor
open Go.RowKit

def tabL (P m k : Nat) (q : Nat → Nat) : List Value := (List.range P).map fun j => if j < k then .slice (some ⟨q j, 0, none⟩) m m else .slice none 0 0
structure Tn (W : World) (S G P m k : Nat) (q : Nat → Nat) (M : Nat → Nat → Int) : Prop where
  out : Own W S 32 1 (fun v : Value => [v]) (some ⟨G, 0, none⟩) P (tabL P m k q)
  row : ∀ j, j < k → Own W S 2 1 icell (some ⟨q j, 0, none⟩) m ((List.range m).map (M j))
  inj : ∀ i j, i < k → j < k → i ≠ j → q i ≠ q j
section
variable {W W' : World} {S G P m k : Nat} {q : Nat → Nat} {M M' : Nat → Nat → Int}
theorem Tn.congr (h : Tn W S G P m k q M) (he : ∀ a b, a < k → b < m → M a b = M' a b) : Tn W S G P m k q M' := ⟨h.out, fun j hj => by
  have e : (List.range m).map (M' j) = (List.range m).map (M j) := List.map_congr_left fun b hb => (he j b hj (List.mem_range.1 hb)).symm
  rw [e]
  exact h.row j hj, h.inj⟩
theorem Tn.below (h : Tn W S G P m k q M) (hb : Below W.heap.size W W') : Tn W' S G P m k q M := ⟨h.out.below hb (Nat.le_refl _), fun j hj => (h.row j hj).below hb (Nat.le_refl _), h.inj⟩
theorem Tn.drew (h : Tn W S G P m k q M) : Tn W.drew S G P m k q M := ⟨h.out.drew, fun j hj => (h.row j hj).drew, h.inj⟩
theorem Tn.drewN (h : Tn W S G P m k q M) (n : Nat) : Tn (W.drewN n) S G P m k q M := ⟨h.out.drewN n, fun j hj => (h.row j hj).drewN n, h.inj⟩
theorem Tn.kept (h : Tn W S G P m k q M) (hg : W.grownBy W' none) : Tn W' S G P m k q M := ⟨h.out.kept hg (.inr (by simp [blkOf])), fun j hj => (h.row j hj).kept hg (.inr (by simp [blkOf])), h.inj⟩
theorem Tn.ne (h : Tn W S G P m k q M) {j : Nat} (hj : j < k) : q j ≠ G := fun e => by
  have := (h.row j hj).apart h.out (by decide)
  simp [blkOf, e] at this
theorem Tn.gt (h : Tn W S G P m k q M) : S ≤ G ∧ G < W.heap.size := h.out.lt G rfl
theorem Tn.qlt (h : Tn W S G P m k q M) {j : Nat} (hj : j < k) : S ≤ q j ∧ q j < W.heap.size := (h.row j hj).lt (q j) rfl
theorem Tn.low (h : Tn W S G P m k q M) {p : Addr} (hp : p.block < S) (u : Value) : Tn (W.setCell p u) S G P m k q M :=
  ⟨h.out.low hp u, fun j hj => (h.row j hj).low hp u, h.inj⟩
theorem Tn.far (h : Tn W S G P m k q M) {p : Addr} (hG : G ≠ p.block) (hq : ∀ j, j < k → q j ≠ p.block) (u : Value) : Tn (W.setCell p u) S G P m k q M :=
  ⟨h.out.far (by simpa [blkOf] using hG) u, fun j hj => (h.row j hj).far (by simpa [blkOf] using hq j hj) u, h.inj⟩
theorem tab_0 : List.replicate P (Value.slice none 0 0) = tabL P m 0 q := by
  unfold tabL
  apply List.ext_getElem
  · simp
  · intro i h1 h2
    simp
theorem tabL_len : (tabL P m k q).length = P := mapR_len _ _
theorem tab_set (R : Nat) : (tabL P m k q).set k (.slice (some ⟨R, 0, none⟩) m m) = tabL P m (k + 1) (fun j => if j = k then R else q j) := by
  unfold tabL
  rw [mapR_set]
  refine mapR_congr fun j _ => ?_
  by_cases e : j = k
  · subst e; rw [if_pos rfl, if_pos (by omega)]; simp only [if_true]
  · simp only [if_neg e]
    by_cases e2 : j < k
    · rw [if_pos e2, if_pos (by omega)]
    · rw [if_neg e2, if_neg (by omega)]
theorem Tn.made (h : Own W S 32 1 (fun v : Value => [v]) (some ⟨G, 0, none⟩) P (List.replicate P (Value.slice none 0 0))) : Tn W S G P m 0 q M :=
  ⟨by rw [← tab_0]; exact h, fun j hj => absurd hj (by omega), fun i j hi => absurd hi (by omega)⟩
/-- A row of its own put into the table. -/
theorem Tn.put (h : Tn W S G P m k q M) (hk : k < P) {R : Nat} {L : List Int} (hr : Own W S 2 1 icell (some ⟨R, 0, none⟩) m L) (hL : L = (List.range m).map (M k)) (hf : ∀ j, j < k → q j ≠ R) : Tn (W.setCell ⟨G, k, none⟩ (.slice (some ⟨R, 0, none⟩) m m)) S G P m (k + 1) (fun j => if j = k then R else q j) M := by
  subst hL
  refine ⟨?_, fun j hj => ?_, fun i j hi hj hij => ?_⟩
  · have h1 := h.out.put1 (f := fun v : Value => v) (k := k) (x := .slice (some ⟨R, 0, none⟩) m m) (by rw [tabL_len]; exact hk)
    rw [← tab_set]
    exact h1
  · by_cases e : j = k
    · subst e
      have hap := hr.apart h.out (by decide)
      simp only [if_true]
      exact hr.far (by simpa [blkOf] using hap) _
    · rw [if_neg e]
      have := h.ne (show j < k by omega)
      exact (h.row j (by omega)).far (by simpa [blkOf] using this) _
  · by_cases e : i = k
    · rw [if_pos e, if_neg (show j ≠ k by omega)]
      exact (hf j (by omega)).symm
    · rw [if_neg e]
      by_cases e2 : j = k
      · rw [if_pos e2]
        exact hf i (by omega)
      · rw [if_neg e2]
        exact h.inj i j (by omega) (by omega) hij
/-- The cells on the way to a number. -/
theorem Tn.at_ (h : Tn W S G P m k q M) {i j : Nat} (hi : i < k) (hk : k ≤ P) (hj : j < m) : W.cell? ⟨G, i, none⟩ = some (.slice (some ⟨q i, 0, none⟩) m m) ∧ W.cell? ⟨q i, j, none⟩ = some (.int .i64 (M i j)) ∧ W.frozen? ⟨q i, j, none⟩ = false := by
  obtain ⟨g, hA, _, _, hc, _⟩ := h.out.cell1 (f := fun v : Value => v) (k := i) (by rw [tabL_len]; omega)
  obtain rfl : G = g := by simpa using hA
  obtain ⟨g2, hA2, _, _, hc2, hf2⟩ := (h.row i hi).cell1 (f := fun x : Int => .int .i64 x) (k := j) (by rw [mapR_len]; exact hj)
  obtain rfl : q i = g2 := by simpa using hA2
  refine ⟨?_, ?_, hf2⟩
  · rw [hc]
    unfold tabL
    rw [mapR_get, if_pos hi]
  · rw [hc2, mapR_get]
/-- A slot of the table itself. -/
theorem Tn.slot (h : Tn W S G P m k q M) {i : Nat} (hi : i < P) : (∃ v, W.cell? ⟨G, i, none⟩ = some v) ∧ W.frozen? ⟨G, i, none⟩ = false := by
  obtain ⟨g, hA, _, _, hc, hf⟩ := h.out.cell1 (f := fun v : Value => v) (k := i) (by rw [tabL_len]; omega)
  obtain rfl : G = g := by simpa using hA
  exact ⟨⟨_, hc⟩, hf⟩
/-- A number written. -/
theorem Tn.cellPut (h : Tn W S G P m k q M) {i j : Nat} (hi : i < k) (hj : j < m) (x : Int) (hM : ∀ a b, a < k → b < m → (if a = i ∧ b = j then x else M a b) = M' a b) : Tn (W.setCell ⟨q i, j, none⟩ (.int .i64 x)) S G P m k q M' := by
  refine ⟨h.out.far (by simpa [blkOf] using (h.ne hi).symm) _, fun a ha => ?_, h.inj⟩
  by_cases e : a = i
  · subst e
    have h1 := (h.row a ha).put1 (f := fun x : Int => .int .i64 x) (k := j) (x := x) (by rw [mapR_len]; exact hj)
    have e2 : ((List.range m).map (M a)).set j x = (List.range m).map (M' a) := by
      rw [mapR_set]
      refine List.map_congr_left fun b hb => ?_
      rw [← hM a b ha (List.mem_range.1 hb)]
      by_cases e3 : b = j
      · rw [if_pos e3, if_pos ⟨rfl, e3⟩]
      · rw [if_neg e3, if_neg fun h => e3 h.2]
    rw [e2] at h1
    exact h1
  · have e2 : (List.range m).map (M' a) = (List.range m).map (M a) := List.map_congr_left fun b hb => by
      rw [← hM a b ha (List.mem_range.1 hb), if_neg fun h => e h.1]
    rw [e2]
    exact (h.row a ha).far (by simpa [blkOf] using h.inj a i ha hi e) _
end
end Go.Proofs.YtbbdiondhnmnaaaDoor
