/- The faces of a map, counted side by side; in plain Lean. Conditions: the map may be. -/
import Derived.Test.YtlflnfelhndohaaDoorMapsHoles23
namespace Go.Proofs.YtlflnfelhndohaaDoor
open Go.RowKit

abbrev Dart := Int × Int
def rowI (R : List (List Int)) (a : Int) : List Int := R.getD a.toNat []
def idxD (row : List Int) (a : Int) : Int := idxF (fun y => a == y) row
/-- Who comes along goes on. -/
def nextD (R : List (List Int)) (d : Dart) : Dart := (d.2, (rowI R d.2).getD ((idxD (rowI R d.2) d.1 + 1).toNat % (rowI R d.2).length) 0)
structure MapG (N : Nat) (R : List (List Int)) : Prop where
  len : R.length = N
  n10 : N ≤ 10
  ok : ∀ a b : Int, 0 ≤ a → a < N → b ∈ rowI R a → 0 ≤ b ∧ b < N ∧ a ∈ rowI R b
  sz : ∀ a : Int, (rowI R a).length ≤ 45
def Good2 (N : Nat) (R : List (List Int)) (d : Dart) : Prop := 0 ≤ d.1 ∧ d.1 < N ∧ d.2 ∈ rowI R d.1
theorem idxF_mem {row : List Int} {a : Int} (h : a ∈ row) : ∃ k : Nat, ∃ hk : k < row.length, idxD row a = k ∧ row[k] = a ∧ ∀ j, ∀ hj : j < k, row[j]'(by omega) ≠ a := by
  have ha : row.any (fun y => a == y) = true := List.any_eq_true.2 ⟨a, h, by simp⟩
  refine ⟨row.findIdx (fun y => a == y), ?_, ?_, ?_, ?_⟩
  · exact List.findIdx_lt_length_of_exists ⟨a, h, by simp⟩
  · unfold idxD idxF; rw [if_pos ha]
  · have := List.findIdx_getElem (xs := row) (p := fun y => a == y) (w := List.findIdx_lt_length_of_exists ⟨a, h, by simp⟩)
    exact (beq_iff_eq.1 this).symm
  · intro j hj
    have := List.not_of_lt_findIdx hj
    intro e
    rw [e] at this
    simp at this
section
variable {N : Nat} {R : List (List Int)}
theorem next_good (h : MapG N R) {d : Dart} (hd : Good2 N R d) : Good2 N R (nextD R d) := by
  obtain ⟨h1, h2, h3⟩ := hd
  obtain ⟨h4, h5, h6⟩ := h.ok d.1 d.2 h1 h2 h3
  refine ⟨h4, h5, ?_⟩
  show (rowI R d.2).getD _ 0 ∈ rowI R d.2
  have hl : 0 < (rowI R d.2).length := List.length_pos_of_mem h6
  rw [getD_at _ _ (Nat.mod_lt _ hl)]
  exact List.getElem_mem _
theorem good2_in (h : MapG N R) {d : Dart} (hd : Good2 N R d) : 0 ≤ d.1 ∧ d.1 < N ∧ 0 ≤ d.2 ∧ d.2 < N := by
  obtain ⟨h1, h2, h3⟩ := hd
  obtain ⟨h4, h5, _⟩ := h.ok d.1 d.2 h1 h2 h3
  exact ⟨h1, h2, h4, h5⟩
/-- So far gone. -/
def followD (R : List (List Int)) : Nat → List Dart → Dart → List Dart
  | 0, seen, _ => seen
  | f + 1, seen, d => if d ∈ seen then seen else followD R f (seen ++ [d]) (nextD R d)
structure SeenG (N : Nat) (seen : List Dart) : Prop where
  nd : seen.Nodup
  in_ : ∀ d ∈ seen, 0 ≤ d.1 ∧ d.1 < N ∧ 0 ≤ d.2 ∧ d.2 < N
theorem grid_lt {N : Nat} {a b : Int} (h : 0 ≤ a ∧ a < N ∧ 0 ≤ b ∧ b < N) : a.toNat * N + b.toNat < N * N := by
  have h1 : a.toNat * N ≤ (N - 1) * N := Nat.mul_le_mul_right N (by omega)
  have h2 : (N - 1) * N + N = N * N := by
    have : N = (N - 1) + 1 := by omega
    calc (N - 1) * N + N = ((N - 1) + 1) * N := by rw [Nat.add_mul, Nat.one_mul]
      _ = N * N := by rw [← this]
  omega
theorem grid_inj {N : Nat} {a b c e : Int} (h : 0 ≤ a ∧ a < N ∧ 0 ≤ b ∧ b < N) (k : 0 ≤ c ∧ c < N ∧ 0 ≤ e ∧ e < N) (he : a.toNat * N + b.toNat = c.toNat * N + e.toNat) : a = c ∧ b = e := by
  have hN : 0 < N := by omega
  have h1 : (a.toNat * N + b.toNat) / N = a.toNat := by
    rw [Nat.add_comm, Nat.add_mul_div_right _ _ hN, Nat.div_eq_of_lt (by omega), Nat.zero_add]
  have h2 : (c.toNat * N + e.toNat) / N = c.toNat := by
    rw [Nat.add_comm, Nat.add_mul_div_right _ _ hN, Nat.div_eq_of_lt (by omega), Nat.zero_add]
  have h3 : a.toNat = c.toNat := by rw [← h1, ← h2, he]
  rw [h3] at he
  omega
theorem SeenG.le {seen : List Dart} (h : SeenG N seen) : seen.length ≤ N * N := by
  have h1 : (seen.map fun d : Dart => d.1.toNat * N + d.2.toNat).Nodup := by
    rw [List.nodup_iff_pairwise_ne, List.pairwise_map]
    refine List.Pairwise.imp_of_mem ?_ (List.nodup_iff_pairwise_ne.1 h.nd)
    intro a b ha hb hab he
    have := grid_inj (h.in_ a ha) (h.in_ b hb) he
    exact hab (Prod.ext this.1 this.2)
  have h2 := h1.length_le_of_subset (l₂ := List.range (N * N)) (fun x hx => by
    obtain ⟨d, hd, rfl⟩ := List.mem_map.1 hx
    exact List.mem_range.2 (grid_lt (h.in_ d hd)))
  rwa [List.length_map, List.length_range] at h2
theorem SeenG.snoc {seen : List Dart} (h : SeenG N seen) {d : Dart} (hd : d ∉ seen) (hg : 0 ≤ d.1 ∧ d.1 < N ∧ 0 ≤ d.2 ∧ d.2 < N) : SeenG N (seen ++ [d]) := by
  refine ⟨?_, fun x hx => ?_⟩
  · rw [List.nodup_append]
    exact ⟨h.nd, by simp, fun a ha b hb e => by rw [List.mem_singleton] at hb; subst hb e; exact hd ha⟩
  · rcases List.mem_append.1 hx with hx | hx
    · exact h.in_ x hx
    · rw [List.mem_singleton.1 hx]; exact hg
theorem follow_seen (h : MapG N R) : ∀ (f : Nat) {seen : List Dart} {d : Dart}, SeenG N seen → Good2 N R d → SeenG N (followD R f seen d)
  | 0, _, _, hs, _ => hs
  | f + 1, seen, d, hs, hd => by
    rw [followD]
    split
    · exact hs
    · rename_i hno
      exact follow_seen h f (hs.snoc hno (good2_in h hd)) (next_good h hd)
end
/-- While one goes round a face. -/
structure FolI (N : Nat) (R : List (List Int)) (seen0 : List Dart) (d0 : Dart) (f : Nat) (seen : List Dart) (d : Dart) : Prop where
  fu : f + seen.length = N * N + 1
  sg : SeenG N seen
  gd : Good2 N R d
  eq_ : followD R (N * N + 1 - seen0.length) seen0 d0 = followD R f seen d
section
variable {N : Nat} {R : List (List Int)} {seen0 seen : List Dart} {d0 d : Dart} {f : Nat}
theorem FolI.start (hs : SeenG N seen0) (hd : Good2 N R d0) : FolI N R seen0 d0 (N * N + 1 - seen0.length) seen0 d0 := ⟨by have := hs.le; omega, hs, hd, rfl⟩
theorem FolI.pos (h : FolI N R seen0 d0 f seen d) : 1 ≤ f := by have := h.fu; have := h.sg.le; omega
theorem FolI.done (h : FolI N R seen0 d0 f seen d) (hm : d ∈ seen) : followD R (N * N + 1 - seen0.length) seen0 d0 = seen := by
  rw [h.eq_]
  obtain ⟨f', rfl⟩ : ∃ f', f = f' + 1 := ⟨f - 1, by have := h.pos; omega⟩
  rw [followD, if_pos hm]
theorem FolI.next (hg : MapG N R) (h : FolI N R seen0 d0 f seen d) (hm : d ∉ seen) : FolI N R seen0 d0 (f - 1) (seen ++ [d]) (nextD R d) := by
  have hp := h.pos
  have hf := h.fu
  refine ⟨by rw [List.length_append]; simp; omega, h.sg.snoc hm (good2_in hg h.gd), next_good hg h.gd, ?_⟩
  rw [h.eq_]
  obtain ⟨f', rfl⟩ : ∃ f', f = f' + 1 := ⟨f - 1, by omega⟩
  rw [followD, if_neg hm]
  rfl
end
def stepD (N : Nat) (R : List (List Int)) (st : List Dart × Nat) (d : Dart) : List Dart × Nat := if d ∈ st.1 then st else (followD R (N * N + 1 - st.1.length) st.1 d, st.2 + 1)
def startD (R : List (List Int)) (a : Nat) (st : List Dart × Nat) : List Dart × Nat := (st.1, st.2 + if (rowI R a).length = 0 then 1 else 0)
def rowD (N : Nat) (R : List (List Int)) (a : Nat) (st : List Dart × Nat) : Nat → List Dart × Nat
  | 0 => startD R a st
  | k + 1 => stepD N R (rowD N R a st k) ((a : Int), (rowI R a).getD k 0)
def facesD (N : Nat) (R : List (List Int)) : Nat → List Dart × Nat
  | 0 => ([], 0)
  | i + 1 => rowD N R i (facesD N R i) (rowI R i).length
section
variable {N : Nat} {R : List (List Int)}
theorem dart_good (h : MapG N R) {a k : Nat} (ha : a < N) (hk : k < (rowI R a).length) : Good2 N R ((a : Int), (rowI R a).getD k 0) :=
  ⟨by show (0 : Int) ≤ a; omega, by show (a : Int) < N; omega, by show (rowI R a).getD k 0 ∈ rowI R (a : Int); rw [getD_at _ k hk]; exact List.getElem_mem _⟩
theorem row_seen (h : MapG N R) {a : Nat} (ha : a < N) {st : List Dart × Nat} (hs : SeenG N st.1) : ∀ k, k ≤ (rowI R a).length → SeenG N (rowD N R a st k).1 ∧ (rowD N R a st k).2 ≤ st.2 + 1 + k
  | 0, _ => ⟨hs, by show st.2 + _ ≤ _; split <;> omega⟩
  | k + 1, hk => by
    have ih := row_seen h ha hs k (by omega)
    rw [rowD, stepD]
    split
    · exact ⟨ih.1, by omega⟩
    · exact ⟨follow_seen h _ ih.1 (dart_good h ha (by omega)), by show (rowD N R a st k).2 + 1 ≤ _; omega⟩
theorem faces_seen (h : MapG N R) : ∀ i, i ≤ N → SeenG N (facesD N R i).1 ∧ (facesD N R i).2 ≤ 46 * i
  | 0, _ => ⟨⟨List.nodup_nil, fun d hd => by cases hd⟩, Nat.le_refl _⟩
  | i + 1, hi => by
    have ih := faces_seen h i (by omega)
    have h1 := row_seen h (a := i) (by omega) ih.1 _ (Nat.le_refl _)
    have h2 := h.sz i
    rw [facesD]
    exact ⟨h1.1, by omega⟩
end
/-- A map that may be. -/
theorem map_good {N : Nat} {l : List Ed} (hg : GoodG N l) {R : List (List Int)} (hl : R.length = N) (hok : (List.range N).any (fun i => !rowOk N l i (R.getD i [])) = false) : MapG N R := by
  have hrow : ∀ i, i < N → (R.getD i []).Perm (nearI N l i) := fun i hi => by
    have := List.any_eq_false.1 hok i (List.mem_range.2 hi)
    exact (row_perm hg hi _).1 (by simpa using this)
  have hat : ∀ a : Int, 0 ≤ a → a < N → ∀ b, b ∈ rowI R a ↔ adjI l a.toNat b = true := fun a h0 h1 b => by
    unfold rowI
    rw [(hrow a.toNat (by omega)).mem_iff, nearI_mem hg (by omega)]
  have hsym : ∀ a b : Int, 0 ≤ a → 0 ≤ b → adjI l a.toNat b = adjI l b.toNat a := fun a b h0 h1 => by
    unfold adjI
    congr 1
    funext e
    unfold joinsI
    congr 1
    rw [eq_iff_iff]
    omega
  refine ⟨hl, hg.n10, fun a b h0 h1 hb => ?_, fun a => ?_⟩
  · have hb' := (hat a h0 h1 b).1 hb
    have hbN : 0 ≤ b ∧ b < N := by
      have hm := (nearI_mem hg (i := a.toNat) (by omega) b).2 hb'
      obtain ⟨e, he, hj⟩ := List.any_eq_true.1 hb'
      have := hg.ed e he
      have h1 := this.a0
      have h2 := this.b0
      have h3 := this.a1
      have h4 := this.b1
      unfold joinsI at hj
      have := of_decide_eq_true hj
      omega
    exact ⟨hbN.1, hbN.2, (hat b hbN.1 hbN.2 a).2 (by rw [← hsym a b h0 hbN.1]; exact hb')⟩
  · unfold rowI
    by_cases h : a.toNat < N
    · rw [(hrow _ h).length_eq, nearI_len hg h]
      have h1 := deg_le l a.toNat
      have h2 := hg.m45
      omega
    · rw [List.getD_eq_getElem?_getD, List.getElem?_eq_none (by omega)]
      exact Nat.zero_le _
end Go.Proofs.YtlflnfelhndohaaDoor
