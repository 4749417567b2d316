/- Rounds of a node's neighbours: in order they are the neighbours; as the reference looks at them; in plain Lean. Conditions: the graph may be. -/
import Derived.Test.YtlflnfelhndohaaDoorValC
import Derived.Test.YtlflnfelhndohaaDoorNearI
import Derived.Test.YtlflnfelhndohaaDoorCollect
import Derived.Test.YtlflnfelhndohaaDoorDecodeP
namespace Go.Proofs.YtlflnfelhndohaaDoor
open Go.RowKit

def nearI (N : Nat) (l : List Ed) (i : Nat) : List Int := bitsI (lw (nearL N l) i)
def rowOk (N : Nat) (l : List Ed) (i : Nat) (row : List Int) : Bool := decide (sortI row = nearI N l i)
def rowBadR (l : List Ed) (i : Nat) (row : List Int) (k : Nat) : Bool := hasB (row.take k) (row.getD k 0) || !adjI l i (row.getD k 0)
def rowOkR (l : List Ed) (i : Nat) (row : List Int) : Bool := decide ((row.length : Int) = deg l i) && !(List.range row.length).any (rowBadR l i row)
theorem bitsL_up (x : BitVec 32) : (bitsL x).Pairwise (· < ·) := List.Pairwise.filter _ List.pairwise_lt_range
theorem bitsI_up (x : BitVec 32) : (bitsI x).Pairwise (· < ·) := by
  unfold bitsI
  rw [List.pairwise_map]
  exact (bitsL_up x).imp fun h => by omega
theorem sorted_perm_eq : ∀ {a b : List Int}, a.Perm b → a.Pairwise (· ≤ ·) → b.Pairwise (· ≤ ·) → a = b
  | [], b, h, _, _ => (List.nil_perm.1 h).symm
  | x :: a, [], h, _, _ => absurd h.length_eq (by simp)
  | x :: a, y :: b, h, ha, hb => by
    have hxy : x = y := by
      have h1 : x ∈ y :: b := h.mem_iff.1 (List.mem_cons_self ..)
      have h2 : y ∈ x :: a := h.mem_iff.2 (List.mem_cons_self ..)
      have h3 : y ≤ x := by
        rcases List.mem_cons.1 h1 with e | e
        · omega
        · exact (List.pairwise_cons.1 hb).1 x e
      have h4 : x ≤ y := by
        rcases List.mem_cons.1 h2 with e | e
        · omega
        · exact (List.pairwise_cons.1 ha).1 y e
      omega
    subst hxy
    rw [sorted_perm_eq (List.Perm.cons_inv h) (List.pairwise_cons.1 ha).2 (List.pairwise_cons.1 hb).2]
theorem nearI_mem {N : Nat} {l : List Ed} (hg : GoodG N l) {i : Nat} (hi : i < N) (x : Int) : x ∈ nearI N l i ↔ adjI l i x = true := by
  unfold nearI bitsI
  rw [List.mem_map]
  constructor
  · rintro ⟨j, hj, rfl⟩
    rw [mem_bitsL, near_bit hg hi] at hj
    exact hj
  · intro h
    have h0 : 0 ≤ x := by
      obtain ⟨e, he, hj⟩ := List.any_eq_true.1 h
      have := hg.ed e he
      have h1 := this.a0
      have h2 := this.b0
      unfold joinsI at hj
      have := of_decide_eq_true hj
      omega
    obtain ⟨j, rfl⟩ := Int.eq_ofNat_of_zero_le h0
    exact ⟨j, by rw [mem_bitsL, near_bit hg hi]; exact h, rfl⟩
theorem nearI_len {N : Nat} {l : List Ed} (hg : GoodG N l) {i : Nat} (hi : i < N) : (nearI N l i).length = deg l i := by
  unfold nearI bitsI bitsL
  rw [List.length_map, ← List.countP_eq_length_filter, ← deg_count (by have := hg.n10; omega) i l hg.ed hg.nd]
  exact countP_range_same 32 fun j _ => near_bit hg hi j
theorem row_perm {N : Nat} {l : List Ed} (hg : GoodG N l) {i : Nat} (hi : i < N) (row : List Int) : rowOk N l i row = true ↔ row.Perm (nearI N l i) := by
  unfold rowOk
  rw [decide_eq_true_eq]
  constructor
  · intro h
    rw [← h]
    exact (sortI_perm row).symm
  · intro h
    exact sorted_perm_eq ((sortI_perm row).trans h) (sortI_sorted row) ((bitsI_up _).imp fun h => by omega)
theorem row_same {N : Nat} {l : List Ed} (hg : GoodG N l) {i : Nat} (hi : i < N) (row : List Int) : rowOk N l i row = rowOkR l i row := by
  rw [Bool.eq_iff_iff, row_perm hg hi]
  unfold rowOkR
  rw [Bool.and_eq_true, decide_eq_true_eq, Bool.not_eq_true', List.any_eq_false]
  constructor
  · intro h
    have hnd : row.Nodup := h.nodup_iff.2 ((bitsI_up _).imp fun {a b} hab => by omega)
    refine ⟨by rw [h.length_eq, nearI_len hg hi], fun k hk => ?_⟩
    have hk := List.mem_range.1 hk
    unfold rowBadR
    rw [getD_at row k hk]
    have h1 : adjI l i row[k] = true := (nearI_mem hg hi _).1 (h.mem_iff.1 (List.getElem_mem hk))
    have h2 : hasB (row.take k) row[k] = false := hasB_not.2 fun hm => by
      rw [List.mem_take_iff_getElem] at hm
      obtain ⟨j, hj, he⟩ := hm
      exact List.pairwise_iff_getElem.1 (List.nodup_iff_pairwise_ne.1 hnd) j k (by omega) hk (by omega) he
    rw [h1, h2]
    simp
  · rintro ⟨h1, h2⟩
    have hk : ∀ k, ∀ hk : k < row.length, row[k] ∉ row.take k ∧ adjI l i row[k] = true := fun k hk => by
      have := h2 k (List.mem_range.2 hk)
      unfold rowBadR at this
      rw [getD_at row k hk] at this
      simp only [Bool.or_eq_true, Bool.not_eq_true', not_or] at this
      exact ⟨hasB_not.1 (by simpa using this.1), by simpa using this.2⟩
    have hnd : row.Nodup := by
      rw [List.nodup_iff_pairwise_ne, List.pairwise_iff_getElem]
      intro i j hi hj hij he
      refine (hk j hj).1 ?_
      rw [List.mem_take_iff_getElem]
      exact ⟨i, by omega, he⟩
    have hnn : (nearI N l i).Nodup := (bitsI_up _).imp fun {a b} hab => by omega
    rw [List.perm_ext_iff_of_nodup hnd hnn]
    have hsub : ∀ x ∈ row, x ∈ nearI N l i := fun x hx => by
      obtain ⟨k, hkl, rfl⟩ := List.mem_iff_getElem.1 hx
      exact (nearI_mem hg hi _).2 (hk k hkl).2
    intro x
    refine ⟨hsub x, fun hx => Classical.byContradiction fun hno => ?_⟩
    have h3 := hnd.length_le_of_subset (l₂ := (nearI N l i).erase x) (fun y hy => by
      rw [hnn.mem_erase_iff]
      exact ⟨fun e => hno (e ▸ hy), hsub y hy⟩)
    rw [List.length_erase_of_mem hx, nearI_len hg hi] at h3
    have : 0 < (nearI N l i).length := List.length_pos_of_mem hx
    rw [nearI_len hg hi] at this
    omega
/-- What is wrong with a map. -/
def mapCode (N : Int) (l : List Ed) (R : List (List Int)) : Int := if graphCheck N l ≠ 0 then graphCheck N l else if (R.length : Int) ≠ N then 3 else if (List.range R.length).any (fun i => !rowOk N.toNat l i (R.getD i [])) = true then 3 else 0
theorem map_bad {N : Int} {l : List Ed} {R : List (List Int)} (h : graphCheck N l ≠ 0) : mapCode N l R = graphCheck N l := by unfold mapCode; rw [if_pos h]
theorem map_long {N : Int} {l : List Ed} {R : List (List Int)} (h : graphCheck N l = 0) (h2 : (R.length : Int) ≠ N) : mapCode N l R = 3 := by unfold mapCode; rw [if_neg (fun h3 => h3 h), if_pos h2]
theorem map_rows {N : Nat} {l : List Ed} {R : List (List Int)} (h : graphCheck N l = 0) (h2 : R.length = N) : mapCode N l R = if (List.range N).any (fun i => !rowOk N l i (R.getD i [])) = true then 3 else 0 := by
  unfold mapCode; rw [if_neg (fun h3 => h3 h), if_neg (by omega), h2, Int.toNat_natCast]
end Go.Proofs.YtlflnfelhndohaaDoor
