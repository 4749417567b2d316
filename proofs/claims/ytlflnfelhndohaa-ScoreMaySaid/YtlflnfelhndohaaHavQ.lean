/- The nodes of a score in their order, and the reference's picks; in plain Lean. Conditions: none. -/
import Derived.Test.YtlflnfelhndohaaHavP
import Derived.Test.YtlflnfelhndohaaHavD
namespace Go.Proofs.Ytlflnfelhndohaa
open Go.RowKit

theorem falls_pairN {sz : List Int} {n : Nat} (hn : sz.length = n) : (fallsTo sz n).Pairwise (bef sz) := by
  obtain ⟨u, hu⟩ := sort_exists sz n n (Nat.le_refl _)
  obtain ⟨rfl, _⟩ := sort_end hn hu
  obtain ⟨P, h1, h2, h3, _⟩ := hu.split
  have e : restL n n = [] := by unfold restL; rw [Nat.sub_self]; rfl
  rw [e, List.append_nil] at h1
  rw [h1]; exact h3
def srtN (l : List Nd) : List Nd := (ordNs l).map (pn l)
theorem keyN_len (l : List Nd) : (keyN l).length = l.length := List.length_map ..
theorem srtN_len (l : List Nd) : (srtN l).length = l.length := by unfold srtN ordNs; rw [List.length_map, fallsTo_length]
theorem ordNs_all (l : List Nd) : (ordNs l).Nodup ∧ ∀ x, x ∈ ordNs l ↔ 0 ≤ x ∧ x < l.length := falls_all (keyN_len l)
theorem pn_mem {l : List Nd} {x : Int} (h0 : 0 ≤ x) (h1 : x < l.length) : pn l x ∈ l := by
  unfold pn nAt
  have h : x.toNat < l.length := by omega
  rw [List.getD_eq_getElem?_getD, List.getElem?_eq_getElem h]
  exact List.getElem_mem h
theorem restL_map (l : List Nd) : (restL l.length 0).map (pn l) = l := by
  unfold restL
  rw [Nat.sub_zero, List.map_map]
  refine List.ext_getElem (by simp) fun i h1 h2 => ?_
  rw [List.getElem_map, List.getElem_range]
  show nAt l ((0 + i : Nat) : Int).toNat = l[i]
  rw [Nat.zero_add, Int.toNat_natCast]
  unfold nAt
  rw [getD_at l i h2]
theorem srtN_perm (l : List Nd) : (srtN l).Perm l := by
  have h := ordNs_all l
  have hr : (restL l.length 0).Nodup := by
    unfold restL
    rw [List.nodup_iff_pairwise_ne, List.pairwise_map]
    refine (List.nodup_iff_pairwise_ne.1 List.nodup_range).imp fun hab => ?_
    omega
  have hp : (ordNs l).Perm (restL l.length 0) := by
    rw [List.perm_ext_iff_of_nodup h.1 hr]
    intro x
    rw [h.2]
    unfold restL
    simp only [List.mem_map, List.mem_range]
    constructor
    · intro hx
      exact ⟨x.toNat, by omega, by omega⟩
    · rintro ⟨k, hk, rfl⟩
      omega
  have := hp.map (pn l)
  rw [restL_map] at this
  exact this
/-- One lies ahead of the other. -/
def aheadN (a b : Nd) : Prop := b.d < a.d ∨ (a.d = b.d ∧ a.i ≤ b.i)
theorem srtN_sorted {l : List Nd} (hl : ∀ a ∈ l, 0 ≤ a.i ∧ a.i < 16) : (srtN l).Pairwise aheadN := by
  unfold srtN
  rw [List.pairwise_map]
  refine List.Pairwise.imp_of_mem ?_ (falls_pairN (keyN_len l))
  intro a b ha hb hab
  have h1 := ((ordNs_all l).2 a).1 ha
  have h2 := ((ordNs_all l).2 b).1 hb
  have i1 := hl _ (pn_mem h1.1 h1.2)
  have i2 := hl _ (pn_mem h2.1 h2.2)
  unfold bef at hab
  rw [val_key l a h1.1 h1.2, val_key l b h2.1 h2.2] at hab
  show aheadN (nAt l a.toNat) (nAt l b.toNat)
  unfold aheadN
  have e1 : nAt l a.toNat = pn l a := rfl
  have e2 : nAt l b.toNat = pn l b := rfl
  rw [e1, e2] at hab ⊢
  omega
/-- The nodes and what is left of the degrees. -/
structure RelN (n : Nat) (l : List Nd) (left : List Int) : Prop where
  len : left.length = n
  n10 : n ≤ 10
  nd : (l.map Nd.i).Nodup
  at_ : ∀ a ∈ l, 0 ≤ a.i ∧ a.i < n ∧ 0 ≤ a.d ∧ valZ left a.i = a.d
  off : ∀ x : Int, 0 ≤ x → x < n → (∀ a ∈ l, a.i ≠ x) → valZ left x = 0
/-- The whole order: those that count, then those that do not. -/
def wholeN (n : Nat) (l : List Nd) (left : List Int) : List Int := ((srtN l).filter fun a => decide (0 < a.d)).map Nd.i ++ ((List.range n).map fun k : Nat => (k : Int)).filter fun x => decide (valZ left x = 0)
theorem whole_falls {n : Nat} {l : List Nd} {left : List Int} (h : RelN n l left) : ∀ k, k ≤ n → fallsTo left k = (wholeN n l left).take k := by
  have hm : ∀ a ∈ srtN l, a ∈ l := fun a ha => (srtN_perm l).mem_iff.1 ha
  have hn10 := h.n10
  have hsort := srtN_sorted (l := l) fun a ha => by have := h.at_ a ha; omega
  have hnd : ((srtN l).map Nd.i).Nodup := ((srtN_perm l).map Nd.i).nodup_iff.2 h.nd
  have hmem : ∀ x, x ∈ wholeN n l left ↔ 0 ≤ x ∧ x < n := by
    intro x
    unfold wholeN
    simp only [List.mem_append, List.mem_map, List.mem_filter, List.mem_range, decide_eq_true_eq]
    constructor
    · rintro (⟨a, ⟨ha, _⟩, rfl⟩ | ⟨⟨k, hk, rfl⟩, _⟩)
      · have := h.at_ a (hm a ha); omega
      · omega
    · rintro ⟨h0, h1⟩
      by_cases hz : valZ left x = 0
      · exact .inr ⟨⟨x.toNat, by omega, by omega⟩, hz⟩
      · left
        have : ∃ a ∈ l, a.i = x := Classical.byContradiction fun hno => hz (h.off x h0 h1 fun a ha e => hno ⟨a, ha, e⟩)
        obtain ⟨a, ha, rfl⟩ := this
        have h4 := h.at_ a ha
        exact ⟨a, ⟨(srtN_perm l).mem_iff.2 ha, by omega⟩, rfl⟩
  have hpair : (wholeN n l left).Pairwise (bef left) := by
    unfold wholeN
    rw [List.pairwise_append]
    refine ⟨?_, ?_, ?_⟩
    · rw [List.pairwise_map]
      have hp1 := hsort.filter (fun a => decide (0 < a.d))
      have hp2 := (List.pairwise_map.1 (List.nodup_iff_pairwise_ne.1 hnd)).filter (fun a => decide (0 < a.d))
      refine List.Pairwise.imp_of_mem ?_ (hp1.and hp2)
      intro a b ha hb hab
      have h1 := h.at_ a (hm a (List.mem_filter.1 ha).1)
      have h2 := h.at_ b (hm b (List.mem_filter.1 hb).1)
      unfold bef
      rw [h1.2.2.2, h2.2.2.2]
      have h3 := hab.1
      have h4 := hab.2
      unfold aheadN at h3
      omega
    · refine List.Pairwise.imp_of_mem ?_ ((show ((List.range n).map fun k : Nat => (k : Int)).Pairwise (· < ·) from by
        rw [List.pairwise_map]
        exact List.pairwise_lt_range.imp fun hab => by omega).filter _)
      intro a b ha hb hab
      have h1 := of_decide_eq_true (List.mem_filter.1 ha).2
      have h2 := of_decide_eq_true (List.mem_filter.1 hb).2
      unfold bef
      omega
    · intro a ha b hb
      obtain ⟨y, hy, rfl⟩ := List.mem_map.1 ha
      have h1 := h.at_ y (hm y (List.mem_filter.1 hy).1)
      have h2 := of_decide_eq_true (List.mem_filter.1 hy).2
      have h3 := of_decide_eq_true (List.mem_filter.1 hb).2
      unfold bef
      omega
  have hlen : (wholeN n l left).length = n := by
    have hnd2 : (wholeN n l left).Nodup := hpair.imp fun {a b} hab e => by subst e; exact bef_asymm hab hab
    have hr : ((List.range n).map fun k : Nat => (k : Int)).Nodup := by
      rw [List.nodup_iff_pairwise_ne, List.pairwise_map]
      exact (List.nodup_iff_pairwise_ne.1 List.nodup_range).imp fun hab => by omega
    have hp : (wholeN n l left).Perm ((List.range n).map fun k : Nat => (k : Int)) := by
      rw [List.perm_ext_iff_of_nodup hnd2 hr]
      intro x
      rw [hmem]
      simp only [List.mem_map, List.mem_range]
      constructor
      · intro hx; exact ⟨x.toNat, by omega, by omega⟩
      · rintro ⟨k, hk, rfl⟩; omega
    rw [hp.length_eq, List.length_map, List.length_range]
  exact sorted_falls h.len hlen hpair hmem
end Go.Proofs.Ytlflnfelhndohaa
