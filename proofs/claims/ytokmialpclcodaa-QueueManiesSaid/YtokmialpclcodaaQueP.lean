/- A queue's worth and its lateness: in plain Lean. Conditions: none. -/
import Derived.Test.YtokmialpclcodaaTwoP
import Derived.Test.YtokmialpclcodaaLineP
namespace Go.Proofs.Ytokmialpclcodaa
open Go.RowKit

def jAt (l : List Jb) (i : Nat) : Jb := l.getD i ⟨0, ⟨none, 0, []⟩, 0, 0⟩
def worS (l : List Jb) (st : Int × Int) (j : Nat) : Int × Int := (st.1 + (jAt l j).t, st.2 + (jAt l j).y * (st.1 + (jAt l j).t))
def latS (l : List Jb) (st : Int × Int) (j : Nat) : Int × Int := (st.1 + (jAt l j).t, max st.2 (st.1 + (jAt l j).t - (jAt l j).x))
def worE (l : List Jb) (q : List Nat) : Int := (q.foldl (worS l) (0, 0)).2
def latE (l : List Jb) (q : List Nat) : Int := (q.foldl (latS l) (0, -1048576)).2
def latQ (l : List Jb) (q : List Nat) : Int := if q.length = 0 then 0 else latE l q
def badJ (g : Jb → Int) (j : Jb) : Bool := outB j.t || outB (g j)
def queCheck (g : Jb → Int) (l : List Jb) : Int := if 7 < l.length then 1 else if l.any (badJ g) then 4 else 0
theorem outB_in {x : Int} (h : outB x = false) : 0 ≤ x ∧ x ≤ 1048576 := by
  unfold outB at h
  simp at h
  omega
theorem jAt_in {g : Jb → Int} (hg : g ⟨0, ⟨none, 0, []⟩, 0, 0⟩ = 0) {l : List Jb} (h : l.any (badJ g) = false) (i : Nat) : (0 ≤ (jAt l i).t ∧ (jAt l i).t ≤ 1048576) ∧ 0 ≤ g (jAt l i) ∧ g (jAt l i) ≤ 1048576 := by
  by_cases hi : i < l.length
  · have hm : jAt l i ∈ l := by
      unfold jAt
      rw [List.getD_eq_getElem?_getD, List.getElem?_eq_getElem hi]
      exact List.getElem_mem hi
    have hb : badJ g (jAt l i) = false := by
      have := List.any_eq_false.1 h _ hm
      simpa using this
    unfold badJ at hb
    rw [Bool.or_eq_false_iff] at hb
    exact ⟨outB_in hb.1, outB_in hb.2⟩
  · have : jAt l i = ⟨0, ⟨none, 0, []⟩, 0, 0⟩ := by
      unfold jAt
      rw [List.getD_eq_getElem?_getD, List.getElem?_eq_none (by omega)]
      rfl
    rw [this, hg]
    simp
theorem fold_take_succ {α β : Type} (F : β → α → β) (z : β) (q : List α) {k : Nat} (h : k < q.length) : (q.take (k + 1)).foldl F z = F ((q.take k).foldl F z) q[k] := by
  rw [List.take_add_one, List.getElem?_eq_getElem h, Option.toList_some, List.foldl_append]
  rfl
theorem fold_take_le {α β : Type} (F : β → α → β) (z : β) (q : List α) {n : Nat} (h : q.length ≤ n) : q.foldl F z = (q.take n).foldl F z := by
  rw [List.take_of_length_le h]
theorem mul_in {a b : Int} (ha : 0 ≤ a ∧ a ≤ 1048576) (hb : 0 ≤ b ∧ b ≤ 8388608) : 0 ≤ a * b ∧ a * b ≤ 8796093022208 := by
  refine ⟨Int.mul_nonneg ha.1 hb.1, ?_⟩
  have h1 : a * b ≤ 1048576 * b := Int.mul_le_mul_of_nonneg_right ha.2 hb.1
  omega
theorem wor_bound {l : List Jb} (h : l.any (badJ Jb.y) = false) (q : List Nat) : ∀ k, k ≤ 7 → 0 ≤ ((q.take k).foldl (worS l) (0, 0)).1 ∧ ((q.take k).foldl (worS l) (0, 0)).1 ≤ 1048576 * (k : Int) ∧ 0 ≤ ((q.take k).foldl (worS l) (0, 0)).2 ∧ ((q.take k).foldl (worS l) (0, 0)).2 ≤ 8796093022208 * (k : Int)
  | 0, _ => by simp
  | k + 1, hk => by
    obtain ⟨h1, h2, h3, h4⟩ := wor_bound h q k (by omega)
    rw [List.take_add_one]
    cases hq : q[k]? with
    | none =>
      simp only [Option.toList_none, List.append_nil]
      push_cast
      omega
    | some j =>
      simp only [Option.toList_some, List.foldl_append, List.foldl_cons, List.foldl_nil, worS]
      obtain ⟨⟨t1, t2⟩, y⟩ := jAt_in (g := Jb.y) rfl h j
      have := mul_in y (b := ((q.take k).foldl (worS l) (0, 0)).1 + (jAt l j).t) (by omega)
      push_cast
      omega
theorem lat_bound {l : List Jb} (h : l.any (badJ Jb.x) = false) (q : List Nat) : ∀ k, 0 ≤ ((q.take k).foldl (latS l) (0, -1048576)).1 ∧ ((q.take k).foldl (latS l) (0, -1048576)).1 ≤ 1048576 * (k : Int) ∧ -1048576 ≤ ((q.take k).foldl (latS l) (0, -1048576)).2 ∧ ((q.take k).foldl (latS l) (0, -1048576)).2 ≤ 1048576 * (k : Int)
  | 0 => by simp
  | k + 1 => by
    obtain ⟨h1, h2, h3, h4⟩ := lat_bound h q k
    rw [List.take_add_one]
    cases hq : q[k]? with
    | none =>
      simp only [Option.toList_none, List.append_nil]
      push_cast
      omega
    | some j =>
      simp only [Option.toList_some, List.foldl_append, List.foldl_cons, List.foldl_nil, latS]
      obtain ⟨⟨t1, t2⟩, y1, y2⟩ := jAt_in (g := Jb.x) rfl h j
      push_cast
      omega
theorem que_ok {g : Jb → Int} {l : List Jb} (h : queCheck g l = 0) : l.length ≤ 7 ∧ l.any (badJ g) = false := by
  unfold queCheck at h
  split at h
  · cases h
  · split at h
    · cases h
    · rename_i h0 h1
      exact ⟨by omega, by simpa using h1⟩
end Go.Proofs.Ytokmialpclcodaa
