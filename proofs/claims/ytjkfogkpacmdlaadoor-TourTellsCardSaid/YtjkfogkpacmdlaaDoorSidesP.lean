/- Two sides, in plain Lean. Conditions: none. -/
import Derived.Test.YtjkfogkpacmdlaaDoorPartsQ
namespace Go.Proofs.YtjkfogkpacmdlaaDoor
open Go.RowKit

theorem adj_sym {l : List Ed} {i j : Nat} (h : Adj l i j) : Adj l j i := by
  unfold Adj at h ⊢
  rw [adj_symm]
  exact h
theorem wn_front {R : Nat → Nat → Prop} {a i : Nat} (h : R a i) : ∀ {m j : Nat}, Wn R i m j → Wn R a (m + 1) j
  | _, _, .start => .step .start h
  | _, _, .step h1 h2 => .step (wn_front h h1) h2
theorem wn_back {R : Nat → Nat → Prop} (hs : ∀ a b, R a b → R b a) {i : Nat} : ∀ {m j : Nat}, Wn R i m j → Wn R j m i
  | _, _, .start => .start
  | _, _, .step h1 h2 => wn_front (hs _ _ h2) (wn_back hs h1)
theorem rch_sym {l : List Ed} {i j : Nat} (h : Rch (Adj l) i j) : Rch (Adj l) j i := by
  obtain ⟨m, hm⟩ := h
  exact ⟨m, wn_back (fun _ _ => adj_sym) hm⟩
/-- On which side one is. -/
def SideIs (l : List Ed) (i : Nat) (v : Int) : Prop := ∃ (p : Nat) (x : Int), IsPart l i p ∧ DistIs (Adj l) p i x ∧ v = x.tmod 2
theorem SideIs.same {l : List Ed} {i : Nat} {v v' : Int} (h : SideIs l i v) (h' : SideIs l i v') : v = v' := by
  obtain ⟨p, x, h1, h2, h3⟩ := h
  obtain ⟨p', x', k1, k2, k3⟩ := h'
  obtain rfl := h1.same k1
  obtain rfl := h2.same k2
  rw [h3, k3]
def SidesL (l : List Ed) (L : List Int) : Prop := ∀ i, i < L.length → SideIs l i (L.getD i 0)
theorem SidesL.nil (l : List Ed) : SidesL l [] := fun i h => absurd h (by simp)
theorem SidesL.snoc {l : List Ed} {L : List Int} {v : Int} (h : SidesL l L) (hv : SideIs l L.length v) : SidesL l (L ++ [v]) := fun i hi => by
  rw [List.length_append, List.length_singleton] at hi
  by_cases hlt : i < L.length
  · have := h i hlt
    rwa [show (L ++ [v]).getD i 0 = L.getD i 0 from by simp [List.getD_eq_getElem?_getD, List.getElem?_append_left hlt]]
  · obtain rfl : i = L.length := by omega
    rwa [show (L ++ [v]).getD L.length 0 = v from by simp [List.getD_eq_getElem?_getD]]
theorem SidesL.same {l : List Ed} {L L' : List Int} (h : SidesL l L) (h' : SidesL l L') (hl : L.length = L'.length) : L = L' := by
  apply List.ext_getElem hl
  intro i h1 h2
  have e := h i h1
  have e' := h' i h2
  rw [getD_at L i h1] at e
  rw [getD_at L' i h2] at e'
  exact e.same e'
/-- Does an edge lie on one side? -/
def flatE (L : List Int) (e : Ed) : Bool := L.getD e.a.toNat 0 == L.getD e.b.toNat 0
def clash (l : List Ed) (L : List Int) : Bool := l.any (flatE L)
end Go.Proofs.YtjkfogkpacmdlaaDoor
