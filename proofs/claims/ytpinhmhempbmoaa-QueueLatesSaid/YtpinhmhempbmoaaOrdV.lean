/- The best of the orders by now, as a slice and a number. Conditions: none. -/
import Derived.Test.YtpinhmhempbmoaaOrdR
namespace Go.Proofs.Ytpinhmhempbmoaa
open Go.RowKit

/-- What the best is of the first orders: nil and 0 where there is none. -/
def BestV (wt : List Nat → Int) (n : Nat) (L : List (List Nat)) (s t : Value) (w : World) : Prop :=
  match bestF wt L with
  | none => L = [] ∧ s = .slice none 0 0 ∧ t = .int .i64 0
  | some (q, x) => L ≠ [] ∧ ∃ A c, s = .slice A n c ∧ Els w w.heap.size 1 icell A (intsOf q) ∧ t = .int .i64 x
theorem BestV.nil (wt : List Nat → Int) (n : Nat) (w : World) : BestV wt n [] (.slice none 0 0) (.int .i64 0) w := ⟨rfl, rfl, rfl⟩
theorem BestV.cases {wt : List Nat → Int} {n : Nat} {L : List (List Nat)} {s t : Value} {w : World} (h : BestV wt n L s t w) : (L = [] ∧ bestF wt L = none ∧ s = .slice none 0 0 ∧ t = .int .i64 0) ∨ (∃ q x A c, L ≠ [] ∧ bestF wt L = some (q, x) ∧ s = .slice A n c ∧ t = .int .i64 x ∧ Els w w.heap.size 1 icell A (intsOf q)) := by
  unfold BestV at h
  cases ho : bestF wt L with
  | none =>
    rw [ho] at h
    exact .inl ⟨h.1, rfl, h.2.1, h.2.2⟩
  | some p =>
    obtain ⟨q, x⟩ := p
    rw [ho] at h
    obtain ⟨h1, A, c, e1, h2, e2⟩ := h
    exact .inr ⟨q, x, A, c, h1, rfl, e1, e2, h2⟩
theorem BestV.mk {wt : List Nat → Int} {n : Nat} {L : List (List Nat)} {A : Option Addr} {c : Nat} {q : List Nat} {x : Int} {w : World} (h : bestF wt L = some (q, x)) (he : Els w w.heap.size 1 icell A (intsOf q)) : BestV wt n L (.slice A n c) (.int .i64 x) w := by
  unfold BestV
  rw [h]
  exact ⟨(fun e => by rw [e] at h; cases h), A, c, rfl, he, rfl⟩
/-- The orders as they lie. -/
theorem orders_at {w : World} {B cap n : Nat} {A : Option Addr} {P : List (Sls Int)} {R : List (List Nat)} (ho : Own w B 28 1 slcell A cap P) (hl : OwnL w P) (hm : P.map Sls.l = R.map intsOf) (hn : ∀ q ∈ R, q.length = n) {k : Nat} (hk : k < R.length) :
    ∃ b off A' c', A = some ⟨b, off, none⟩ ∧ w.cell? ⟨b, off + k, none⟩ = some (.slice A' n c') ∧ Els w w.heap.size 1 icell A' (intsOf R[k]) := by
  have hlen : P.length = R.length := by have := congrArg List.length hm; simpa using this
  have hkP : k < P.length := by omega
  obtain ⟨b, off, rfl, _, h0⟩ := ho.els.at1 (k := k) hkP
  have e : (P[k]).l = intsOf R[k] := by
    have := congrArg (fun l => l[k]?) hm
    simpa [List.getElem?_map, List.getElem?_eq_getElem hkP, List.getElem?_eq_getElem hk] using this
  have e2 : (P[k]).l.length = n := by rw [e, intsOf, List.length_map]; exact hn _ (List.getElem_mem hk)
  refine ⟨b, off, (P[k]).A, (P[k]).c, rfl, ?_, ?_⟩
  · rw [h0]
    show some (Value.slice (P[k]).A (P[k]).l.length (P[k]).c) = _
    rw [e2]
  · rw [← e]
    exact (hl _ (List.getElem_mem hkP)).els
theorem take_snoc {α : Type} (l : List α) {k : Nat} (h : k < l.length) : l.take (k + 1) = l.take k ++ [l[k]] := by
  rw [List.take_add_one, List.getElem?_eq_getElem h]
  rfl
end Go.Proofs.Ytpinhmhempbmoaa
