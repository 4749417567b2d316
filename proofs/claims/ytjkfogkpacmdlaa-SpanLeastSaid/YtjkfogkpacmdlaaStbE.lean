/- Two runs side by side are merged in place: the program's symMerge, what its third case wants. Conditions: the closure compares by value; the row is the caller's own. -/
import Derived.Test.YtjkfogkpacmdlaaStbD
namespace Go.Proofs.Ytjkfogkpacmdlaa
open Go.RowKit

/-- symMerge does its work on every two runs of fewer than `d` places. -/
def SymOk (F : FuncId) (cap : Array Value) (V : Int → Int) (A : Option Addr) (N n cp B : Nat) (w0 : World) (d : Nat) : Prop :=
  ∀ (a m b : Nat) (X L R Z : List Int) (w : World), Below B w0 w → X.length = a → a + L.length = m → m + R.length = b → 0 < L.length → 0 < R.length → (X ++ (L ++ (R ++ Z))).length = n → b - a < d → SrtV V L → SrtV V R → (∀ x ∈ L, ∀ y ∈ R, x < y) → (∀ x ∈ L, 0 ≤ x ∧ x < N) → (∀ x ∈ R, 0 ≤ x ∧ x < N) →
    Own w B 3 1 icell A cp (X ++ (L ++ (R ++ Z))) → Calls Try.prog 66 #[.slice A n cp, .int .i64 a, .int .i64 m, .int .i64 b, .func (.func F) #[] cap] w (Merged V A cp B X (L ++ R) Z w)
def symA (V : Int → Int) (L R : List Int) (i j : Nat) : Prop := i = 0 ∨ j = R.length ∨ bfV V (L.getD (i - 1) 0) (R.getD j 0)
def symB (V : Int → Int) (L R : List Int) (i j : Nat) : Prop := j = 0 ∨ i = L.length ∨ bfV V (R.getD (j - 1) 0) (L.getD i 0)
/-- What the search for the cut has found so far. -/
def SymI (V : Int → Int) (L R : List Int) (a m mid B : Nat) (A : Option Addr) (cp : Nat) (u : List Int) (w : World) (s t : Value) (wr : World) : Prop :=
  ∃ st r : Nat, s = .int .i64 (st : Int) ∧ t = .int .i64 (r : Int) ∧ a ≤ st ∧ st ≤ r ∧ r ≤ mid ∧ r ≤ m ∧ mid ≤ st + R.length ∧ symA V L R (st - a) (mid - st) ∧ symB V L R (r - a) (mid - r) ∧ Below B w wr ∧ Own wr B 3 1 icell A cp u
theorem SymI.drew {V : Int → Int} {L R : List Int} {a m mid B : Nat} {A : Option Addr} {cp : Nat} {u : List Int} {w : World} {s t : Value} {wr : World} (h : SymI V L R a m mid B A cp u w s t wr) (M : Nat) : SymI V L R a m mid B A cp u w s t (wr.drewN M) := by
  obtain ⟨p, q, h1, h2, h3, h4, h5, h6, h7, h8, h9, h10, h11⟩ := h
  exact ⟨p, q, h1, h2, h3, h4, h5, h6, h7, h8, h9, below_drewN h10 _, h11.drewN _⟩
theorem row_at {X P Z : List Int} {a c n : Nat} (ha : X.length = a) (hc : c < P.length) (hn : a + c = n) : (X ++ (P ++ Z)).getD n 0 = P.getD c 0 := by
  have h1 := get_mid (X ++ P.take c) (P.drop (c + 1) ++ Z) P[c] 0 (i := n) (by simp only [List.length_append, List.length_take]; omega)
  have e1 : P = P.take c ++ (P[c] :: P.drop (c + 1)) := by rw [← List.drop_eq_getElem_cons, List.take_append_drop]
  rw [getD_at P c hc]
  conv => lhs; rw [e1]
  simpa only [List.append_assoc, List.cons_append, List.nil_append] using h1

end Go.Proofs.Ytjkfogkpacmdlaa
