/- Rows and tables through a range over a function: what stays. Conditions: none. -/
import Derived.Test.YtnpcbbdfpbnakaaDoorHeld
import Derived.Test.YtnpcbbdfpbnakaaDoorMat
namespace Go.Proofs.YtnpcbbdfpbnakaaDoor
open Go.RowKit Go.Shelf

section
variable {α : Type} {w w' : World} {B c cap : Nat} {e : TypeId} {f : α → List Value} {A : Option Addr} {l : List α}
theorem Own.same (h : Own w B e c f A cap l) (hb : ∀ g, blkOf A = some g → w'.heap[g]? = w.heap[g]?) : Own w' B e c f A cap l := by
  refine ⟨h.1, h.2.1, ?_⟩
  rcases h.2.2 with hn | ⟨g, cp, cur, hv, hB, hh, rest⟩
  · exact .inl hn
  · refine .inr ⟨g, cp, cur, hv, hB, ?_, rest⟩
    rw [hb g (by injection hv with hv; rw [hv]; rfl)]
    exact hh
theorem Own.cellsAt (h : Own w B e c f A cap l) {g : Nat} (hg : blkOf A = some g) : ∃ cur, w.heap[g]? = some (Obj.cells cur e (0, 0)) := by
  rcases h.2.2 with ⟨hv, _⟩ | ⟨g', cp, cur, hv, hB, hh, rest⟩
  · injection hv with hv
    rw [hv] at hg; cases hg
  · injection hv with hv
    rw [hv] at hg
    have : g' = g := by simpa [blkOf] using hg
    subst this
    exact ⟨cur, hh⟩
theorem Own.held {ex : List Nat} (h : Own w B e c f A cap l) (hh : Held ex w w') (hx : ∀ g, blkOf A = some g → g ∉ ex) : Own w' B e c f A cap l :=
  h.same fun g hg => hh.block g (h.lt g hg).2 (hx g hg)
theorem Own.shut {B' : Nat} (h : Own w B e c f A cap l) (hs : Shut B' w w') : Own w' B e c f A cap l :=
  h.same fun g hg => by
    obtain ⟨cur, hc⟩ := h.cellsAt hg
    rw [hs.2 g _ hc (by simp), hc]
end
theorem boxed_far {W : World} {b : Nat} {t : TypeId} {v : Value} (h : Boxed W b t v) {p : Addr} (hp : b ≠ p.block) (u : Value) : Boxed (W.setCell p u) b t v := (Below.heap_setCell W p u b hp).trans h
theorem boxed_below {W W' : World} {b B : Nat} {t : TypeId} {v : Value} (h : Boxed W b t v) (hb : Below B W W') (hB : b < B) : Boxed W' b t v := (hb.block b hB).trans h
theorem own_goes {α β : Type} (B c cap : Nat) (e : TypeId) (f : α → List Value) (A : Option Addr) (L : β → List α) : Go.Own (fun s W => Own W B e c f A cap (L s)) := fun s X Y row hs hg hr => by
  refine hs.kept hg ?_
  rcases hA : blkOf A with _ | g
  · exact .inl rfl
  · refine .inr fun e' => ?_
    obtain ⟨cur, hc⟩ := hs.cellsAt hA
    obtain ⟨o, ho, hno⟩ := hr g e'.symm
    rw [hc] at ho
    cases ho
    cases hno
theorem Mat.same {W W' : World} {B N c : Nat} {A : Option Addr} {P : List (Nat × Nat)} {M : Nat → Nat → Int} (h : Mat W B N A c P M) (hb : ∀ g : Nat, (∃ (cur : Array Value) (e : TypeId), W.heap[g]? = some (Obj.cells cur e (0, 0))) → W'.heap[g]? = W.heap[g]?) : Mat W' B N A c P M :=
  ⟨h.out.same fun g hg => by obtain ⟨cur, hc⟩ := h.out.cellsAt hg; exact hb g ⟨cur, _, hc⟩, fun i hi => (h.row i hi).same fun g hg => by obtain ⟨cur, hc⟩ := (h.row i hi).cellsAt hg; exact hb g ⟨cur, _, hc⟩, h.ne⟩
theorem Mat.shut {W W' : World} {B B' N c : Nat} {A : Option Addr} {P : List (Nat × Nat)} {M : Nat → Nat → Int} (h : Mat W B N A c P M) (hs : Shut B' W W') : Mat W' B N A c P M :=
  h.same fun g ⟨cur, e, hc⟩ => by rw [hs.2 g _ hc (by simp), hc]
/-- A store into a block of cells. -/
theorem KeepsFrom.cells {B : Nat} {W : World} {g j : Nat} {cur : Array Value} {e : TypeId} (h : W.heap[g]? = some (Obj.cells cur e (0, 0))) (u : Value) : KeepsFrom B W (W.setCell ⟨g, j, none⟩ u) :=
  ⟨by simp [World.setCell], fun k o _ hk ho => by
    refine (Below.heap_setCell W ⟨g, j, none⟩ u k (fun e => ?_)).trans hk
    have e' : k = g := e
    subst e'
    rw [h] at hk
    cases hk
    cases ho⟩
theorem keeps_then {B : Nat} {W W' W'' : World} (h : KeepsFrom B W W') (k : KeepsFrom B W' W'') : KeepsFrom B W W'' :=
  ⟨Nat.le_trans h.size k.size, fun i o hi hk ho => k.same i o hi (h.same i o hi hk ho) ho⟩
theorem cells_noMark {W : World} {g : Nat} {cur : Array Value} {e : TypeId} (h : W.heap[g]? = some (Obj.cells cur e (0, 0))) : W.heap[g]? ≠ some (Obj.deferred (some [])) := fun e => by
  rw [h] at e
  cases e
theorem Held.mark_ {ex : List Nat} {W0 W : World} {B D : Nat} {ds : List Deferred} (h : Held ex W0 W) (hm : Marks B ds W0) (hx : ∀ k ∈ ex, W0.heap[k]? ≠ some (Obj.deferred (some []))) (hB : B ≤ W0.heap.size) (hD : W0.heap.size ≤ D)
    (hd : W.heap[D]? = some (Obj.deferred (some []))) : Marks B ({ target := .collected D, args := #[] } :: ds) W :=
  hm.cons rfl hD hB (fun i hi he => (h.block i hi (fun hmem => hx i hmem he)).trans he) hd
end Go.Proofs.YtnpcbbdfpbnakaaDoor
