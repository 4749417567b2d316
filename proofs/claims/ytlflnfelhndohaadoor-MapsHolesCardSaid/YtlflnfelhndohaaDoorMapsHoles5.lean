/- How the arguments of the laws are opened, with the form's own reach: of a slice, and of the slices in it, how long they may be. Conditions: none. -/
import Derived.Test.YtlflnfelhndohaaDoorMapsHoles4
import Derived.SizedLaws
namespace Go.Proofs.YtlflnfelhndohaaDoor
open Go.ChangeShapes Go.WideShapes Go.ChangeAt Go.RowKit Go.Deep Go.Joins

section
variable {H : Type} {enc : TypeId × Value → H} {P : Program} {w : World} {base : Nat} {spare : Nat → Bool} {held : Bool}
/-- As Opens, where what is read is within reach. -/
def OpensB {α : Type} (enc : TypeId × Value → H) (P : Program) (w : World) (base : Nat) (spare : Nat → Bool) (held : Bool) (e : TypeId) (f : α → List Value) (Good : α → Prop) : Prop :=
  ∀ (fuel : Nat) (cs : List Value) (y : DataW H × List MemPlace), DataW.trod enc P w base spare held fuel e cs = some y → (∀ n ∈ DataW.weights P e y.1, n ≤ reachBytes) → ∃ a, cs = f a ∧ Good a
theorem Opens.b {α : Type} {e : TypeId} {f : α → List Value} {G : α → Prop} (h : Opens enc P w base spare held e f G) : OpensB enc P w base spare held e f G := fun fuel cs y hy _ => h fuel cs y hy
theorem weightsAll_mem {e : TypeId} {l : List (DataW H)} {d : DataW H} (h : d ∈ l) : ∀ n ∈ DataW.weights P e d, n ∈ DataW.weightsAll P e l := by
  induction l with
  | nil => cases h
  | cons x r ih =>
    intro n hn
    simp only [DataW.weightsAll]
    rw [List.mem_append]
    rcases List.mem_cons.1 h with rfl | h
    · exact .inl hn
    · exact .inr (ih h n hn)
theorem opens_sliceB {α : Type} {t e c by_ : Nat} {f : α → List Value} {G : α → Prop} (ht : P.underlying t = some (.slice e)) (hC : P.cellsOf e = c) (hc : 0 < c) (hby : P.bytesOf e = by_)
    (he : OpensB enc P w base spare held e f G) :
    OpensB enc P w base spare held t (fun s : Sls α => [s.val]) (fun s => Sls.Good w w.heap.size c f G s ∧ s.l.length * by_ ≤ reachBytes) := by
  intro fuel cs x h hw
  rcases open_slice ht h with ⟨rfl, _⟩ | ⟨a, len, cap, m, n, D, Pl, rfl, _, hl, hm, hmm, hx, hi⟩
  · exact ⟨⟨none, 0, []⟩, rfl, ⟨by simp [maxLen], by simp, Els.nil, by simp⟩, by simp⟩
  · have hlm : len ≤ m := by rw [hmm]; split <;> omega
    have hwD : ∀ i, i < len → ∀ n ∈ DataW.weights P e (D i), n ≤ reachBytes := fun i hilt n hn => by
      refine hw n ?_
      rw [hx]
      simp only [DataW.weights, ht]
      rw [List.mem_cons, List.mem_append]
      exact .inr (.inl (weightsAll_mem (List.mem_map.2 ⟨i, List.mem_range.2 hilt, rfl⟩) n hn))
    have hwl : len * by_ ≤ reachBytes := by
      have := hw ((((List.range len).map D).length + ((List.range (m - len)).map fun j => D (len + j)).length) * P.bytesOf e) (by
        rw [hx]
        simp only [DataW.weights, ht]
        exact List.mem_cons_self ..)
      rw [hby, List.length_map, List.length_range] at this
      exact Nat.le_trans (Nat.mul_le_mul_right _ (Nat.le_add_right _ _)) this
    have key : ∀ i, i < len → ∃ y, w.cells? base (a.add (i * c)) c = some (f y) ∧ G y := fun i hilt => by
      obtain ⟨cs', hcs, htr⟩ := hi i (by omega)
      rw [hC] at hcs
      obtain ⟨y, rfl, hy⟩ := he _ _ _ htr (hwD i hilt)
      exact ⟨y, hcs, hy⟩
    obtain ⟨l, hll, hlk⟩ : ∃ l : List α, l.length = len ∧ ∀ (i : Nat) (y : α), l[i]? = some y → w.cells? base (a.add (i * c)) c = some (f y) ∧ G y := by
      clear hi hmm hlm hl hm h hx hwD hwl hw
      induction len with
      | zero => exact ⟨[], rfl, by simp⟩
      | succ k ih =>
        obtain ⟨l, h1, h2⟩ := ih (fun i hi => key i (by omega))
        obtain ⟨y, hy⟩ := key k (by omega)
        refine ⟨l ++ [y], by simp [h1], fun i z hz => ?_⟩
        rw [List.getElem?_append] at hz
        split at hz
        · exact h2 i z hz
        · rename_i hlt
          have : i = k := by
            have := List.getElem?_eq_some_iff.1 hz
            obtain ⟨hh, _⟩ := this
            simp at hh; omega
          subst this
          rw [h1] at hz
          simp at hz
          subst hz
          exact hy
    refine ⟨⟨some a, cap, l⟩, by simp [Sls.val, hll], ⟨?_, ?_, ?_, ?_⟩, by simp only [hll]; exact hwl⟩
    · simp only [hll]; omega
    · simp only [hll]; omega
    · intro hpos
      have hpos' : 0 < l.length := hpos
      obtain ⟨y0, hy0⟩ : ∃ y, l[0]? = some y := ⟨l[0], List.getElem?_eq_getElem hpos'⟩
      obtain ⟨hc0, _⟩ := hlk 0 y0 hy0
      obtain ⟨_, hcl0, hat0⟩ := World.cells?_some hc0
      have hz : w.cell? a = (f y0)[0]? := by
        have := hat0 0 hc
        simpa [Addr.add] using this
      have hsome : ∃ v, w.cell? a = some v := by
        rw [hz]
        exact ⟨(f y0)[0]'(by omega), List.getElem?_eq_getElem (by omega)⟩
      obtain ⟨v0, hv0⟩ := hsome
      obtain ⟨b, off, spot⟩ := a
      have hspot : spot = none := by simpa using World.cell?_spot hv0
      subst hspot
      refine ⟨b, off, rfl, block_lt_of_cell hv0, fun k y hy j u hu => ?_⟩
      obtain ⟨hck, _⟩ := hlk k y hy
      obtain ⟨_, hclk, hatk⟩ := World.cells?_some hck
      have hj : j < c := by
        have := (List.getElem?_eq_some_iff.1 hu).1
        omega
      have := hatk j hj
      rw [add_at, add_at] at this
      rw [this, hu]
    · intro y hy
      obtain ⟨i, hi'⟩ := List.mem_iff_getElem?.1 hy
      exact (hlk i y hi').2
theorem open_oneB {α : Type} {t : TypeId} {f : α → Value} {G : α → Prop} (h : OpensB enc P w base spare held t (fun a => [f a]) G) {v : Value} {d : DataW H} {p : List MemPlace} (hv : v.cells.toList = [v]) (ht : DataW.Trod enc P w base spare held t v d p) (hw : ∀ n ∈ DataW.weights P t d, n ≤ reachBytes) :
    ∃ a, v = f a ∧ G a := by
  obtain ⟨fuel, hf⟩ := ht
  rw [hv] at hf
  obtain ⟨a, ha, hg⟩ := h fuel [v] _ hf hw
  exact ⟨a, by simpa using ha, hg⟩
end
end Go.Proofs.YtlflnfelhndohaaDoor
