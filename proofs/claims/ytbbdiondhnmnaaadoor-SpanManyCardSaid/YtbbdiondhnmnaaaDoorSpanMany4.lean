/- How the arguments of the laws are opened: a slice as a list of elements, whatever the element's shape; structs by value. Conditions: none. -/
import Derived.Test.YtbbdiondhnmnaaaDoorSpanMany1
import Derived.ProofKit
import Derived.OpenShut
import Derived.ShutString
import Derived.ChangeOld
import Derived.Below
import Derived.Deep.Slices
import Derived.Deep.Fields
import Derived.Lib.SmallJoins
namespace Go.Proofs.YtbbdiondhnmnaaaDoor
open Go.ChangeShapes Go.WideShapes Go.ChangeAt Go.RowKit Go.Deep Go.Joins

def OkI (n : Int) : Prop := -9223372036854775808 ≤ n ∧ n ≤ 9223372036854775807
def OkU (n : Int) : Prop := 0 ≤ n ∧ n ≤ 4294967295
theorem okI_of {n : Int} (h : (Lit.int .i64 n).wf = true) : OkI n := by
  have := bounds_i64 h
  unfold OkI; omega
theorem okU_of {n : Int} (h : (Lit.int .u32 n).wf = true) : OkU n := by
  have := bounds_u32 h
  unfold OkU; omega

section
variable {H : Type} {enc : TypeId × Value → H} {P : Program} {w : World} {base : Nat} {spare : Nat → Bool} {held : Bool}
/-- An element of type e reads as some a of which Good holds; its cells are 'f a'. -/
def Opens {α : Type} (enc : TypeId × Value → H) (P : Program) (w : World) (base : Nat) (spare : Nat → Bool) (held : Bool) (e : TypeId) (f : α → List Value) (Good : α → Prop) : Prop :=
  ∀ (fuel : Nat) (cs : List Value) (y : DataW H × List MemPlace), DataW.trod enc P w base spare held fuel e cs = some y → ∃ a, cs = f a ∧ Good a

/-- A slice value with its elements. -/
structure Sls (α : Type) where
  A : Option Addr
  c : Nat
  l : List α
abbrev Sls.val {α : Type} (s : Sls α) : Value := .slice s.A s.l.length s.c
def Sls.Good {α : Type} (w : World) (B c : Nat) (f : α → List Value) (G : α → Prop) (s : Sls α) : Prop :=
  s.l.length ≤ maxLen ∧ s.l.length ≤ s.c ∧ Els w B c f s.A s.l ∧ ∀ a ∈ s.l, G a

theorem opens_i64 {e : TypeId} (he : P.underlying e = some (.int .i64)) : Opens enc P w base spare held e (fun n : Int => [.int .i64 n]) OkI := by
  intro fuel cs y h
  obtain ⟨n, rfl, _, wf⟩ := DataW.trod_int he h
  exact ⟨n, rfl, okI_of wf⟩
theorem opens_u32 {e : TypeId} (he : P.underlying e = some (.int .u32)) : Opens enc P w base spare held e (fun n : Int => [.int .u32 n]) OkU := by
  intro fuel cs y h
  obtain ⟨n, rfl, _, wf⟩ := DataW.trod_int he h
  exact ⟨n, rfl, okU_of wf⟩

theorem add_at (b off i : Nat) : (Addr.add ⟨b, off, none⟩ i) = ⟨b, off + i, none⟩ := by
  unfold Addr.add
  split
  · rename_i h; rw [h]; rfl
  · rfl

theorem opens_slice {α : Type} {t e c : Nat} {f : α → List Value} {G : α → Prop} (ht : P.underlying t = some (.slice e)) (hC : P.cellsOf e = c) (hc : 0 < c)
    (he : Opens enc P w base spare held e f G) :
    Opens enc P w base spare held t (fun s : Sls α => [s.val]) (Sls.Good w w.heap.size c f G) := by
  intro fuel cs x h
  rcases open_slice ht h with ⟨rfl, _⟩ | ⟨a, len, cap, m, n, D, Pl, rfl, _, hl, hm, hmm, hx, hi⟩
  · exact ⟨⟨none, 0, []⟩, rfl, by simp [maxLen], by simp, Els.nil, by simp⟩
  · have hlm : len ≤ m := by rw [hmm]; split <;> omega
    have key : ∀ i, i < len → ∃ y, w.cells? base (a.add (i * c)) c = some (f y) ∧ G y := fun i hilt => by
      obtain ⟨cs', hcs, htr⟩ := hi i (by omega)
      rw [hC] at hcs
      obtain ⟨y, rfl, hy⟩ := he _ _ _ htr
      exact ⟨y, hcs, hy⟩
    obtain ⟨l, hll, hlk⟩ : ∃ l : List α, l.length = len ∧ ∀ (i : Nat) (y : α), l[i]? = some y → w.cells? base (a.add (i * c)) c = some (f y) ∧ G y := by
      clear hi hmm hlm hl hm h hx
      induction len with
      | zero => exact ⟨[], rfl, by simp⟩
      | succ k ih =>
        obtain ⟨l, h1, h2⟩ := ih (fun i hi => key i (by omega))
        obtain ⟨y, hy⟩ := key k (by omega)
        refine ⟨l ++ [y], by simp [h1], fun i z hz => ?_⟩
        rw [List.getElem?_append] at hz
        split at hz
        · exact h2 i z hz
        · rename_i hlt
          have : i = k := by
            have := List.getElem?_eq_some_iff.1 hz
            obtain ⟨hh, _⟩ := this
            simp at hh; omega
          subst this
          rw [h1] at hz
          simp at hz
          subst hz
          exact hy
    refine ⟨⟨some a, cap, l⟩, by simp [Sls.val, hll], ?_, ?_, ?_, ?_⟩
    · simp only [hll]; omega
    · simp only [hll]; omega
    · intro hpos
      have hpos' : 0 < l.length := hpos
      obtain ⟨y0, hy0⟩ : ∃ y, l[0]? = some y := ⟨l[0], List.getElem?_eq_getElem hpos'⟩
      obtain ⟨hc0, _⟩ := hlk 0 y0 hy0
      obtain ⟨_, hcl0, hat0⟩ := World.cells?_some hc0
      have hz : w.cell? a = (f y0)[0]? := by
        have := hat0 0 hc
        simpa [Addr.add] using this
      have hsome : ∃ v, w.cell? a = some v := by
        rw [hz]
        exact ⟨(f y0)[0]'(by omega), List.getElem?_eq_getElem (by omega)⟩
      obtain ⟨v0, hv0⟩ := hsome
      obtain ⟨b, off, spot⟩ := a
      have hspot : spot = none := by simpa using World.cell?_spot hv0
      subst hspot
      refine ⟨b, off, rfl, block_lt_of_cell hv0, fun k y hy j u hu => ?_⟩
      obtain ⟨hck, _⟩ := hlk k y hy
      obtain ⟨_, hclk, hatk⟩ := World.cells?_some hck
      have hj : j < c := by
        have := (List.getElem?_eq_some_iff.1 hu).1
        omega
      have := hatk j hj
      rw [add_at, add_at] at this
      rw [this, hu]
    · intro y hy
      obtain ⟨i, hi'⟩ := List.mem_iff_getElem?.1 hy
      exact (hlk i y hi').2

theorem opens_struct2 {α β : Type} {e : TypeId} {f0 f1 : Field} {g0 : α → Value} {g1 : β → Value} {G0 : α → Prop} {G1 : β → Prop} (hs : P.underlying e = some (.struct #[f0, f1]))
    (hone : oneCellFields P #[f0, f1] = true) (hC : P.cellsOf e = 2) (h0 : Opens enc P w base spare held f0.type (fun a => [g0 a]) G0) (h1 : Opens enc P w base spare held f1.type (fun a => [g1 a]) G1) :
    Opens enc P w base spare held e (fun p : α × β => [g0 p.1, g1 p.2]) (fun p => G0 p.1 ∧ G1 p.2) := by
  intro fuel cs x h
  obtain ⟨ys, n', _, _, hlen, hyl, hf⟩ := DataW.trod_struct hs h
  rw [hC] at hlen
  match cs, hlen with
  | [c0, c1], _ =>
    obtain ⟨o0, k0⟩ := hone_of hone 0 f0 rfl
    obtain ⟨o1, k1⟩ := hone_of hone 1 f1 rfl
    match ys, hyl with
    | [y0, y1], _ =>
      obtain ⟨a, ha, ga⟩ := h0 _ _ _ (by simpa [o0, k0] using hf 0 f0 rfl)
      obtain ⟨b, hb, gb⟩ := h1 _ _ _ (by simpa [o1, k1] using hf 1 f1 rfl)
      exact ⟨(a, b), by simp_all, ga, gb⟩
theorem opens_struct3 {α β γ : Type} {e : TypeId} {f0 f1 f2 : Field} {g0 : α → Value} {g1 : β → Value} {g2 : γ → Value} {G0 : α → Prop} {G1 : β → Prop} {G2 : γ → Prop} (hs : P.underlying e = some (.struct #[f0, f1, f2]))
    (hone : oneCellFields P #[f0, f1, f2] = true) (hC : P.cellsOf e = 3) (h0 : Opens enc P w base spare held f0.type (fun a => [g0 a]) G0) (h1 : Opens enc P w base spare held f1.type (fun a => [g1 a]) G1) (h2 : Opens enc P w base spare held f2.type (fun a => [g2 a]) G2) :
    Opens enc P w base spare held e (fun p : α × β × γ => [g0 p.1, g1 p.2.1, g2 p.2.2]) (fun p => G0 p.1 ∧ G1 p.2.1 ∧ G2 p.2.2) := by
  intro fuel cs x h
  obtain ⟨ys, n', _, _, hlen, hyl, hf⟩ := DataW.trod_struct hs h
  rw [hC] at hlen
  match cs, hlen with
  | [c0, c1, c2], _ =>
    obtain ⟨o0, k0⟩ := hone_of hone 0 f0 rfl
    obtain ⟨o1, k1⟩ := hone_of hone 1 f1 rfl
    obtain ⟨o2, k2⟩ := hone_of hone 2 f2 rfl
    match ys, hyl with
    | [y0, y1, y2], _ =>
      obtain ⟨a, ha, ga⟩ := h0 _ _ _ (by simpa [o0, k0] using hf 0 f0 rfl)
      obtain ⟨b, hb, gb⟩ := h1 _ _ _ (by simpa [o1, k1] using hf 1 f1 rfl)
      obtain ⟨d, hd, gd⟩ := h2 _ _ _ (by simpa [o2, k2] using hf 2 f2 rfl)
      exact ⟨(a, b, d), by simp_all, ga, gb, gd⟩
theorem opens_struct4 {α β γ δ : Type} {e : TypeId} {f0 f1 f2 f3 : Field} {g0 : α → Value} {g1 : β → Value} {g2 : γ → Value} {g3 : δ → Value} {G0 : α → Prop} {G1 : β → Prop} {G2 : γ → Prop} {G3 : δ → Prop} (hs : P.underlying e = some (.struct #[f0, f1, f2, f3]))
    (hone : oneCellFields P #[f0, f1, f2, f3] = true) (hC : P.cellsOf e = 4) (h0 : Opens enc P w base spare held f0.type (fun a => [g0 a]) G0) (h1 : Opens enc P w base spare held f1.type (fun a => [g1 a]) G1) (h2 : Opens enc P w base spare held f2.type (fun a => [g2 a]) G2) (h3 : Opens enc P w base spare held f3.type (fun a => [g3 a]) G3) :
    Opens enc P w base spare held e (fun p : α × β × γ × δ => [g0 p.1, g1 p.2.1, g2 p.2.2.1, g3 p.2.2.2]) (fun p => G0 p.1 ∧ G1 p.2.1 ∧ G2 p.2.2.1 ∧ G3 p.2.2.2) := by
  intro fuel cs x h
  obtain ⟨ys, n', _, _, hlen, hyl, hf⟩ := DataW.trod_struct hs h
  rw [hC] at hlen
  match cs, hlen with
  | [c0, c1, c2, c3], _ =>
    obtain ⟨o0, k0⟩ := hone_of hone 0 f0 rfl
    obtain ⟨o1, k1⟩ := hone_of hone 1 f1 rfl
    obtain ⟨o2, k2⟩ := hone_of hone 2 f2 rfl
    obtain ⟨o3, k3⟩ := hone_of hone 3 f3 rfl
    match ys, hyl with
    | [y0, y1, y2, y3], _ =>
      obtain ⟨a, ha, ga⟩ := h0 _ _ _ (by simpa [o0, k0] using hf 0 f0 rfl)
      obtain ⟨b, hb, gb⟩ := h1 _ _ _ (by simpa [o1, k1] using hf 1 f1 rfl)
      obtain ⟨d, hd, gd⟩ := h2 _ _ _ (by simpa [o2, k2] using hf 2 f2 rfl)
      obtain ⟨q, hq, gq⟩ := h3 _ _ _ (by simpa [o3, k3] using hf 3 f3 rfl)
      exact ⟨(a, b, d, q), by simp_all, ga, gb, gd, gq⟩

/-- An argument of whatever one-cell type, by its reading. -/
theorem open_one {α : Type} {t : TypeId} {g : α → Value} {G : α → Prop} {v : Value} {d : DataW H} {p : List MemPlace} (ho : Opens enc P w base spare held t (fun a => [g a]) G) (hv : v.cells = #[v]) (h : DataW.Trod enc P w base spare held t v d p) : ∃ a, v = g a ∧ G a := by
  obtain ⟨fuel, hf⟩ := h
  rw [hv] at hf
  obtain ⟨a, ha, ga⟩ := ho _ _ _ hf
  exact ⟨a, by simpa using ha, ga⟩
/-- A struct argument of two one-cell fields. -/
theorem open_pair {α β : Type} {e : TypeId} {f0 f1 : Field} {g0 : α → Value} {g1 : β → Value} {G0 : α → Prop} {G1 : β → Prop} {r : Reach} {b0 : Nat} {v : Value} {d : DataW H} {p : List MemPlace} (hs : P.underlying e = some (.struct #[f0, f1]))
    (hone : oneCellFields P #[f0, f1] = true) (hC : P.cellsOf e = 2) (h0 : Opens enc P w base spare held f0.type (fun a => [g0 a]) G0) (h1 : Opens enc P w base spare held f1.type (fun a => [g1 a]) G1)
    (hv : Value.okWide P w r b0 e v) (h : DataW.Trod enc P w base spare held e v d p) : ∃ a b, v = .agg #[g0 a, g1 b] ∧ G0 a ∧ G1 b := by
  obtain ⟨cs, rfl, hsz⟩ := okWide_struct hs hv
  obtain ⟨fuel, hf⟩ := h
  obtain ⟨⟨a, b⟩, hab, ga, gb⟩ := opens_struct2 hs hone hC h0 h1 _ _ _ hf
  refine ⟨a, b, ?_, ga, gb⟩
  simp only [Value.cells] at hab
  rw [show cs = #[g0 a, g1 b] from by rw [← Array.toArray_toList (xs := cs), hab]]
end
theorem trod_blocks {H : Type} {enc : TypeId × Value → H} {P : Program} {w : World} {base : Nat} {spare : Nat → Bool} {held : Bool} {t : TypeId} {v : Value} {d : DataW H} {p : List MemPlace} (h : DataW.Trod enc P w base spare held t v d p) : ∀ x ∈ p, x.block < w.heap.size := by
  obtain ⟨m, hm⟩ := h
  exact DataW.trod_lt m _ _ _ hm
end Go.Proofs.YtbbdiondhnmnaaaDoor
