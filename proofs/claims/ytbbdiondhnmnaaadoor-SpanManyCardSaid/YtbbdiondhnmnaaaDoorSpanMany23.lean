/- The deferred calls of a function that holds ranges over a function within loops: a list of marks; a loop whose frame's marks may grow; the way out. -/
import Derived.RangeFuncLeaves
import Derived.RangeFuncRecord
import Derived.LoopIn
import Derived.Test.YtbbdiondhnmnaaaDoorSpanMany1
import Derived.RangeFuncNested
import Derived.RangeFuncBound
import Derived.RangeFuncCalls
import Derived.Shelf.Abstract
import Derived.Shelf.RegionOpen
import Derived.OwnWalkIn
import Derived.TacticsInMore
import Derived.LoopNIn
namespace Go.Proofs.YtbbdiondhnmnaaaDoor
open Go.RowKit Go.Shelf

def markOf (D : Nat) : Deferred := { target := .collected D, args := #[] }

/-- The marks of some loops' boxes, from B on, each box open and none in it. -/
def Marks (B : Nat) (ds : List Deferred) (w : World) : Prop :=
  ∃ Ds : List Nat, ds = Ds.map markOf ∧ Ds.Nodup ∧ ∀ D ∈ Ds, B ≤ D ∧ w.heap[D]? = some (Obj.deferred (some []))

theorem Marks.nil (B : Nat) (w : World) : Marks B [] w := ⟨[], rfl, List.nodup_nil, fun _ h => by cases h⟩
theorem Marks.imp {B : Nat} {ds : List Deferred} {w w' : World} (h : Marks B ds w) (hk : ∀ D : Nat, w.heap[D]? = some (Obj.deferred (some [])) → w'.heap[D]? = some (Obj.deferred (some []))) : Marks B ds w' := by
  obtain ⟨Ds, h1, h2, h3⟩ := h
  exact ⟨Ds, h1, h2, fun D hD => ⟨(h3 D hD).1, hk D (h3 D hD).2⟩⟩
theorem lt_of_block {w : World} {D : Nat} {o : Obj} (h : w.heap[D]? = some o) : D < w.heap.size := (Array.getElem?_eq_some_iff.1 h).1
theorem Marks.below {B b : Nat} {ds : List Deferred} {w w' : World} (h : Marks B ds w) (hb : Below b w w') (hs : w.heap.size ≤ b) : Marks B ds w' :=
  h.imp fun D hD => (hb.block D (Nat.lt_of_lt_of_le (lt_of_block hD) hs)).trans hD
theorem Marks.alloc {B : Nat} {ds : List Deferred} {w : World} (h : Marks B ds w) (o : Obj) : Marks B ds (w.alloc o) :=
  h.below ((Below.refl _ w).alloc (Nat.le_refl _) _) (Nat.le_refl _)
theorem Marks.setCell {B : Nat} {ds : List Deferred} {w : World} (h : Marks B ds w) {p : Addr} (v : Value) (hp : ∀ o, w.heap[p.block]? = some o → o ≠ Obj.deferred (some [])) : Marks B ds (w.setCell p v) :=
  h.imp fun D hD => (Below.heap_setCell w p v D (fun he => hp _ (he ▸ hD) rfl)).trans hD
/-- A new mark, of a box at or behind the size the old ones were laid in. -/
theorem Marks.cons {B D S : Nat} {ds : List Deferred} {w w' : World} (h : Marks B ds w) (hS : w.heap.size = S) (hD : S ≤ D) (hB : B ≤ S) (hk : ∀ k : Nat, k < S → w.heap[k]? = some (Obj.deferred (some [])) → w'.heap[k]? = some (Obj.deferred (some [])))
    (hnew : w'.heap[D]? = some (Obj.deferred (some []))) : Marks B ({ target := .collected D, args := #[] } :: ds) w' := by
  obtain ⟨Ds, h1, h2, h3⟩ := h
  have hlt : ∀ E ∈ Ds, E < S := fun E hE => hS ▸ lt_of_block (h3 E hE).2
  refine ⟨D :: Ds, by rw [h1]; rfl, List.nodup_cons.2 ⟨fun hm => ?_, h2⟩, fun E hE => ?_⟩
  · have := hlt D hm
    omega
  · rcases List.mem_cons.1 hE with rfl | hE
    · exact ⟨by omega, hnew⟩
    · exact ⟨(h3 E hE).1, hk E (hlt E hE) (h3 E hE).2⟩

/-- What the way out leaves as it was: all but the marks' boxes. -/
def Shut (B : Nat) (w w' : World) : Prop := Below B w w' ∧ ∀ (k : Nat) (o : Obj), w.heap[k]? = some o → o ≠ Obj.deferred (some []) → w'.heap[k]? = some o
theorem Shut.refl (B : Nat) (w : World) : Shut B w w := ⟨Below.refl _ _, fun _ _ h _ => h⟩
theorem Shut.trans {B : Nat} {a b c : World} (h : Shut B a b) (k : Shut B b c) : Shut B a c := ⟨h.1.trans k.1, fun i o hi ho => k.2 i o (h.2 i o hi ho) ho⟩

theorem Below.putObj' {B : Nat} (w : World) {D : Nat} (o : Obj) (h : B ≤ D) : Below B w (w.putObj D o) :=
  ⟨rfl, rfl, rfl, Nat.le_of_eq World.putObj_size.symm, fun k hk => World.putObj_heap_other (by omega)⟩

theorem leaves_marks {F : Fence} {n : Nat} {P : Program} {fn : Func} {tmps : Array Value} {R : Ending → World → Prop} {B : Nat} : ∀ (Ds : List Nat) (w : World), Ds.Nodup → (∀ D ∈ Ds, B ≤ D ∧ w.heap[D]? = some (Obj.deferred (some []))) →
    (∀ w', Shut B w w' → LeavesIn F n P fn tmps R [] .returning w') → LeavesInM F n P fn tmps R (Ds.map markOf) .returning w
  | [], w, _, _, h => h w (Shut.refl B w)
  | D :: Ds, w, hn, hD, h => by
    obtain ⟨hDn, hn'⟩ := List.nodup_cons.1 hn
    obtain ⟨hBD, hbox⟩ := hD D List.mem_cons_self
    refine ⟨by simp, .inl ⟨D, w.putObj D (.deferred none), rfl, run_takeDeferred hbox, leaves_marks Ds _ hn' (fun E hE => ?_) fun w' hw' => h w' (Shut.trans ?_ hw')⟩⟩
    · obtain ⟨h1, h2⟩ := hD E (List.mem_cons_of_mem _ hE)
      exact ⟨h1, (World.putObj_heap_other (show E ≠ D from fun he => hDn (he ▸ hE))).trans h2⟩
    · refine ⟨Below.putObj' w _ hBD, fun k o hk ho => ?_⟩
      by_cases hkD : k = D
      · subst hkD
        rw [hbox] at hk
        cases hk
        exact absurd rfl ho
      · exact (World.putObj_heap_other hkD).trans hk

/-- The function's end, behind its marks. -/
theorem bodyPostM_ret {F : Fence} {n : Nat} {P : Program} {fn : Func} {a : Act} {w : World} {R : Ending → World → Prop} {B : Nat} (hm : Marks B a.defers w)
    (h : ∀ w', Shut B w w' → ∃ v, (results fn a.tmps).run P w' = .ok v w' ∧ R (.returned v) w') : bodyPostM F n P fn R .ret a w := by
  obtain ⟨Ds, h1, h2, h3⟩ := hm
  show LeavesInM F n P fn a.tmps R a.defers .returning w
  rw [h1]
  exact leaves_marks Ds w h2 h3 h

/-- The frame with some slots' values put in. -/
def patch (t : List Value) (ws : List Nat) (g : Nat → Value) : List Value := ws.foldl (fun t k => t.set k (g k)) t
/-- What a frame holds in a slot. -/
def slot (t : List Value) (k : Nat) : Value := t.getD k undef

theorem slot_other (g : Nat → Value) (k : Nat) : ∀ (ws : List Nat) (t : List Value), k ∉ ws → slot (patch t ws g) k = slot t k
  | [], _, _ => rfl
  | i :: ws, t, hk => by
    show slot (patch (t.set i (g i)) ws g) k = _
    rw [slot_other g k ws _ (fun h => hk (List.mem_cons_of_mem _ h))]
    have : i ≠ k := fun h => hk (h ▸ List.mem_cons_self)
    simp [slot, List.getD_eq_getElem?_getD, List.getElem?_set, this]
theorem slot_patch (g : Nat → Value) : ∀ (ws : List Nat) (t : List Value), ws.Nodup → (∀ k ∈ ws, k < t.length) → ∀ k ∈ ws, slot (patch t ws g) k = g k
  | [], _, _, _, _, hk => by cases hk
  | j :: ws, t, hn, hl, k, hk => by
    obtain ⟨hj, hn'⟩ := List.nodup_cons.1 hn
    show slot (patch (t.set j (g j)) ws g) k = g k
    by_cases hkw : k ∈ ws
    · exact slot_patch g ws _ hn' (fun i hi => by simpa using hl i (List.mem_cons_of_mem _ hi)) k hkw
    · have hkj : k = j := by
        rcases List.mem_cons.1 hk with h | h
        · exact h
        · exact absurd h hkw
      subst hkj
      rw [slot_other g k ws _ hkw]
      have := hl k List.mem_cons_self
      simp [slot, List.getD_eq_getElem?_getD, this]

/-- A loop whose frame may change in the slots ws and in its marks. -/
theorem wpIn_loop_marks {F : Fence} {n : Nat} {P : Program} {c : Code} {Q : Exit → Act → World → Prop} {t : List Value} {ds : List Deferred} {w : World} (ws : List Nat)
    (Rel : (Nat → Value) → List Deferred → World → Prop) (μ : (Nat → Value) → World → Nat) (ht : t = patch t ws (slot t)) (h0 : Rel (slot t) ds w)
    (round : ∀ (g : Nat → Value) (ds' : List Deferred) (wr : World) (K : Act → World → Prop), Rel g ds' wr →
      (∀ (t' : List Value) (ds'' : List Deferred) (w' : World), t' = patch t ws (slot t') → Rel (slot t') ds'' w' → μ (slot t') w' < μ g wr → K { tmps := t'.toArray, defers := ds'' } w') →
      c.wpIn F n P (Exit.then K Q) { tmps := (patch t ws g).toArray, defers := ds' } wr)
    (hμ : ∀ g g' w, (∀ k ∈ ws, g k = g' k) → μ g w = μ g' w) (hws : ws.Nodup) (N : Nat) (hN : t.length = N) (hlt : ∀ k ∈ ws, k < N) :
    (Code.loop c).wpIn F n P Q { tmps := t.toArray, defers := ds } w := by
  refine wpIn_loop (fun a' w' => ∃ g, a'.tmps = (patch t ws g).toArray ∧ Rel g a'.defers w') (fun a' w' => μ (slot a'.tmps.toList) w') ⟨_, by rw [← ht], h0⟩ ?_
  rintro ⟨t1, ds1⟩ w1 ⟨g, h1, h2⟩
  simp only at h1 h2
  subst h1
  refine round g ds1 w1 _ h2 fun t' ds'' w' ht' hr hm => ⟨⟨_, by rw [← ht'], hr⟩, ?_⟩
  have : μ (slot (patch t ws g)) w1 = μ g w1 := hμ _ _ _ fun k hk => slot_patch g ws t hws (fun k hk => hN ▸ hlt k hk) k hk
  simp only
  rw [this]
  exact hm
end Go.Proofs.YtbbdiondhnmnaaaDoor
