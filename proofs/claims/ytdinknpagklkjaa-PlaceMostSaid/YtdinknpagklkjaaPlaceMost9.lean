/- The deferred calls of a function that holds ranges over a function within loops: a list of marks; a loop whose frame's marks may grow; the way out. -/
import Derived.RangeFuncLeaves
import Derived.RangeFuncRecord
import Derived.LoopIn
import Derived.Test.YtdinknpagklkjaaPlaceMost1
import Derived.RangeFuncNested
import Derived.RangeFuncBound
import Derived.RangeFuncCalls
import Derived.Shelf.Abstract
import Derived.Shelf.RegionOpen
import Derived.OwnWalkIn
import Derived.TacticsInMore
import Derived.LoopNIn
import Derived.Test.YtdinknpagklkjaaPlaceMost3
namespace Go.Proofs.Ytdinknpagklkjaa
open Go.RowKit Go.Shelf

def markOf (D : Nat) : Deferred := { target := .collected D, args := #[] }

/-- The marks of some loops' boxes, from B on, each box open and none in it. -/
def Marks (B : Nat) (ds : List Deferred) (w : World) : Prop :=
  ∃ Ds : List Nat, ds = Ds.map markOf ∧ Ds.Nodup ∧ ∀ D ∈ Ds, B ≤ D ∧ w.heap[D]? = some (Obj.deferred (some []))

theorem Marks.nil (B : Nat) (w : World) : Marks B [] w := ⟨[], rfl, List.nodup_nil, fun _ h => by cases h⟩
theorem Marks.imp {B : Nat} {ds : List Deferred} {w w' : World} (h : Marks B ds w) (hk : ∀ D : Nat, w.heap[D]? = some (Obj.deferred (some [])) → w'.heap[D]? = some (Obj.deferred (some []))) : Marks B ds w' := by
  obtain ⟨Ds, h1, h2, h3⟩ := h
  exact ⟨Ds, h1, h2, fun D hD => ⟨(h3 D hD).1, hk D (h3 D hD).2⟩⟩
theorem lt_of_block {w : World} {D : Nat} {o : Obj} (h : w.heap[D]? = some o) : D < w.heap.size := (Array.getElem?_eq_some_iff.1 h).1
theorem Marks.below {B b : Nat} {ds : List Deferred} {w w' : World} (h : Marks B ds w) (hb : Below b w w') (hs : w.heap.size ≤ b) : Marks B ds w' :=
  h.imp fun D hD => (hb.block D (Nat.lt_of_lt_of_le (lt_of_block hD) hs)).trans hD
theorem Marks.alloc {B : Nat} {ds : List Deferred} {w : World} (h : Marks B ds w) (o : Obj) : Marks B ds (w.alloc o) :=
  h.below ((Below.refl _ w).alloc (Nat.le_refl _) _) (Nat.le_refl _)
theorem Marks.setCell {B : Nat} {ds : List Deferred} {w : World} (h : Marks B ds w) {p : Addr} (v : Value) (hp : ∀ o, w.heap[p.block]? = some o → o ≠ Obj.deferred (some [])) : Marks B ds (w.setCell p v) :=
  h.imp fun D hD => (Below.heap_setCell w p v D (fun he => hp _ (he ▸ hD) rfl)).trans hD
/-- A new mark, of a box at or behind the size the old ones were laid in. -/
theorem Marks.cons {B D S : Nat} {ds : List Deferred} {w w' : World} (h : Marks B ds w) (hS : w.heap.size = S) (hD : S ≤ D) (hB : B ≤ S) (hk : ∀ k : Nat, k < S → w.heap[k]? = some (Obj.deferred (some [])) → w'.heap[k]? = some (Obj.deferred (some [])))
    (hnew : w'.heap[D]? = some (Obj.deferred (some []))) : Marks B ({ target := .collected D, args := #[] } :: ds) w' := by
  obtain ⟨Ds, h1, h2, h3⟩ := h
  have hlt : ∀ E ∈ Ds, E < S := fun E hE => hS ▸ lt_of_block (h3 E hE).2
  refine ⟨D :: Ds, by rw [h1]; rfl, List.nodup_cons.2 ⟨fun hm => ?_, h2⟩, fun E hE => ?_⟩
  · have := hlt D hm
    omega
  · rcases List.mem_cons.1 hE with rfl | hE
    · exact ⟨by omega, hnew⟩
    · exact ⟨(h3 E hE).1, hk E (hlt E hE) (h3 E hE).2⟩

/-- What the way out leaves as it was: all but the marks' boxes. -/
def Shut (B : Nat) (w w' : World) : Prop := Below B w w' ∧ ∀ (k : Nat) (o : Obj), w.heap[k]? = some o → o ≠ Obj.deferred (some []) → w'.heap[k]? = some o
theorem Shut.refl (B : Nat) (w : World) : Shut B w w := ⟨Below.refl _ _, fun _ _ h _ => h⟩
theorem Shut.trans {B : Nat} {a b c : World} (h : Shut B a b) (k : Shut B b c) : Shut B a c := ⟨h.1.trans k.1, fun i o hi ho => k.2 i o (h.2 i o hi ho) ho⟩

theorem Below.putObj' {B : Nat} (w : World) {D : Nat} (o : Obj) (h : B ≤ D) : Below B w (w.putObj D o) :=
  ⟨rfl, rfl, rfl, Nat.le_of_eq World.putObj_size.symm, fun k hk => World.putObj_heap_other (by omega)⟩

theorem leaves_marks {F : Fence} {n : Nat} {P : Program} {fn : Func} {tmps : Array Value} {R : Ending → World → Prop} {B : Nat} : ∀ (Ds : List Nat) (w : World), Ds.Nodup → (∀ D ∈ Ds, B ≤ D ∧ w.heap[D]? = some (Obj.deferred (some []))) →
    (∀ w', Shut B w w' → LeavesIn F n P fn tmps R [] .returning w') → LeavesInM F n P fn tmps R (Ds.map markOf) .returning w
  | [], w, _, _, h => h w (Shut.refl B w)
  | D :: Ds, w, hn, hD, h => by
    obtain ⟨hDn, hn'⟩ := List.nodup_cons.1 hn
    obtain ⟨hBD, hbox⟩ := hD D List.mem_cons_self
    refine ⟨by simp, .inl ⟨D, w.putObj D (.deferred none), rfl, run_takeDeferred hbox, leaves_marks Ds _ hn' (fun E hE => ?_) fun w' hw' => h w' (Shut.trans ?_ hw')⟩⟩
    · obtain ⟨h1, h2⟩ := hD E (List.mem_cons_of_mem _ hE)
      exact ⟨h1, (World.putObj_heap_other (show E ≠ D from fun he => hDn (he ▸ hE))).trans h2⟩
    · refine ⟨Below.putObj' w _ hBD, fun k o hk ho => ?_⟩
      by_cases hkD : k = D
      · subst hkD
        rw [hbox] at hk
        cases hk
        exact absurd rfl ho
      · exact (World.putObj_heap_other hkD).trans hk

/-- The function's end, behind its marks. -/
theorem bodyPostM_ret {F : Fence} {n : Nat} {P : Program} {fn : Func} {a : Act} {w : World} {R : Ending → World → Prop} {B : Nat} (hm : Marks B a.defers w)
    (h : ∀ w', Shut B w w' → ∃ v, (results fn a.tmps).run P w' = .ok v w' ∧ R (.returned v) w') : bodyPostM F n P fn R .ret a w := by
  obtain ⟨Ds, h1, h2, h3⟩ := hm
  show LeavesInM F n P fn a.tmps R a.defers .returning w
  rw [h1]
  exact leaves_marks Ds w h2 h3 h

/-- The frame with some slots' values put in. -/
def patch (t : List Value) (ws : List Nat) (g : Nat → Value) : List Value := ws.foldl (fun t k => t.set k (g k)) t
/-- What a frame holds in a slot. -/
def slot (t : List Value) (k : Nat) : Value := t.getD k undef

theorem slot_other (g : Nat → Value) (k : Nat) : ∀ (ws : List Nat) (t : List Value), k ∉ ws → slot (patch t ws g) k = slot t k
  | [], _, _ => rfl
  | i :: ws, t, hk => by
    show slot (patch (t.set i (g i)) ws g) k = _
    rw [slot_other g k ws _ (fun h => hk (List.mem_cons_of_mem _ h))]
    have : i ≠ k := fun h => hk (h ▸ List.mem_cons_self)
    simp [slot, List.getD_eq_getElem?_getD, List.getElem?_set, this]
theorem slot_patch (g : Nat → Value) : ∀ (ws : List Nat) (t : List Value), ws.Nodup → (∀ k ∈ ws, k < t.length) → ∀ k ∈ ws, slot (patch t ws g) k = g k
  | [], _, _, _, _, hk => by cases hk
  | j :: ws, t, hn, hl, k, hk => by
    obtain ⟨hj, hn'⟩ := List.nodup_cons.1 hn
    show slot (patch (t.set j (g j)) ws g) k = g k
    by_cases hkw : k ∈ ws
    · exact slot_patch g ws _ hn' (fun i hi => by simpa using hl i (List.mem_cons_of_mem _ hi)) k hkw
    · have hkj : k = j := by
        rcases List.mem_cons.1 hk with h | h
        · exact h
        · exact absurd h hkw
      subst hkj
      rw [slot_other g k ws _ hkw]
      have := hl k List.mem_cons_self
      simp [slot, List.getD_eq_getElem?_getD, this]

/-- A loop whose frame may change in the slots ws and in its marks. -/
theorem wpIn_loop_marks {F : Fence} {n : Nat} {P : Program} {c : Code} {Q : Exit → Act → World → Prop} {t : List Value} {ds : List Deferred} {w : World} (ws : List Nat)
    (Rel : (Nat → Value) → List Deferred → World → Prop) (μ : (Nat → Value) → World → Nat) (ht : t = patch t ws (slot t)) (h0 : Rel (slot t) ds w)
    (round : ∀ (g : Nat → Value) (ds' : List Deferred) (wr : World) (K : Act → World → Prop), Rel g ds' wr →
      (∀ (t' : List Value) (ds'' : List Deferred) (w' : World), t' = patch t ws (slot t') → Rel (slot t') ds'' w' → μ (slot t') w' < μ g wr → K { tmps := t'.toArray, defers := ds'' } w') →
      c.wpIn F n P (Exit.then K Q) { tmps := (patch t ws g).toArray, defers := ds' } wr)
    (hμ : ∀ g g' w, (∀ k ∈ ws, g k = g' k) → μ g w = μ g' w) (hws : ws.Nodup) (N : Nat) (hN : t.length = N) (hlt : ∀ k ∈ ws, k < N) :
    (Code.loop c).wpIn F n P Q { tmps := t.toArray, defers := ds } w := by
  refine wpIn_loop (fun a' w' => ∃ g, a'.tmps = (patch t ws g).toArray ∧ Rel g a'.defers w') (fun a' w' => μ (slot a'.tmps.toList) w') ⟨_, by rw [← ht], h0⟩ ?_
  rintro ⟨t1, ds1⟩ w1 ⟨g, h1, h2⟩
  simp only at h1 h2
  subst h1
  refine round g ds1 w1 _ h2 fun t' ds'' w' ht' hr hm => ⟨⟨_, by rw [← ht'], hr⟩, ?_⟩
  have : μ (slot (patch t ws g)) w1 = μ g w1 := hμ _ _ _ fun k hk => slot_patch g ws t hws (fun k hk => hN ▸ hlt k hk) k hk
  simp only
  rw [this]
  exact hm
end Go.Proofs.Ytdinknpagklkjaa

/- What a call or a range leaves as it was: all blocks but some. Conditions: none. -/
namespace Go.Proofs.Ytdinknpagklkjaa
open Go.RowKit Go.Shelf

/-- Of what lay in W0 nothing has turned but the blocks ex. -/
structure Held (ex : List Nat) (W0 W : World) : Prop where
  os : W.os = W0.os
  tape : W.tape = W0.tape
  output : W.output = W0.output
  size : W0.heap.size ≤ W.heap.size
  block : ∀ k : Nat, k < W0.heap.size → k ∉ ex → W.heap[k]? = W0.heap[k]?
theorem Held.refl (ex : List Nat) (W : World) : Held ex W W := ⟨rfl, rfl, rfl, Nat.le_refl _, fun _ _ _ => rfl⟩
theorem Held.trans {ex : List Nat} {a b c : World} (h : Held ex a b) (k : Held ex b c) : Held ex a c :=
  ⟨k.os.trans h.os, k.tape.trans h.tape, k.output.trans h.output, Nat.le_trans h.size k.size, fun i hi hx => (k.block i (Nat.lt_of_lt_of_le hi h.size) hx).trans (h.block i hi hx)⟩
theorem Held.below {ex : List Nat} {b : Nat} {a w w' : World} (h : Held ex a w) (k : Below b w w') (hb : w.heap.size ≤ b) : Held ex a w' :=
  ⟨k.os.trans h.os, k.tape.trans h.tape, k.output.trans h.output, Nat.le_trans h.size k.size, fun i hi hx => (k.block i (by have := h.size; omega)).trans (h.block i hi hx)⟩
theorem Held.alloc {ex : List Nat} {a w : World} (h : Held ex a w) (o : Obj) : Held ex a (w.alloc o) := h.below ((Below.refl _ w).alloc (Nat.le_refl _) o) (Nat.le_refl _)
theorem Held.drew {ex : List Nat} {a w : World} (h : Held ex a w) (n : Nat) : Held ex a (w.drewN n) := h.below (below_drewN (Below.refl _ w) n) (Nat.le_refl _)
theorem Held.setCell {ex : List Nat} {a w : World} (h : Held ex a w) {p : Addr} (hp : p.block ∈ ex) (v : Value) : Held ex a (w.setCell p v) :=
  ⟨h.os, h.tape, h.output, by simpa [World.setCell] using h.size, fun k hk hx => (Below.heap_setCell w p v k (fun e => hx (e ▸ hp))).trans (h.block k hk hx)⟩
theorem Held.to {ex : List Nat} {W0 W : World} (h : Held ex W0 W) {B : Nat} (hB : B ≤ W0.heap.size) (hx : ∀ k ∈ ex, B ≤ k) : Below B W0 W :=
  ⟨h.os, h.tape, h.output, h.size, fun k hk => h.block k (by omega) (fun hm => by have := hx k hm; omega)⟩
theorem Held.boxed {ex : List Nat} {W0 W : World} (h : Held ex W0 W) {b : Nat} {t : TypeId} {v : Value} (hb : Boxed W0 b t v) (hx : b ∉ ex) : Boxed W b t v := (h.block b hb.lt hx).trans hb
theorem Held.marks {ex : List Nat} {W0 W : World} (h : Held ex W0 W) {B : Nat} {ds : List Deferred} (hm : Marks B ds W0) (hx : ∀ k ∈ ex, W0.heap[k]? ≠ some (Obj.deferred (some []))) : Marks B ds W :=
  hm.imp fun D hD => (h.block D (lt_of_block hD) (fun hmem => hx D hmem hD)).trans hD
theorem Held.own {β : Type} {ex : List Nat} {W0 : World} : OwnFrom W0.heap.size (fun (_ : β) W => Held ex W0 W) :=
  fun _ X Y row hs hg hr => ⟨hg.os.trans hs.os, hg.tape.trans hs.tape, hg.output.trans hs.output, Nat.le_trans hs.size hg.size, fun k hk hx =>
    (hg.block k (Nat.lt_of_lt_of_le hk hs.size) (fun e => by have := (hr k e.symm).1; omega)).trans (hs.block k hk hx)⟩
theorem Held.drew1 {ex : List Nat} {a w : World} (h : Held ex a w) : Held ex a w.drew := ⟨h.os, h.tape, h.output, h.size, h.block⟩
theorem KeepsFrom.drew {B : Nat} {W W' : World} (h : KeepsFrom B W W') : KeepsFrom B W W'.drew := ⟨h.size, h.same⟩
theorem Boxed.drew {W : World} {b : Nat} {t : TypeId} {v : Value} (h : Boxed W b t v) : Boxed W.drew b t v := h
theorem Boxed.noMark {W : World} {b : Nat} {t : TypeId} {v : Value} (h : Boxed W b t v) : W.heap[b]? ≠ some (Obj.deferred (some [])) := fun e => by
  rw [show W.heap[b]? = _ from h] at e
  cases e
/-- A store to one box; what a round must tell of the world. -/
theorem KeepsFrom.box {B : Nat} {W : World} {b : Nat} {t : TypeId} {v : Value} (h : Boxed W b t v) (u : Value) : KeepsFrom B W (W.setCell ⟨b, 0, none⟩ u) :=
  ⟨by simp [World.setCell], fun k o _ hk ho => by
    refine (Below.heap_setCell W ⟨b, 0, none⟩ u k (fun e => ?_)).trans hk
    have e' : k = b := e
    subst e'
    rw [show W.heap[k]? = _ from h] at hk
    cases hk
    cases ho⟩
theorem KeepsFrom.below {B b : Nat} {W W' : World} (h : Below b W W') (hb : W.heap.size ≤ b) : KeepsFrom B W W' :=
  ⟨h.size, fun k o _ hk _ => (h.block k (Nat.lt_of_lt_of_le (lt_of_block hk) hb)).trans hk⟩

theorem Held.mark {ex : List Nat} {W0 W : World} {B D : Nat} {ds : List Deferred} (h : Held ex W0 W) (hm : Marks B ds W0) (hx : ∀ k ∈ ex, ∃ t v, Boxed W0 k t v) (hB : B ≤ W0.heap.size) (hD : W0.heap.size ≤ D)
    (hd : W.heap[D]? = some (Obj.deferred (some []))) : Marks B ({ target := .collected D, args := #[] } :: ds) W :=
  hm.cons rfl hD hB (fun i hi he => (h.block i hi (fun hmem => by obtain ⟨t, v, hb⟩ := hx i hmem; exact Boxed.noMark hb he)).trans he) hd

theorem Own.pop {α : Type} {w : World} {B c cap g : Nat} {e : TypeId} {f : α → List Value} {l : List α} {x : α} (h : Own w B e c f (some ⟨g, 0, none⟩) cap (l ++ [x])) : Own w B e c f (some ⟨g, 0, none⟩) cap l := by
  have hlen : ∀ l : List α, (l.flatMap f).length = l.length * c := fun l => by
    induction l with
    | nil => simp
    | cons y ys ih => rw [List.flatMap_cons, List.length_append, ih, h.1, List.length_cons, Nat.add_mul]; omega
  refine ⟨h.1, hlen l, ?_⟩
  rcases h.2.2 with ⟨hv, _⟩ | ⟨g', cp, cur, hv, hb, hh, hn, hm, hcs, ht⟩
  · cases hv
  · injection hv with h1 h2 h3
    injection h1 with h1
    injection h1 with h1 _ _
    subst h1 h3
    refine .inr ⟨g, cap, cur, rfl, hb, hh, ?_, hm, hcs, ?_⟩
    · rw [List.length_append] at hn; omega
    · have h4 := congrArg (List.take (l.length * c)) ht
      rw [List.take_take, List.flatMap_append] at h4
      rw [List.take_left' (hlen l)] at h4
      rw [← h4]
      congr 1
      rw [List.length_append, Nat.add_mul]
      omega
theorem KeepsFrom.held {B : Nat} {ex : List Nat} {W W' : World} (h : Held ex W W') (hx : ∀ k ∈ ex, ∀ o : Obj, W.heap[k]? = some o → o.isCells = true) : KeepsFrom B W W' :=
  ⟨h.size, fun k o _ hk ho => by
    by_cases hm : k ∈ ex
    · rw [hx k hm o hk] at ho
      cases ho
    · exact (h.block k (lt_of_block hk) hm).trans hk⟩
theorem Held.mono {ex ex' : List Nat} {W W' : World} (h : Held ex W W') (hs : ∀ k ∈ ex, k < W.heap.size → k ∈ ex') : Held ex' W W' :=
  ⟨h.os, h.tape, h.output, h.size, fun k hk hx => h.block k hk (fun hm => hx (hs k hm hk))⟩
theorem Held.then {ex ex' : List Nat} {a b c : World} (h : Held ex a b) (k : Held ex' b c) (hs : ∀ i ∈ ex', i < a.heap.size → i ∈ ex) : Held ex a c :=
  ⟨k.os.trans h.os, k.tape.trans h.tape, k.output.trans h.output, Nat.le_trans h.size k.size, fun i hi hx => (k.block i (Nat.lt_of_lt_of_le hi h.size) (fun hm => hx (hs i hm hi))).trans (h.block i hi hx)⟩
theorem Blk.held {ex : List Nat} {W W' : World} {g : Nat} {t : TypeId} {cs : Array Value} (h : Held ex W W') (hk : Blk W g t cs) (hg : g ∉ ex) : Blk W' g t cs := (h.block g hk.lt hg).trans hk
theorem Blk.isCells {W : World} {g : Nat} {t : TypeId} {cs : Array Value} (hk : Blk W g t cs) (o : Obj) (h : W.heap[g]? = some o) : o.isCells = true := by
  unfold Blk at hk
  rw [hk] at h
  cases h
  rfl
theorem Own.isCells {α : Type} {w : World} {B c cap g : Nat} {e : TypeId} {f : α → List Value} {l : List α} (h : Own w B e c f (some ⟨g, 0, none⟩) cap l) (o : Obj) (ho : w.heap[g]? = some o) : o.isCells = true := by
  rcases h.2.2 with ⟨hv, _⟩ | ⟨g', cp, cur, hv, hb, hh, _⟩
  · cases hv
  · injection hv with h1 h2 h3
    injection h1 with h1
    injection h1 with h1 _ _
    subst h1
    rw [hh] at ho
    cases ho
    rfl
theorem own_blk_ne {α : Type} {w : World} {B c cap g k : Nat} {e t : TypeId} {f : α → List Value} {l : List α} {cs : Array Value} (h : Own w B e c f (some ⟨g, 0, none⟩) cap l) (hk : Blk w k t cs) (hne : e ≠ t) : g ≠ k := fun he => by
  subst he
  rcases h.2.2 with ⟨hv, _⟩ | ⟨g', cp, cur, hv, hb, hh, _⟩
  · cases hv
  · injection hv with h1 h2 h3
    injection h1 with h1
    injection h1 with h1 _ _
    subst h1
    unfold Blk at hk
    rw [hh] at hk
    injection hk with hk
    injection hk with h1 h2 h3
    exact hne h2
theorem own_lt {α : Type} {w : World} {B c cap g : Nat} {e : TypeId} {f : α → List Value} {l : List α} (h : Own w B e c f (some ⟨g, 0, none⟩) cap l) : B ≤ g ∧ g < w.heap.size := h.lt g rfl
theorem own_held {α : Type} {ex : List Nat} {w w' : World} {B c cap g : Nat} {e : TypeId} {f : α → List Value} {l : List α} (h : Own w B e c f (some ⟨g, 0, none⟩) cap l) (hh : Held ex w w') (hg : g ∉ ex) : Own w' B e c f (some ⟨g, 0, none⟩) cap l := by
  have hlt := (own_lt h).2
  refine ⟨h.1, h.2.1, ?_⟩
  rcases h.2.2 with ⟨hv, _⟩ | ⟨g', cp, cur, hv, hb, hb2, r⟩
  · cases hv
  · have hgg : g = g' := by
      injection hv with h1 h2 h3
      injection h1 with h1
      injection h1
    subst hgg
    exact .inr ⟨g, cp, cur, hv, hb, (hh.block g hlt hg).trans hb2, r⟩
end Go.Proofs.Ytdinknpagklkjaa

/- append inside a fence; what a range over a function keeps of slices and blocks. Conditions: none. -/
namespace Go.Proofs.Ytdinknpagklkjaa
open Go.RowKit Go.Shelf

theorem wpListIn_append_run {F : Fence} {n : Nat} {P : Program} {ops : Array Oper} {rest : List Oper} {o : Oper} {a : Act} {w : World} {Q : Exit → Act → World → Prop} (hgd : o.guard = none) (s x : Operand) (t : TypeId) (hop : o.op = .call { callee := .builtin .append, args := #[s, x], argTypes := #[t, t] })
    (vs vx v' : Value) (w' : World) (hs : a.eval s = vs) (hx : a.eval x = vx) (hrun : (Builtin.append_ #[t, t] o.type #[vs, vx]).run P w = .ok v' w') (h : wpListIn F n P ops Q rest (a.put o.dst v') w') :
    wpListIn F n P ops Q (o :: rest) a w := by
  refine wpListIn_plain hgd fun K hK' => ?_
  unfold Oper.wpIn
  refine ⟨?_, ?_⟩
  · simp [Oper.about, hop, resolve, Target.leads, Sem.run_pure]
  · rw [Oper.semAt_plain F _ _ (by rw [hop]; intro c hc'; cases hc')]
    simp [execOp, hop, resolve, invoke, builtin, hs, hx, hrun, Result.andThen]
    exact hK' _ _ h
/-- 'append(s, xs...)', xs a slice that reads as a list, inside a fence. -/
theorem wpListIn_append_els {F : Fence} {n0 : Nat} {P : Program} {ops : Array Oper} {rest : List Oper} {o : Oper} {a : Act} {Q : Exit → Act → World → Prop} {α : Type} (hgd : o.guard = none) (s x : Operand) (t : TypeId) (ho : o.op = .call { callee := .builtin .append, args := #[s, x], argTypes := #[t, t] })
    (B c : Nat) (e : TypeId) (z : Value) (bytes : Nat) (ht : P.underlying t = some (.slice e)) (hI : (P.info? e).map (fun i => (i.zero, i.size, i.bytes)) = some (some z, c, bytes)) (hz1 : z.cells.size = c) (hc : 0 < c)
    (f : α → List Value) (w : World) (A : Option Addr) (n cap : Nat) (l : List α) (hl : l.length = n) (hs : a.eval s = .slice A n cap) (hown : Own w B e c f A cap l)
    (X : Option Addr) (m cx : Nat) (xs : List α) (hm : xs.length = m) (hx : a.eval x = .slice X m cx) (BX : Nat) (hX : Els w BX c f X xs) (h1 : ∀ u ∈ xs.flatMap f, u.oneCell' = true)
    (h63 : n + m ≤ maxLen) (hn : (n + m) * bytes ≤ 140737488355328) (hB : B ≤ w.heap.size)
    (h : ∀ (A' : Option Addr) (cap' : Nat) (w' : World), Own w' B e c f A' cap' (l ++ xs) → w.grownBy w' (blkOf A) → (blkOf A' = blkOf A ∨ blkOf A' = some w.heap.size) → wpListIn F n0 P ops Q rest (a.put o.dst (.slice A' (n + m) cap')) w') :
    wpListIn F n0 P ops Q (o :: rest) a w := by
  obtain ⟨A', cap', w', hrun, h2, h3, h4⟩ := run_append_els (P := P) t o.type B c e z bytes ht hI hz1 hc f w A n cap l hl hown X m cx xs hm BX hX h1 h63 hn hB
  exact wpListIn_append_run hgd s x t ho _ _ _ _ hs hx hrun (h A' cap' w' h2 h3 h4)
theorem wpListIn_push {F : Fence} {n0 : Nat} {P : Program} {ops : Array Oper} {rest : List Oper} {o : Oper} {a : Act} {Q : Exit → Act → World → Prop} {α : Type} (hgd : o.guard = none) (s x : Operand) (t : TypeId) (ho : o.op = .call { callee := .builtin .append, args := #[s, x], argTypes := #[t, t] })
    (B c : Nat) (e : TypeId) (z : Value) (bytes : Nat) (ht : P.underlying t = some (.slice e)) (hI : (P.info? e).map (fun i => (i.zero, i.size, i.bytes)) = some (some z, c, bytes)) (hz1 : z.cells.size = c) (hc : 0 < c)
    (f : α → List Value) (W : World) (ys : Array Value) (A : Option Addr) (n cap : Nat) (l : List α) (hl : l.length = n) (hs : a.eval s = .slice A n cap) (hown : Own W B e c f A cap l)
    (m : Nat) (xs : List α) (hm : xs.length = m) (hys : ys.toList = xs.flatMap f) (S : Nat) (hx : a.eval x = .slice (some ⟨S, 0, none⟩) m m) (hS : W.heap.size = S) (h1 : ∀ u ∈ ys.toList, u.oneCell' = true)
    (h63 : n + m ≤ maxLen) (hn : (n + m) * bytes ≤ 140737488355328) (hB : B ≤ S)
    (h : ∀ (A' : Option Addr) (cap' : Nat) (w' : World), Own w' B e c f A' cap' (l ++ xs) → (W.alloc (.cells ys e)).grownBy w' (blkOf A) → (blkOf A' = blkOf A ∨ blkOf A' = some (S + 1)) → wpListIn F n0 P ops Q rest (a.put o.dst (.slice A' (n + m) cap')) w') :
    wpListIn F n0 P ops Q (o :: rest) a (W.alloc (.cells ys e)) := by
  subst hS
  refine wpListIn_append_els hgd s x t ho B c e z bytes ht hI hz1 hc f _ A n cap l hl hs (hown.alloc _) _ m m xs hm hx (W.alloc (.cells ys e)).heap.size (els_of_blk (Blk.new W e ys) c f hown.1 xs hys) (by rw [← hys]; exact h1) h63 hn (by rw [size_alloc']; omega) (fun A' cap' w' o g e => h A' cap' w' o g (by rwa [size_alloc'] at e))

/-- What the range's own bookkeeping leaves as it was. -/
theorem own_kept {α : Type} {X Y : World} {B c cap : Nat} {e : TypeId} {f : α → List Value} {A : Option Addr} {l : List α} {row : Option Nat} (h : Own X B e c f A cap l) (hg : X.grownBy Y row) (hrow : ∀ r, row = some r → ∃ o : Obj, X.heap[r]? = some o ∧ o.isCells = false) : Own Y B e c f A cap l := by
  refine h.kept hg ?_
  rcases h.2.2 with ⟨hv, _⟩ | ⟨g, cp, cur, hv, _, hh, _⟩
  · injection hv with hv
    rw [hv]
    exact .inl rfl
  · injection hv with hv
    subst hv
    refine .inr fun he => ?_
    obtain ⟨o, ho, hc⟩ := hrow g he.symm
    rw [hh] at ho
    cases ho
    cases hc
theorem blk_kept {X Y : World} {g : Nat} {t : TypeId} {cs : Array Value} {row : Option Nat} (h : Blk X g t cs) (hg : X.grownBy Y row) (hrow : ∀ r, row = some r → ∃ o : Obj, X.heap[r]? = some o ∧ o.isCells = false) : Blk Y g t cs := by
  refine h.grown hg fun he => ?_
  obtain ⟨o, ho, hc⟩ := hrow g he.symm
  unfold Blk at h
  rw [h] at ho
  cases ho
  cases hc
theorem KeepsFrom.own {α : Type} {B0 : Nat} {W w4 : World} {B c cap : Nat} {e : TypeId} {f : α → List Value} {A : Option Addr} {l : List α} (h : Own W B e c f A cap l) (hg : W.grownBy w4 (blkOf A)) : KeepsFrom B0 W w4 := by
  refine ⟨hg.size, fun k o _ hk ho => ?_⟩
  refine (hg.block k (lt_of_block hk) ?_).trans hk
  intro he
  rcases h.2.2 with ⟨hv, _⟩ | ⟨g, cp, cur, hv, _, hh, _⟩
  · injection hv with hv
    rw [hv] at he; cases he
  · injection hv with hv
    subst hv
    have hkg : k = g := by simpa [blkOf] using he
    subst hkg
    rw [hh] at hk
    cases hk
    cases ho
theorem Own.shut {α : Type} {X Y : World} {B c cap b : Nat} {e : TypeId} {f : α → List Value} {A : Option Addr} {l : List α} (h : Own X B e c f A cap l) (hs : Shut b X Y) : Own Y B e c f A cap l := by
  refine ⟨h.1, h.2.1, ?_⟩
  rcases h.2.2 with hn | ⟨g, cp, cur, hv, hb, hh, r⟩
  · exact .inl hn
  · exact .inr ⟨g, cp, cur, hv, hb, hs.2 g _ hh (fun h => by cases h), r⟩
theorem Blk.shut {X Y : World} {b g : Nat} {t : TypeId} {cs : Array Value} (h : Blk X g t cs) (hs : Shut b X Y) : Blk Y g t cs := hs.2 g _ h (fun h => by cases h)
theorem Held.grown {ex : List Nat} {a w w' : World} {row : Option Nat} (h : Held ex a w) (hg : w.grownBy w' row) (hr : ∀ g, row = some g → a.heap.size ≤ g) : Held ex a w' :=
  ⟨hg.os.trans h.os, hg.tape.trans h.tape, hg.output.trans h.output, Nat.le_trans h.size hg.size, fun k hk hx => (hg.block k (Nat.lt_of_lt_of_le hk h.size) (fun e => by have := hr k e.symm; omega)).trans (h.block k hk hx)⟩
end Go.Proofs.Ytdinknpagklkjaa

/- append to a slice that is cut to its length: a new row; the cut 's[:len(s):len(s)]'. Conditions: ints. -/
namespace Go.Proofs.Ytdinknpagklkjaa
open Go.RowKit Go.Shelf

theorem els_kept {α : Type} {f : α → List Value} {X Y : World} {row : Option Nat} {R : Option Addr} {l : List α} {c : Nat} (hf : ∀ a, (f a).length = c) (hc0 : 0 < c) (h : Els X X.heap.size c f R l) (hg : X.grownBy Y row) (hrow : ∀ r, row = some r → ∃ o : Obj, X.heap[r]? = some o ∧ o.isCells = false) : Els Y Y.heap.size c f R l := fun h0 => by
  obtain ⟨b, off, e, hb, hc⟩ := h h0
  have hne : some b ≠ row := fun he => by
    obtain ⟨o, ho, hcl⟩ := hrow b he.symm
    have hx := hc 0 l[0] (by rw [List.getElem?_eq_getElem h0]) 0 ((f l[0])[0]'(by rw [hf]; exact hc0)) (by rw [List.getElem?_eq_getElem])
    unfold World.cell? at hx
    simp only [ho] at hx
    cases o <;> first | (cases hcl; done) | (cases hx; done)
  refine ⟨b, off, e, Nat.lt_of_lt_of_le hb hg.size, fun k a ha j u hu => ?_⟩
  have := hc k a ha j u hu
  unfold World.cell? at this ⊢
  rw [hg.block b hb hne]
  exact this

theorem els_shut {α : Type} {f : α → List Value} {X Y : World} {B : Nat} {R : Option Addr} {l : List α} {c : Nat} (hf : ∀ a, (f a).length = c) (hc0 : 0 < c) (h : Els X X.heap.size c f R l) (hs : Shut B X Y) : Els Y Y.heap.size c f R l := fun h0 => by
  obtain ⟨b, off, e, hb, hc⟩ := h h0
  have hx := hc 0 l[0] (by rw [List.getElem?_eq_getElem h0]) 0 ((f l[0])[0]'(by rw [hf]; exact hc0)) (by rw [List.getElem?_eq_getElem])
  unfold World.cell? at hx
  cases ho : X.heap[b]? with
  | none => simp only [ho] at hx; cases hx
  | some o =>
    have hne : o ≠ Obj.deferred (some []) := fun he => by
      subst he
      simp only [ho] at hx
      cases hx
    have hy := hs.2 b o ho hne
    refine ⟨b, off, e, Nat.lt_of_lt_of_le hb hs.1.size, fun k a ha j u hu => ?_⟩
    have := hc k a ha j u hu
    unfold World.cell? at this ⊢
    rw [hy, ← ho]
    exact this
theorem els_far {w : World} {R : Option Addr} {l : List Int} {g : Nat} {t : TypeId} {sv : Value} (h : Els w w.heap.size 1 icell R l) (hk : Blk w g t #[sv]) (hne : ∀ z, sv ≠ .int .i64 z) (v : Value) : Els (w.setCell ⟨g, 0, none⟩ v) (w.setCell ⟨g, 0, none⟩ v).heap.size 1 icell R l := fun h0 => by
  obtain ⟨b, off, e, hb, hc⟩ := h h0
  have hbg : b ≠ g := by
    rintro rfl
    have hx := hc 0 l[0] (by rw [List.getElem?_eq_getElem h0]) 0 _ rfl
    rw [hk.cell] at hx
    rw [show off + 0 * 1 + 0 = off from by omega] at hx
    cases off with
    | zero => simp at hx; exact hne _ hx
    | succ o => simp at hx
  refine ⟨b, off, e, by simpa [World.setCell] using hb, fun k a ha j u hu => ?_⟩
  have := hc k a ha j u hu
  unfold World.cell? at this ⊢
  rw [Below.heap_setCell w ⟨g, 0, none⟩ v b hbg]
  exact this
theorem wp_append_run {P : Program} {o : Oper} {a : Act} {w : World} {K : Act → World → Prop} {Q : Exit → Act → World → Prop} (s x : Operand) (t : TypeId) (ho : o.op = .call { callee := .builtin .append, args := #[s, x], argTypes := #[t, t] })
    (vs vx : Value) (hs : a.eval s = vs) (hx : a.eval x = vx) (v' : Value) (w' : World) (hrun : (Builtin.append_ #[t, t] o.type #[vs, vx]).run P w = .ok v' w') (h : K (a.put o.dst v') w') : o.wp P a w K Q := by
  unfold Oper.wp execOp
  simp only [ho, resolve, invoke, builtin, Sem.run_bind, Sem.run_pure, Result.andThen_ok, List.map_toArray, List.map_cons, List.map_nil, hs, hx, hrun]
  exact h
theorem run_cut_full {P : Program} {t e : TypeId} (ht : P.underlying t = some (.slice e)) {s : Nat} (hs : ∀ w, (sizeOf e).run P w = .ok s w) (A : Option Addr) (m cap : Nat) (hm : m ≤ cap) (w : World) :
    (Instr.slice t (.slice A m cap) none (some (.int .i64 m)) (some (.int .i64 m))).run P w = .ok (.slice A m m) w := by
  have h1 : (0 : Int) ≤ (m : Int) ∧ (m : Int) ≤ (cap : Int) := by omega
  have h2 : (0 : Int) ≤ (m : Int) ∧ (m : Int) ≤ (m : Int) := by omega
  have ha : ∀ p : Addr, p.add 0 = p := fun p => by simp [Addr.add]
  have hA : (if m = 0 then A else A.map (·.add 0)) = A := by
    cases A <;> simp [ha]
  simp [Instr.slice, run_underlying ht, Instr.sliceBounds, Instr.sliceBound, asIntOf, hm, hs, Result.andThen]
  cases A <;> simp [ha]
theorem run_push_full {P : Program} {t ty e : TypeId} {i : TypeInfo} (ht : P.underlying t = some (.slice e)) (hi : P.info? e = some i) (hz : i.zero = some (.int .i64 0)) (hs1 : i.size = 1) (hby : i.bytes = 8)
    (A : Option Addr) (m : Nat) (l : List Int) (hl : l.length = m) (hm : m ≤ 64) (h0 : m = 0 → A = none) (w : World) (BA : Nat) (hr : Els w BA 1 icell A l) (S : Nat) (x : Int) (hx : w.cell? ⟨S, 0, none⟩ = some (.int .i64 x)) :
    ∃ (cap : Nat) (w' : World), (Builtin.append_ #[t, t] ty #[.slice A m m, .slice (some ⟨S, 0, none⟩) 1 1]).run P w = .ok (.slice (some ⟨w.heap.size, 0, none⟩) (m + 1) cap) w' ∧ m + 1 ≤ cap ∧ Below w.heap.size w w' ∧ w'.heap.size = w.heap.size + 1 ∧
      Els w' w'.heap.size 1 icell (some ⟨w.heap.size, 0, none⟩) (l ++ [x]) := by
  have fin : ∀ (w1 : World) (ys : Array Value), w1.heap.size = w.heap.size → (∀ (k : Nat) (a : Int), (l ++ [x])[k]? = some a → ys[k]? = some (Value.int .i64 a)) → Els (w1.alloc (.cells ys e)) (w1.alloc (.cells ys e)).heap.size 1 icell (some ⟨w.heap.size, 0, none⟩) (l ++ [x]) := by
    intro w1 ys hsz hys _
    refine ⟨w.heap.size, 0, rfl, by rw [size_alloc', hsz]; omega, fun k a ha j u hu => ?_⟩
    have hk := Blk.new w1 e ys
    rw [hsz] at hk
    cases j with
    | zero =>
      simp only [List.getElem?_cons_zero, Option.some.injEq] at hu
      subst hu
      have := hk.cell (k * 1)
      rw [show 0 + k * 1 + 0 = k * 1 from by omega, this, Nat.mul_one]
      exact hys k a ha
    | succ j => simp at hu
  have hcapB : ∀ need old bytes, need ≤ 65 → old < need → bytes = 8 → Builtin.nextslicecap need old * bytes ≤ 281474976710656 := fun need old bytes h1 h2 h3 => growslice_fits h2 (by subst h3; omega)
  have hnews : ∀ j v, [Value.int .i64 x][j]? = some v → w.cell? ((⟨S, 0, none⟩ : Addr).add j) = some v := fun j v hv => by
    cases j with
    | zero =>
      simp at hv
      subst hv
      rw [addr_add]
      exact hx
    | succ j => simp at hv
  have hb : ∀ o, Below w.heap.size w (w.drew.alloc o) := fun o => (Below.refl _ w).drew.alloc (Nat.le_refl _) o
  rcases Nat.eq_zero_or_pos m with hm0 | hmp
  · have hA := h0 hm0
    subst hA hm0
    have hln : l = [] := List.length_eq_zero_iff.1 hl
    subst hln
    refine ⟨_, _, run_append_nil w t ty e i _ ht hi hz ⟨S, 0, none⟩ 1 1 [.int .i64 x] (by rw [hs1]; rfl) hnews (by omega) (by omega) (by rw [hby]; omega), ?_, hb _, size_alloc' _ _, ?_⟩
    · exact grownCap_ge _ _ _ _
    · refine fin w.drew _ rfl fun k a ha => ?_
      cases k with
      | zero => simp at ha; subst ha; first | rfl | (rw [Array.getElem?_append_left (by simp)]; rfl)
      | succ k => simp at ha
  · obtain ⟨b, off, rfl, hbb, hc⟩ := hr (by omega)
    have holds : ∀ j v, (l.map fun a => Value.int .i64 a)[j]? = some v → w.cell? ((⟨b, off, none⟩ : Addr).add j) = some v := fun j v hv => by
      rw [List.getElem?_map] at hv
      cases hlj : l[j]? with
      | none => rw [hlj] at hv; cases hv
      | some a =>
        rw [hlj] at hv
        simp at hv
        subst hv
        have := hc j a hlj 0 _ rfl
        rw [addr_add]
        rwa [Nat.mul_one, Nat.add_zero] at this
    refine ⟨_, _, run_append_grow w t ty e i _ ht hi hz ⟨b, off, none⟩ m m (l.map fun a => Value.int .i64 a) (by rw [hs1, List.length_map, hl, Nat.mul_one]) holds ⟨S, 0, none⟩ 1 1 [.int .i64 x] (by rw [hs1]; rfl) hnews (by omega) (by omega) (by rw [hby]; exact hcapB _ _ _ (by omega) (by omega) rfl), ?_, hb _, size_alloc' _ _, ?_⟩
    · exact grownCap_ge _ _ _ _
    · refine fin w.drew _ rfl fun k a ha => ?_
      have hka : (l.map (fun a => Value.int .i64 a) ++ [Value.int .i64 x])[k]? = some (.int .i64 a) := by
        have := congrArg (Option.map fun a => Value.int .i64 a) ha
        rw [← List.getElem?_map] at this
        simpa using this
      rw [Array.getElem?_append_left (by
        have := (List.getElem?_eq_some_iff.1 ha).1
        simpa using this)]
      simpa using hka
end Go.Proofs.Ytdinknpagklkjaa

/- A slice's tail, as the model cuts it. Conditions: none. -/
namespace Go.Proofs.Ytdinknpagklkjaa
open Go.RowKit

theorem run_tail {P : Program} {t e : TypeId} (ht : P.underlying t = some (.slice e)) (hs : ∀ w, (sizeOf e).run P w = .ok 1 w) (A : Option Addr) (m cap k : Nat) (hk : k ≤ m) (hm : m ≤ cap) (hb : m < 2 ^ 62) (w : World) :
    (Instr.slice t (.slice A m cap) (some (.int .i64 (k : Int))) none none).run P w = .ok (.slice (if cap = k then A else A.map (·.add (k * 1))) (m - k) (cap - k)) w := by
  have h1 : (0 : Int) ≤ (k : Int) ∧ (k : Int) ≤ (m : Int) := by omega
  have h2 : (0 : Int) ≤ (m : Int) ∧ (m : Int) ≤ (cap : Int) := by omega
  simp [Instr.slice, run_underlying ht, Instr.sliceBounds, Instr.sliceBound, asIntOf, hk, hm, hs, Result.andThen]
  done
end Go.Proofs.Ytdinknpagklkjaa

/- First fit in plain Lean: what lies in a box, the box that a thing goes into, all things in an order. Conditions: none. -/
namespace Go.Proofs.Ytdinknpagklkjaa

/-- What is in box j, of the first k. -/
def inTo (sz R : List Int) (j : Int) : Nat → Int
  | 0 => 0
  | k + 1 => inTo sz R j k + if R.getD k 0 = j then sz.getD k 0 else 0
def inB (sz R : List Int) (j : Int) : Int := inTo sz R j R.length
theorem inTo_set (sz R : List Int) (j b : Int) (i : Nat) (hi : i < R.length) (hne : R.getD i 0 ≠ j) : ∀ k, inTo sz (R.set i b) j k = inTo sz R j k + if i < k ∧ b = j then sz.getD i 0 else 0
  | 0 => by simp [inTo]
  | k + 1 => by
    rw [inTo, inTo, inTo_set sz R j b i hi hne k]
    by_cases hik : i = k
    · subst hik
      have h1 : (R.set i b).getD i 0 = b := by simp [List.getD_eq_getElem?_getD, hi]
      rw [h1]
      repeat' split
      all_goals omega
    · have h1 : (R.set i b).getD k 0 = R.getD k 0 := by simp [List.getD_eq_getElem?_getD, List.getElem?_set, hik]
      rw [h1]
      repeat' split
      all_goals omega
theorem inTo_none (sz R : List Int) (j : Int) : ∀ k, (∀ i, i < k → R.getD i 0 ≠ j) → inTo sz R j k = 0
  | 0, _ => rfl
  | k + 1, h => by
    rw [inTo, inTo_none sz R j k (fun i hi => h i (by omega)), if_neg (h k (by omega))]
    rfl
theorem inTo_bounds (sz R : List Int) (j M : Int) (hs : ∀ i, 0 ≤ sz.getD i 0 ∧ sz.getD i 0 ≤ M) : ∀ k, 0 ≤ inTo sz R j k ∧ inTo sz R j k ≤ M * k
  | 0 => by simp [inTo]
  | k + 1 => by
    have h1 := inTo_bounds sz R j M hs k
    have h2 := hs k
    have h3 : M * ((k + 1 : Nat) : Int) = M * (k : Int) + M := by rw [Int.natCast_add, Int.mul_add]; simp
    rw [inTo, h3]
    split <;> omega
theorem inTo_mono (sz R : List Int) (j M : Int) (hs : ∀ i, 0 ≤ sz.getD i 0 ∧ sz.getD i 0 ≤ M) {k m : Nat} (h : k ≤ m) : inTo sz R j k ≤ inTo sz R j m := by
  induction m with
  | zero =>
    obtain rfl : k = 0 := by omega
    exact Int.le_refl _
  | succ m ih =>
    by_cases hk : k = m + 1
    · subst hk; exact Int.le_refl _
    · have := ih (by omega)
      have := hs m
      rw [inTo]
      split <;> omega
/-- j is the first box with room for x. -/
def IsFit (sz R : List Int) (room x : Int) (j : Nat) : Prop := inB sz R j + x ≤ room ∧ ∀ k : Nat, k < j → room < inB sz R k + x
theorem IsFit.unique {sz R : List Int} {room x : Int} {i j : Nat} (h : IsFit sz R room x i) (h' : IsFit sz R room x j) : i = j := by
  rcases Nat.lt_trichotomy i j with hlt | rfl | hgt
  · have := h'.2 i hlt; have := h.1; omega
  · rfl
  · have := h.2 j hgt; have := h'.1; omega
/-- All of a list of things that have found their box, one after the other. -/
inductive Fits (sz : List Int) (room : Int) : List Int → List Int → List Int → Prop
  | nil (R : List Int) : Fits sz room R [] R
  | cons (R R' : List Int) (i : Nat) (l : List Int) (j : Nat) (h : IsFit sz R room (sz.getD i 0) j) (t : Fits sz room (R.set i j) l R') : Fits sz room R ((i : Int) :: l) R'
theorem Fits.unique {sz : List Int} {room : Int} {R l R1 R2 : List Int} (h : Fits sz room R l R1) (h' : Fits sz room R l R2) : R1 = R2 := by
  generalize hl : l = l' at h'
  induction h generalizing l' R2 with
  | nil R => subst hl; cases h'; rfl
  | cons R R' i l j h t ih =>
    subst hl
    generalize hm : (i : Int) :: l = m at h'
    cases h' with
    | nil => cases hm
    | cons _ _ i' l' j' h2 t2 =>
      injection hm with h3 h4
      have h3 : i = i' := by omega
      subst h3
      subst h4
      have := h.unique h2
      subst this
      exact ih _ rfl t2
theorem Fits.snoc {sz : List Int} {room : Int} {R l R1 : List Int} (h : Fits sz room R l R1) (i j : Nat) (hf : IsFit sz R1 room (sz.getD i 0) j) : Fits sz room R (l ++ [(i : Int)]) (R1.set i j) := by
  induction h with
  | nil R => exact .cons _ _ i _ j hf (.nil _)
  | cons R R' i' l j' h' t ih => exact .cons _ _ i' _ j' h' (ih hf)
/-- Things stand in boxes below m, those not yet placed at -1. -/
structure Placed (n m : Nat) (R : List Int) : Prop where
  len : R.length = n
  lo : ∀ i, i < n → -1 ≤ R.getD i 0
  hi : ∀ i, i < n → R.getD i 0 < m
theorem Placed.empty {n m : Nat} {R : List Int} (h : Placed n m R) (sz : List Int) {j : Nat} (hj : m ≤ j) : inB sz R j = 0 := by
  unfold inB
  rw [h.len]
  exact inTo_none sz R j n fun i hi => by have := h.hi i hi; omega
theorem Placed.set_ {n m : Nat} {R : List Int} (h : Placed n m R) {i j : Nat} (hi : i < n) (hj : j ≤ m) : Placed n (max m (j + 1)) (R.set i j) := by
  refine ⟨by rw [List.length_set, h.len], fun k hk => ?_, fun k hk => ?_⟩
  · by_cases hik : i = k
    · subst hik
      have : (R.set i (j : Int)).getD i 0 = j := by simp [List.getD_eq_getElem?_getD, h.len, hi]
      omega
    · have : (R.set i (j : Int)).getD k 0 = R.getD k 0 := by simp [List.getD_eq_getElem?_getD, List.getElem?_set, hik]
      have := h.lo k hk
      omega
  · by_cases hik : i = k
    · subst hik
      have : (R.set i (j : Int)).getD i 0 = j := by simp [List.getD_eq_getElem?_getD, h.len, hi]
      omega
    · have : (R.set i (j : Int)).getD k 0 = R.getD k 0 := by simp [List.getD_eq_getElem?_getD, List.getElem?_set, hik]
      have := h.hi k hk
      omega
theorem inB_set {n m : Nat} {R : List Int} (h : Placed n m R) (sz : List Int) {i b : Nat} (hi : i < n) (hno : R.getD i 0 = -1) (j : Nat) : inB sz (R.set i b) j = inB sz R j + if b = j then sz.getD i 0 else 0 := by
  unfold inB
  rw [List.length_set, inTo_set sz R j b i (by rw [h.len]; exact hi) (by omega), h.len]
  congr 1
  by_cases hb : b = j
  · rw [if_pos hb, if_pos ⟨hi, by omega⟩]
  · rw [if_neg hb, if_neg (fun h => hb (by omega))]
/-- Which have their box. -/
def filled (R : List Int) : List Int := R.map fun v => if v < 0 then 0 else v
theorem filled_set (R : List Int) (i j : Nat) : filled (R.set i j) = (filled R).set i j := by
  unfold filled
  rw [List.map_set]
  congr 1
theorem filled_all {n m : Nat} {R : List Int} (h : Placed n m R) (hall : ∀ i, i < n → R.getD i 0 ≠ -1) : filled R = R := by
  apply List.ext_getElem (by simp [filled])
  intro i h1 h2
  have hi : i < n := by rw [← h.len]; exact h2
  have e : R.getD i 0 = R[i] := by simp [List.getD_eq_getElem?_getD, h2]
  have := h.lo i hi
  have := hall i hi
  simp only [filled, List.getElem_map]
  rw [if_neg (by rw [← e]; omega)]
/-- The boxes as the program keeps them. -/
structure Boxes (sz R bs : List Int) (n : Nat) : Prop where
  pl : Placed n bs.length R
  sum : ∀ j, j < bs.length → bs.getD j 0 = inB sz R j
theorem getD_set_eq (l : List Int) (i : Nat) (x : Int) (hi : i < l.length) : (l.set i x).getD i 0 = x := by simp [List.getD_eq_getElem?_getD, hi]
theorem getD_set_ne (l : List Int) (i k : Nat) (x : Int) (h : i ≠ k) : (l.set i x).getD k 0 = l.getD k 0 := by simp [List.getD_eq_getElem?_getD, List.getElem?_set, h]
theorem Boxes.into {sz R bs : List Int} {n i j : Nat} (h : Boxes sz R bs n) (hi : i < n) (hj : j < bs.length) (hno : R.getD i 0 = -1) : Boxes sz (R.set i j) (bs.set j (bs.getD j 0 + sz.getD i 0)) n := by
  refine ⟨?_, fun k hk => ?_⟩
  · have := h.pl.set_ (i := i) (j := j) hi (by omega)
    rw [Nat.max_eq_left (by omega)] at this
    rw [List.length_set]
    exact this
  · rw [List.length_set] at hk
    rw [inB_set h.pl sz hi hno]
    by_cases hjk : j = k
    · subst hjk
      rw [getD_set_eq _ _ _ hj, if_pos rfl, h.sum j hj]
    · rw [getD_set_ne _ _ _ _ hjk, if_neg hjk, h.sum k hk]
      omega
theorem Boxes.more {sz R bs : List Int} {n : Nat} (h : Boxes sz R bs n) : Boxes sz R (bs ++ [0]) n := by
  refine ⟨⟨h.pl.len, h.pl.lo, fun i hi => ?_⟩, fun j hj => ?_⟩
  · have := h.pl.hi i hi
    rw [List.length_append]
    simp only [List.length_cons, List.length_nil]
    omega
  · by_cases hb : j < bs.length
    · rw [← h.sum j hb]
      simp [List.getD_eq_getElem?_getD, List.getElem?_append, hb]
    · have hj' : j = bs.length := by simp at hj; omega
      subst hj'
      rw [h.pl.empty sz (Nat.le_refl _)]
      simp [List.getD_eq_getElem?_getD]
theorem idxF_some {α : Type} {p : α → Bool} {l : List α} (h : l.any p = true) : ∃ k, ∃ hk : k < l.length, idxF p l = k ∧ p l[k] = true ∧ ∀ j, ∀ hj : j < k, p (l[j]'(by omega)) = false := by
  obtain ⟨x, hx, hp⟩ := List.any_eq_true.1 h
  have hlt : l.findIdx p < l.length := List.findIdx_lt_length_of_exists ⟨x, hx, hp⟩
  refine ⟨l.findIdx p, hlt, ?_, List.findIdx_getElem (w := hlt), fun j hj => ?_⟩
  · unfold idxF
    rw [if_pos h]
  · have := List.not_of_lt_findIdx hj
    simpa using this
theorem idxF_no {α : Type} {p : α → Bool} {l : List α} (h : l.any p = false) : idxF p l = -1 := by
  unfold idxF
  rw [if_neg (by rw [h]; simp)]
/-- The program's box is the first one with room. -/
theorem Boxes.fit {sz R bs : List Int} {n : Nat} (h : Boxes sz R bs n) (room x : Int) (hx : x ≤ room) :
    (bs.any (fun y => decide (y + x ≤ room)) = false ∧ IsFit sz R room x bs.length) ∨ ∃ k, k < bs.length ∧ idxF (fun y => decide (y + x ≤ room)) bs = k ∧ IsFit sz R room x k := by
  rcases ha : bs.any (fun y => decide (y + x ≤ room)) with _ | _
  · left
    refine ⟨rfl, by rw [h.pl.empty sz (Nat.le_refl _)]; omega, fun k hk => ?_⟩
    have := List.any_eq_false.1 ha bs[k] (List.getElem_mem hk)
    have e : bs.getD k 0 = bs[k] := by simp [List.getD_eq_getElem?_getD, hk]
    rw [← h.sum k hk, e]
    simpa using this
  · right
    obtain ⟨k, hk, h1, h2, h3⟩ := idxF_some ha
    refine ⟨k, hk, h1, ?_, fun j hj => ?_⟩
    · have e : bs.getD k 0 = bs[k] := by simp [List.getD_eq_getElem?_getD, hk]
      rw [← h.sum k hk, e]
      simpa using h2
    · have e : bs.getD j 0 = bs[j]'(by omega) := by simp [List.getD_eq_getElem?_getD, show j < bs.length by omega]
      have := h3 j hj
      rw [← h.sum j (by omega), e]
      simpa using this
def placesL (n : Nat) : List Int := (List.range n).map fun i : Nat => (i : Int)
theorem placesL_length (n : Nat) : (placesL n).length = n := by simp [placesL]
theorem placesL_succ (n : Nat) : placesL (n + 1) = placesL n ++ [(n : Int)] := by simp [placesL, List.range_succ]
theorem placesL_mem {n i : Nat} (h : i < n) : (i : Int) ∈ placesL n := by
  unfold placesL
  exact List.mem_map.2 ⟨i, List.mem_range.2 h, rfl⟩
theorem placesL_get {n k : Nat} (h : k < n) : (placesL n).getD k 0 = k := by simp [placesL, List.getD_eq_getElem?_getD, h]
theorem placesL_nodup (n : Nat) : (placesL n).Nodup := by
  unfold placesL
  refine List.Pairwise.map _ ?_ List.nodup_range
  intro a b h
  omega
end Go.Proofs.Ytdinknpagklkjaa
