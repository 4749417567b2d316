/- What a call or a range leaves as it was: all blocks but some. Conditions: none. -/
import Derived.Test.YtbbdiondhnmnaaaDoorSpanMany23
import Derived.Test.YtbbdiondhnmnaaaDoorSpanMany5
import Derived.RangeFuncNested
import Derived.RangeFuncBound
import Derived.RangeFuncCalls
import Derived.RangeFuncLeaves
import Derived.Shelf.Abstract
import Derived.Shelf.RegionOpen
import Derived.OwnWalkIn
import Derived.TacticsInMore
import Derived.LoopNIn
import Derived.LoopIn
import Derived.Test.YtbbdiondhnmnaaaDoorSpanMany14
namespace Go.Proofs.YtbbdiondhnmnaaaDoor
open Go.RowKit Go.Shelf

/-- Of what lay in W0 nothing has turned but the blocks ex. -/
structure Held (ex : List Nat) (W0 W : World) : Prop where
  os : W.os = W0.os
  tape : W.tape = W0.tape
  output : W.output = W0.output
  size : W0.heap.size ≤ W.heap.size
  block : ∀ k : Nat, k < W0.heap.size → k ∉ ex → W.heap[k]? = W0.heap[k]?
theorem Held.refl (ex : List Nat) (W : World) : Held ex W W := ⟨rfl, rfl, rfl, Nat.le_refl _, fun _ _ _ => rfl⟩
theorem Held.trans {ex : List Nat} {a b c : World} (h : Held ex a b) (k : Held ex b c) : Held ex a c :=
  ⟨k.os.trans h.os, k.tape.trans h.tape, k.output.trans h.output, Nat.le_trans h.size k.size, fun i hi hx => (k.block i (Nat.lt_of_lt_of_le hi h.size) hx).trans (h.block i hi hx)⟩
theorem Held.below {ex : List Nat} {b : Nat} {a w w' : World} (h : Held ex a w) (k : Below b w w') (hb : w.heap.size ≤ b) : Held ex a w' :=
  ⟨k.os.trans h.os, k.tape.trans h.tape, k.output.trans h.output, Nat.le_trans h.size k.size, fun i hi hx => (k.block i (by have := h.size; omega)).trans (h.block i hi hx)⟩
theorem Held.alloc {ex : List Nat} {a w : World} (h : Held ex a w) (o : Obj) : Held ex a (w.alloc o) := h.below ((Below.refl _ w).alloc (Nat.le_refl _) o) (Nat.le_refl _)
theorem Held.drew {ex : List Nat} {a w : World} (h : Held ex a w) (n : Nat) : Held ex a (w.drewN n) := h.below (below_drewN (Below.refl _ w) n) (Nat.le_refl _)
theorem Held.setCell {ex : List Nat} {a w : World} (h : Held ex a w) {p : Addr} (hp : p.block ∈ ex) (v : Value) : Held ex a (w.setCell p v) :=
  ⟨h.os, h.tape, h.output, by simpa [World.setCell] using h.size, fun k hk hx => (Below.heap_setCell w p v k (fun e => hx (e ▸ hp))).trans (h.block k hk hx)⟩
theorem Held.to {ex : List Nat} {W0 W : World} (h : Held ex W0 W) {B : Nat} (hB : B ≤ W0.heap.size) (hx : ∀ k ∈ ex, B ≤ k) : Below B W0 W :=
  ⟨h.os, h.tape, h.output, h.size, fun k hk => h.block k (by omega) (fun hm => by have := hx k hm; omega)⟩
theorem Held.boxed {ex : List Nat} {W0 W : World} (h : Held ex W0 W) {b : Nat} {t : TypeId} {v : Value} (hb : Boxed W0 b t v) (hx : b ∉ ex) : Boxed W b t v := (h.block b hb.lt hx).trans hb
theorem Held.marks {ex : List Nat} {W0 W : World} (h : Held ex W0 W) {B : Nat} {ds : List Deferred} (hm : Marks B ds W0) (hx : ∀ k ∈ ex, W0.heap[k]? ≠ some (Obj.deferred (some []))) : Marks B ds W :=
  hm.imp fun D hD => (h.block D (lt_of_block hD) (fun hmem => hx D hmem hD)).trans hD
theorem Held.own {β : Type} {ex : List Nat} {W0 : World} : OwnFrom W0.heap.size (fun (_ : β) W => Held ex W0 W) :=
  fun _ X Y row hs hg hr => ⟨hg.os.trans hs.os, hg.tape.trans hs.tape, hg.output.trans hs.output, Nat.le_trans hs.size hg.size, fun k hk hx =>
    (hg.block k (Nat.lt_of_lt_of_le hk hs.size) (fun e => by have := (hr k e.symm).1; omega)).trans (hs.block k hk hx)⟩
theorem Held.drew1 {ex : List Nat} {a w : World} (h : Held ex a w) : Held ex a w.drew := ⟨h.os, h.tape, h.output, h.size, h.block⟩
theorem KeepsFrom.drew {B : Nat} {W W' : World} (h : KeepsFrom B W W') : KeepsFrom B W W'.drew := ⟨h.size, h.same⟩
theorem Boxed.drew {W : World} {b : Nat} {t : TypeId} {v : Value} (h : Boxed W b t v) : Boxed W.drew b t v := h
theorem Boxed.noMark {W : World} {b : Nat} {t : TypeId} {v : Value} (h : Boxed W b t v) : W.heap[b]? ≠ some (Obj.deferred (some [])) := fun e => by
  rw [show W.heap[b]? = _ from h] at e
  cases e
/-- A store to one box; what a round must tell of the world. -/
theorem KeepsFrom.box {B : Nat} {W : World} {b : Nat} {t : TypeId} {v : Value} (h : Boxed W b t v) (u : Value) : KeepsFrom B W (W.setCell ⟨b, 0, none⟩ u) :=
  ⟨by simp [World.setCell], fun k o _ hk ho => by
    refine (Below.heap_setCell W ⟨b, 0, none⟩ u k (fun e => ?_)).trans hk
    have e' : k = b := e
    subst e'
    rw [show W.heap[k]? = _ from h] at hk
    cases hk
    cases ho⟩
theorem KeepsFrom.below {B b : Nat} {W W' : World} (h : Below b W W') (hb : W.heap.size ≤ b) : KeepsFrom B W W' :=
  ⟨h.size, fun k o _ hk _ => (h.block k (Nat.lt_of_lt_of_le (lt_of_block hk) hb)).trans hk⟩

theorem Held.mark {ex : List Nat} {W0 W : World} {B D : Nat} {ds : List Deferred} (h : Held ex W0 W) (hm : Marks B ds W0) (hx : ∀ k ∈ ex, ∃ t v, Boxed W0 k t v) (hB : B ≤ W0.heap.size) (hD : W0.heap.size ≤ D)
    (hd : W.heap[D]? = some (Obj.deferred (some []))) : Marks B ({ target := .collected D, args := #[] } :: ds) W :=
  hm.cons rfl hD hB (fun i hi he => (h.block i hi (fun hmem => by obtain ⟨t, v, hb⟩ := hx i hmem; exact Boxed.noMark hb he)).trans he) hd

theorem Own.pop {α : Type} {w : World} {B c cap g : Nat} {e : TypeId} {f : α → List Value} {l : List α} {x : α} (h : Own w B e c f (some ⟨g, 0, none⟩) cap (l ++ [x])) : Own w B e c f (some ⟨g, 0, none⟩) cap l := by
  have hlen : ∀ l : List α, (l.flatMap f).length = l.length * c := fun l => by
    induction l with
    | nil => simp
    | cons y ys ih => rw [List.flatMap_cons, List.length_append, ih, h.1, List.length_cons, Nat.add_mul]; omega
  refine ⟨h.1, hlen l, ?_⟩
  rcases h.2.2 with ⟨hv, _⟩ | ⟨g', cp, cur, hv, hb, hh, hn, hm, hcs, ht⟩
  · cases hv
  · injection hv with h1 h2 h3
    injection h1 with h1
    injection h1 with h1 _ _
    subst h1 h3
    refine .inr ⟨g, cap, cur, rfl, hb, hh, ?_, hm, hcs, ?_⟩
    · rw [List.length_append] at hn; omega
    · have h4 := congrArg (List.take (l.length * c)) ht
      rw [List.take_take, List.flatMap_append] at h4
      rw [List.take_left' (hlen l)] at h4
      rw [← h4]
      congr 1
      rw [List.length_append, Nat.add_mul]
      omega
theorem KeepsFrom.held {B : Nat} {ex : List Nat} {W W' : World} (h : Held ex W W') (hx : ∀ k ∈ ex, ∀ o : Obj, W.heap[k]? = some o → o.isCells = true) : KeepsFrom B W W' :=
  ⟨h.size, fun k o _ hk ho => by
    by_cases hm : k ∈ ex
    · rw [hx k hm o hk] at ho
      cases ho
    · exact (h.block k (lt_of_block hk) hm).trans hk⟩
theorem Held.mono {ex ex' : List Nat} {W W' : World} (h : Held ex W W') (hs : ∀ k ∈ ex, k < W.heap.size → k ∈ ex') : Held ex' W W' :=
  ⟨h.os, h.tape, h.output, h.size, fun k hk hx => h.block k hk (fun hm => hx (hs k hm hk))⟩
theorem Held.then {ex ex' : List Nat} {a b c : World} (h : Held ex a b) (k : Held ex' b c) (hs : ∀ i ∈ ex', i < a.heap.size → i ∈ ex) : Held ex a c :=
  ⟨k.os.trans h.os, k.tape.trans h.tape, k.output.trans h.output, Nat.le_trans h.size k.size, fun i hi hx => (k.block i (Nat.lt_of_lt_of_le hi h.size) (fun hm => hx (hs i hm hi))).trans (h.block i hi hx)⟩
theorem Blk.held {ex : List Nat} {W W' : World} {g : Nat} {t : TypeId} {cs : Array Value} (h : Held ex W W') (hk : Blk W g t cs) (hg : g ∉ ex) : Blk W' g t cs := (h.block g hk.lt hg).trans hk
theorem Blk.isCells {W : World} {g : Nat} {t : TypeId} {cs : Array Value} (hk : Blk W g t cs) (o : Obj) (h : W.heap[g]? = some o) : o.isCells = true := by
  unfold Blk at hk
  rw [hk] at h
  cases h
  rfl
theorem Own.isCells {α : Type} {w : World} {B c cap g : Nat} {e : TypeId} {f : α → List Value} {l : List α} (h : Own w B e c f (some ⟨g, 0, none⟩) cap l) (o : Obj) (ho : w.heap[g]? = some o) : o.isCells = true := by
  rcases h.2.2 with ⟨hv, _⟩ | ⟨g', cp, cur, hv, hb, hh, _⟩
  · cases hv
  · injection hv with h1 h2 h3
    injection h1 with h1
    injection h1 with h1 _ _
    subst h1
    rw [hh] at ho
    cases ho
    rfl
theorem own_blk_ne {α : Type} {w : World} {B c cap g k : Nat} {e t : TypeId} {f : α → List Value} {l : List α} {cs : Array Value} (h : Own w B e c f (some ⟨g, 0, none⟩) cap l) (hk : Blk w k t cs) (hne : e ≠ t) : g ≠ k := fun he => by
  subst he
  rcases h.2.2 with ⟨hv, _⟩ | ⟨g', cp, cur, hv, hb, hh, _⟩
  · cases hv
  · injection hv with h1 h2 h3
    injection h1 with h1
    injection h1 with h1 _ _
    subst h1
    unfold Blk at hk
    rw [hh] at hk
    injection hk with hk
    injection hk with h1 h2 h3
    exact hne h2
theorem own_lt {α : Type} {w : World} {B c cap g : Nat} {e : TypeId} {f : α → List Value} {l : List α} (h : Own w B e c f (some ⟨g, 0, none⟩) cap l) : B ≤ g ∧ g < w.heap.size := h.lt g rfl
theorem own_held {α : Type} {ex : List Nat} {w w' : World} {B c cap g : Nat} {e : TypeId} {f : α → List Value} {l : List α} (h : Own w B e c f (some ⟨g, 0, none⟩) cap l) (hh : Held ex w w') (hg : g ∉ ex) : Own w' B e c f (some ⟨g, 0, none⟩) cap l := by
  have hlt := (own_lt h).2
  refine ⟨h.1, h.2.1, ?_⟩
  rcases h.2.2 with ⟨hv, _⟩ | ⟨g', cp, cur, hv, hb, hb2, r⟩
  · cases hv
  · have hgg : g = g' := by
      injection hv with h1 h2 h3
      injection h1 with h1
      injection h1
    subst hgg
    exact .inr ⟨g, cp, cur, hv, hb, (hh.block g hlt hg).trans hb2, r⟩
end Go.Proofs.YtbbdiondhnmnaaaDoor

/- What a range over a function leaves as it was: all blocks but some boxes; the law for a range over the bits of a word that never breaks, and for one that may. -/
namespace Go.Proofs.YtbbdiondhnmnaaaDoor
open Go.RowKit Go.Shelf

theorem KpE.drew {bx : Nat} {t : TypeId} {A B : World} (h : KpE bx t A B) : KpE bx t A B.drew := ⟨fun v hv => h.1 v hv, fun ht => (h.2 ht).block (Nat.le_refl _) rfl⟩

/-- A range over a word's bits whose rounds write the boxes ex alone (the iterator's among them). -/
theorem wpIn_bits {P : Program} {p q : Nat} {g : Operand} {assign body : Code} {Q : Exit → Act → World → Prop} {t : Array Value} {ds : List Deferred} {w : World} (n : Nat) (gf : FuncId) (bx : Nat) (ty : TypeId) (x0 : Value) (xs : List Nat) (ex : List Nat)
    (hg : ({ tmps := t, defers := ds } : Act).eval g = .func (.func gf) #[] #[.pointer (some ⟨bx, 0, none⟩)]) (eg : ∀ args w, (callFunc gf args).run P w = .ok (.enter gf args) w)
    (hseq : SeqE (n - 1) P gf bx ty x0 xs) (hbox : Boxed w bx ty x0) (htab : TabOk w) (hex : bx ∈ ex)
    (I : List Nat → World → Prop) (Ix : Code → List Nat → World → Prop) (hI : Go.Own I) (hIx : ∀ c, Go.Own (Ix c)) (hst : ∀ s A v, I s A → I s (A.setCell ⟨bx, 0, none⟩ v)) (h0 : I [] w)
    (hassign : ∀ (l : Nat) (x : Nat) (W : World) (K : Act → World → Prop), K { tmps := (t.setIfInBounds p (.int .i64 (x : Nat))).setIfInBounds q (.int .i64 (x : Nat)), defers := [] } W →
      assign.wpIn (Fence.wide.inRound l) (n - 1 - 1) P (Exit.then K (fun _ _ _ => False)) { tmps := t.setIfInBounds p (.int .i64 (x : Nat)), defers := [] } W)
    (hbody : ∀ (l : Nat) (pre : List Nat) (x : Nat) (W : World), Held ex w W → I pre W → pre ++ [x] <+: xs → body.wpIn (Fence.wide.inRound l) (n - 1 - 1) P (ownPostG w.heap.size (KpE bx ty) (fun s W => Held ex w W ∧ I s W) (fun c s W => Held ex w W ∧ Ix c s W) (pre ++ [x]) W)
      { tmps := (t.setIfInBounds p (.int .i64 (x : Nat))).setIfInBounds q (.int .i64 (x : Nat)), defers := [] } W)
    (hdone : ∀ (D : Nat) (W : World), w.heap.size ≤ D → Held ex w W → I xs W → W.heap[D]? = some (.deferred (some [])) → Q .normal { tmps := t, defers := { target := .collected D, args := #[] } :: ds } W)
    (hstop : ∀ (D : Nat) (c : Code) (pre : List Nat) (W : World), w.heap.size ≤ D → pre <+: xs → Held ex w W → Ix c pre W → W.heap[D]? = some (.deferred (some [])) → c.wpIn Fence.wide n P Q { tmps := t, defers := { target := .collected D, args := #[] } :: ds } W) :
    (Code.rangeFunc g #[p] assign body).wpIn Fence.wide n P Q { tmps := t, defers := ds } w := by
  refine wpIn_each n gf bx ty x0 xs hg eg hseq rfl hbox.lt hbox htab (fun s W => Held ex w W ∧ I s W) (fun c s W => Held ex w W ∧ Ix c s W) ?_ ?_ ?_ ⟨Held.refl _ _, h0⟩
    (fun x => { tmps := (t.setIfInBounds p (.int .i64 (x : Nat))).setIfInBounds q (.int .i64 (x : Nat)), defers := [] }) ?_ ?_ ?_ ?_
  · exact OwnFrom.and Held.own (Go.Own.from hI _)
  · exact fun c => OwnFrom.and Held.own (Go.Own.from (hIx c) _)
  · exact fun s A v h => ⟨h.1.setCell (p := ⟨bx, 0, none⟩) hex v, hst s A v h.2⟩
  · intro l x W K hK
    have e : (#[p].zip #[Value.int .i64 (x : Nat)]).foldl (fun t (p, v) => t.setIfInBounds p v) t = t.setIfInBounds p (.int .i64 (x : Nat)) := by simp
    have := hassign l x W K hK
    rw [← e] at this
    exact this
  · exact fun l pre x W h hp => hbody l pre x W h.1 h.2 hp
  · exact fun D W hD h hk => hdone D W hD h.1 h.2 hk
  · exact fun D c pre W hD hp h hk => hstop D c pre W hD hp h.1 h.2 hk
end Go.Proofs.YtbbdiondhnmnaaaDoor

/- Two rows of different types lie apart. Conditions: none. -/
namespace Go.Proofs.YtbbdiondhnmnaaaDoor
open Go.RowKit

theorem Own.apart {α β : Type} {w : World} {B B' c c' cap cap' : Nat} {e e' : TypeId} {f : α → List Value} {f' : β → List Value} {A A' : Option Addr} {l : List α} {l' : List β} (h : Own w B e c f A cap l) (h' : Own w B' e' c' f' A' cap' l') (hne : e ≠ e') : blkOf A = none ∨ blkOf A ≠ blkOf A' := by
  rcases h.2.2 with ⟨hv, _⟩ | ⟨g, cp, cur, hv, _, hh, _⟩
  · injection hv with hv
    left; rw [hv]; rfl
  · right
    injection hv with hv
    subst hv
    intro he
    rcases h'.2.2 with ⟨hv', _⟩ | ⟨g', cp', cur', hv', _, hh', _⟩
    · injection hv' with hv'
      rw [hv'] at he; cases he
    · injection hv' with hv'
      subst hv'
      have hg : g = g' := by simpa [blkOf] using he
      subst hg
      rw [hh] at hh'
      injection hh' with hh'
      injection hh' with _ h2
      exact hne h2
end Go.Proofs.YtbbdiondhnmnaaaDoor
