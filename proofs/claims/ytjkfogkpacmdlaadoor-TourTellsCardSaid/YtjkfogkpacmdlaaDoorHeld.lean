/- What a range over a function leaves as it was: all blocks but some boxes; the law for a range over the bits of a word that never breaks, and for one that may. -/
import Derived.Test.YtjkfogkpacmdlaaDoorHeldB
import Derived.Test.YtjkfogkpacmdlaaDoorEach
import Derived.Test.YtjkfogkpacmdlaaDoorOwn
namespace Go.Proofs.YtjkfogkpacmdlaaDoor
open Go.RowKit Go.Shelf

theorem KpE.drew {bx : Nat} {t : TypeId} {A B : World} (h : KpE bx t A B) : KpE bx t A B.drew := ⟨fun v hv => h.1 v hv, fun ht => (h.2 ht).block (Nat.le_refl _) rfl⟩

/-- A range over a word's bits whose rounds write the boxes ex alone (the iterator's among them). -/
theorem wpIn_bits {P : Program} {p q : Nat} {g : Operand} {assign body : Code} {Q : Exit → Act → World → Prop} {t : Array Value} {ds : List Deferred} {w : World} (n : Nat) (gf : FuncId) (bx : Nat) (ty : TypeId) (x0 : Value) (xs : List Nat) (ex : List Nat)
    (hg : ({ tmps := t, defers := ds } : Act).eval g = .func (.func gf) #[] #[.pointer (some ⟨bx, 0, none⟩)]) (eg : ∀ args w, (callFunc gf args).run P w = .ok (.enter gf args) w)
    (hseq : SeqE (n - 1) P gf bx ty x0 xs) (hbox : Boxed w bx ty x0) (htab : TabOk w) (hex : bx ∈ ex)
    (I : List Nat → World → Prop) (Ix : Code → List Nat → World → Prop) (hI : Go.Own I) (hIx : ∀ c, Go.Own (Ix c)) (hst : ∀ s A v, I s A → I s (A.setCell ⟨bx, 0, none⟩ v)) (h0 : I [] w)
    (hassign : ∀ (l : Nat) (x : Nat) (W : World) (K : Act → World → Prop), K { tmps := (t.setIfInBounds p (.int .i64 (x : Nat))).setIfInBounds q (.int .i64 (x : Nat)), defers := [] } W →
      assign.wpIn (Fence.wide.inRound l) (n - 1 - 1) P (Exit.then K (fun _ _ _ => False)) { tmps := t.setIfInBounds p (.int .i64 (x : Nat)), defers := [] } W)
    (hbody : ∀ (l : Nat) (pre : List Nat) (x : Nat) (W : World), Held ex w W → I pre W → pre ++ [x] <+: xs → body.wpIn (Fence.wide.inRound l) (n - 1 - 1) P (ownPostG w.heap.size (KpE bx ty) (fun s W => Held ex w W ∧ I s W) (fun c s W => Held ex w W ∧ Ix c s W) (pre ++ [x]) W)
      { tmps := (t.setIfInBounds p (.int .i64 (x : Nat))).setIfInBounds q (.int .i64 (x : Nat)), defers := [] } W)
    (hdone : ∀ (D : Nat) (W : World), w.heap.size ≤ D → Held ex w W → I xs W → W.heap[D]? = some (.deferred (some [])) → Q .normal { tmps := t, defers := { target := .collected D, args := #[] } :: ds } W)
    (hstop : ∀ (D : Nat) (c : Code) (pre : List Nat) (W : World), w.heap.size ≤ D → pre <+: xs → Held ex w W → Ix c pre W → W.heap[D]? = some (.deferred (some [])) → c.wpIn Fence.wide n P Q { tmps := t, defers := { target := .collected D, args := #[] } :: ds } W) :
    (Code.rangeFunc g #[p] assign body).wpIn Fence.wide n P Q { tmps := t, defers := ds } w := by
  refine wpIn_each n gf bx ty x0 xs hg eg hseq rfl hbox.lt hbox htab (fun s W => Held ex w W ∧ I s W) (fun c s W => Held ex w W ∧ Ix c s W) ?_ ?_ ?_ ⟨Held.refl _ _, h0⟩
    (fun x => { tmps := (t.setIfInBounds p (.int .i64 (x : Nat))).setIfInBounds q (.int .i64 (x : Nat)), defers := [] }) ?_ ?_ ?_ ?_
  · exact OwnFrom.and Held.own (Go.Own.from hI _)
  · exact fun c => OwnFrom.and Held.own (Go.Own.from (hIx c) _)
  · exact fun s A v h => ⟨h.1.setCell (p := ⟨bx, 0, none⟩) hex v, hst s A v h.2⟩
  · intro l x W K hK
    have e : (#[p].zip #[Value.int .i64 (x : Nat)]).foldl (fun t (p, v) => t.setIfInBounds p v) t = t.setIfInBounds p (.int .i64 (x : Nat)) := by simp
    have := hassign l x W K hK
    rw [← e] at this
    exact this
  · exact fun l pre x W h hp => hbody l pre x W h.1 h.2 hp
  · exact fun D W hD h hk => hdone D W hD h.1 h.2 hk
  · exact fun D c pre W hD hp h hk => hstop D c pre W hD hp h.1 h.2 hk
end Go.Proofs.YtjkfogkpacmdlaaDoor
