/- A range over the bits of a word ('for i := range graph.Each(w)'): what a caller owes. Conditions: the iterator keeps its word in a box of its own. -/
import Derived.RangeFuncNested
import Derived.RangeFuncBound
import Derived.RangeFuncCalls
import Derived.RangeFuncLeaves
import Derived.Shelf.Abstract
import Derived.Shelf.RegionOpen
import Derived.OwnWalkIn
import Derived.TacticsInMore
import Derived.LoopNIn
import Derived.LoopIn
import Derived.Test.YtbbdiondhnmnaaaDoorSpanMany1
import Derived.Test.YtbbdiondhnmnaaaDoorSpanMany3
namespace Go.Proofs.YtbbdiondhnmnaaaDoor
open Go.RowKit Go.Shelf

/-- What a round that goes on keeps: the iterator's box, the table. -/
def KpE (bx : Nat) (t : TypeId) (W W' : World) : Prop := (∀ v, Boxed W bx t v → Boxed W' bx t v) ∧ (TabOk W → TabOk W')
theorem KpE.refl (bx : Nat) (t : TypeId) (W : World) : KpE bx t W W := ⟨fun _ h => h, fun h => h⟩
theorem KpE.trans {bx : Nat} {t : TypeId} {A B C : World} (h : KpE bx t A B) (k : KpE bx t B C) : KpE bx t A C := ⟨fun v hv => k.1 v (h.1 v hv), fun hv => k.2 (h.2 hv)⟩
theorem TabOk.block {w w' : World} (h : TabOk w) (hs : w.heap.size ≤ w'.heap.size) (hb : w'.heap[0]? = w.heap[0]?) : TabOk w' :=
  ⟨Nat.lt_of_lt_of_le h.1 hs, fun j hj => by
    have := h.2 j hj
    unfold World.cell? at this ⊢
    rw [hb]
    exact this⟩
theorem KpE.putObj {bx : Nat} {t : TypeId} (W : World) {l : Nat} (o : Obj) (h1 : bx < l) (h0 : 0 < l) : KpE bx t W (W.putObj l o) :=
  ⟨fun v hv => (World.putObj_heap_other (show bx ≠ l by omega)).trans hv, fun h => h.block (by simp) (World.putObj_heap_other (show 0 ≠ l by omega))⟩
theorem KpE.below {bx : Nat} {t : TypeId} {B : Nat} {W W' : World} (h : Below B W W') (h1 : bx < B) (h0 : 0 < B) : KpE bx t W W' :=
  ⟨fun v hv => (h.block bx h1).trans hv, fun ht => ht.below h h0⟩
theorem KpE.setCell {bx : Nat} {t : TypeId} (W : World) (p : Addr) (u : Value) (h1 : bx ≠ p.block) (h0 : 0 ≠ p.block) : KpE bx t W (W.setCell p u) :=
  ⟨fun v hv => (Below.heap_setCell W p u bx h1).trans hv, fun ht => ht.block (by simp) (Below.heap_setCell W p u 0 h0)⟩

/-- The iterator's word: whatever its caller keeps from round to round, and whatever it keeps as the iterator stores into its own box. -/
def SeqE (n : Nat) (P : Program) (gf : FuncId) (bx : Nat) (t : TypeId) (x0 : Value) (xs : List Nat) : Prop :=
  ∀ (l : Nat) (J Jx : List Nat → World → Prop) (W : World), Boxed W bx t x0 → TabOk W → (∀ s A v, J s A → J s (A.setCell ⟨bx, 0, none⟩ v)) →
    (∀ pre x W1, J pre W1 → pre ++ [x] <+: xs → YieldAt Fence.wide (n - 1) P l #[.int .i64 (x : Nat)] W1 fun e W' =>
      (e = .returned (.bool true) ∧ J (pre ++ [x]) W' ∧ KpE bx t W1 W') ∨ (e = .returned (.bool false) ∧ Jx (pre ++ [x]) W')) →
    J [] W →
    CallsIn Fence.wide n P gf (#[.func (.yield l) #[] #[]] ++ #[.pointer (some ⟨bx, 0, none⟩)]) W fun e W' => (∃ v, e = .returned v) ∧ (J xs W' ∨ ∃ pre, pre <+: xs ∧ Jx pre W')

theorem wpIn_each {P : Program} {g : Operand} {ps : Array Tmp} {assign body : Code} {Q : Exit → Act → World → Prop} {a : Act} {w : World} (n : Nat) (gf : FuncId) (bx : Nat) (t : TypeId) (x0 : Value) (xs : List Nat)
    (hg : a.eval g = .func (.func gf) #[] #[.pointer (some ⟨bx, 0, none⟩)]) (eg : ∀ args w, (callFunc gf args).run P w = .ok (.enter gf args) w)
    (hseq : SeqE (n - 1) P gf bx t x0 xs) (hps : ps.size = 1) (hbx : bx < w.heap.size) (hbox : Boxed w bx t x0) (htab : TabOk w)
    (I : List Nat → World → Prop) (Ix : Code → List Nat → World → Prop) (hI : OwnFrom w.heap.size I) (hIx : ∀ c, OwnFrom w.heap.size (Ix c)) (hst : ∀ s A v, I s A → I s (A.setCell ⟨bx, 0, none⟩ v)) (h0 : I [] w) (a₁ : Nat → Act)
    (hassign : ∀ (l : Nat) (x : Nat) (W : World) (K : Act → World → Prop), K (a₁ x) W →
      assign.wpIn (Fence.wide.inRound l) (n - 1 - 1) P (Exit.then K (fun _ _ _ => False)) { tmps := (ps.zip #[Value.int .i64 (x : Nat)]).foldl (fun t (p, v) => t.setIfInBounds p v) a.tmps, defers := [] } W)
    (hbody : ∀ (l : Nat) (pre : List Nat) (x : Nat) (W : World), I pre W → pre ++ [x] <+: xs → body.wpIn (Fence.wide.inRound l) (n - 1 - 1) P (ownPostG w.heap.size (KpE bx t) I Ix (pre ++ [x]) W) (a₁ x) W)
    (hdone : ∀ (D : Nat) (W : World), w.heap.size ≤ D → I xs W → W.heap[D]? = some (.deferred (some [])) → Q .normal { a with defers := { target := .collected D, args := #[] } :: a.defers } W)
    (hstop : ∀ (D : Nat) (c : Code) (pre : List Nat) (W : World), w.heap.size ≤ D → pre <+: xs → Ix c pre W → W.heap[D]? = some (.deferred (some [])) → c.wpIn Fence.wide n P Q { a with defers := { target := .collected D, args := #[] } :: a.defers } W) :
    (Code.rangeFunc g ps assign body).wpIn Fence.wide n P Q a w := by
  refine wpIn_rangeFunc fun fn hfn => ?_
  -- the two blocks that the statement lays: the deferred calls at D, the record at D + 1
  obtain ⟨D, hD⟩ : ∃ D, w.heap.size = D := ⟨_, rfl⟩
  let R : LoopState → Option Code → Loop := fun st pe => { state := st, pending := pe, fn := fn, tmps := a.tmps, params := ps, assign := assign, body := body, defers := D }
  obtain ⟨V, hV⟩ : ∃ V, V = (w.alloc (.deferred (some []))).alloc (.loop (R .ready none)) := ⟨_, rfl⟩
  have hrec : V.heap[D + 1]? = some (.loop (R .ready none)) := by
    have := World.alloc_heap_new (w.alloc (.deferred (some []))) (.loop (R .ready none))
    rw [World.size_alloc, hD] at this
    rw [hV]; exact this
  have hdef : V.heap[D]? = some (.deferred (some [])) := by
    rw [hV, ← hD]
    exact (Below.heap_alloc _ _ _ (by simp)).trans (World.alloc_heap_new w _)
  have hVI : I [] V := by rw [hV]; exact hI.alloc _ (hI.alloc _ h0)
  have hVb : Below w.heap.size w V := by rw [hV]; exact ((Below.refl _ w).alloc (Nat.le_refl _) _).alloc (by simp) _
  have hVbox : Boxed V bx t x0 := (hVb.block bx hbx).trans hbox
  have hVtab : TabOk V := htab.below hVb htab.1
  refine ⟨D + 1, [{ target := .collected D, args := #[] }], V, { target := .fn (.func gf) #[.pointer (some ⟨bx, 0, none⟩)], args := #[.func (.yield (D + 1)) #[] #[]] }, V, gf,
    #[.func (.yield (D + 1)) #[] #[]] ++ #[.pointer (some ⟨bx, 0, none⟩)], V, ?_, ?_, ?_, ?_, ?_, ?_⟩
  · have := run_enterLoop_outer (P := P) (w := w) fn a.tmps ps assign body
    rw [hD] at this
    rw [hV]; exact this
  · simp only [resolve, hg]
    simp [go_sem]
  · intro f' hf'
    trivial
  · simp [invoke, go_sem, eg]
  · intro h
    cases h
  · rw [hD] at hI hIx hbody hdone hstop hVb
    have hbD : bx < D := by omega
    have hfar : ∀ (A : World) (v : Value) (k : Nat), D ≤ k → (A.setCell ⟨bx, 0, none⟩ v).heap[k]? = A.heap[k]? := fun A v k hk => Below.heap_setCell A ⟨bx, 0, none⟩ v k (show k ≠ bx by omega)
    refine (hseq (D + 1) (fun pre W => I pre W ∧ W.heap[D + 1]? = some (.loop (R .ready none)) ∧ W.heap[D]? = some (.deferred (some [])))
      (fun pre W => ∃ c, Ix c pre W ∧ W.heap[D + 1]? = some (.loop (R .done (some c))) ∧ W.heap[D]? = some (.deferred (some []))) V hVbox hVtab ?_ ?_ ⟨hVI, hrec, hdef⟩).mono ?_
    · rintro s A v ⟨h1, h2, h3⟩
      exact ⟨hst s A v h1, (hfar A v _ (by omega)).trans h2, (hfar A v _ (Nat.le_refl _)).trans h3⟩
    · -- one round
      rintro pre x W ⟨hi, hl, hk⟩ hpx
      have hlt : D + 1 < W.heap.size := (Array.getElem?_eq_some_iff.1 hl).1
      have hy : (Instr.yield (D + 1) #[.int .i64 (x : Nat)]).run P W = .ok (.round (D + 1) fn ((ps.zip #[Value.int .i64 (x : Nat)]).foldl (fun t (p, v) => t.setIfInBounds p v) a.tmps) assign body) W :=
        run_yield hl (by show (1 : Nat) = ps.size; exact hps.symm)
      refine ⟨fn, _, assign, body, hy, roundIn_of_wpIn hfn (hassign _ x W _ ⟨_, run_beginRound hl rfl, ?_⟩)⟩
      obtain ⟨W2, hW2⟩ : ∃ W2, W2 = W.putObj (D + 1) (.loop { R .ready none with state := .busy }) := ⟨_, rfl⟩
      rw [← hW2]
      have hl2 : W2.heap[D + 1]? = some (.loop { R .ready none with state := .busy }) := by rw [hW2]; exact World.putObj_heap_same hlt
      have hk2 : W2.heap[D]? = some (.deferred (some [])) := by rw [hW2]; exact (World.putObj_heap_other (by omega)).trans hk
      have hi2 : I pre W2 := by rw [hW2]; exact hI.putObj _ hi (by omega) hl rfl
      have hp2 : KpE bx t W W2 := by rw [hW2]; exact KpE.putObj W _ (by omega) (by omega)
      refine wpIn_mono (hbody _ pre x W2 hi2 hpx) ?_
      have leave : ∀ (c : Code) (W3 : World), KeepsFrom D W2 W3 → Ix c (pre ++ [x]) W3 →
          ∃ v W4, (Instr.endRound (D + 1) (some c)).run P W3 = .ok v W4 ∧ ((Ending.returned v = .returned (.bool true) ∧ (I (pre ++ [x]) W4 ∧ W4.heap[D + 1]? = some (.loop (R .ready none)) ∧ W4.heap[D]? = some (.deferred (some []))) ∧ KpE bx t W W4) ∨
            (Ending.returned v = .returned (.bool false) ∧ ∃ c, Ix c (pre ++ [x]) W4 ∧ W4.heap[D + 1]? = some (.loop (R .done (some c))) ∧ W4.heap[D]? = some (.deferred (some [])))) := by
        intro c W3 hk3 hi3
        have hl3 := hk3.same _ _ (by omega) hl2 rfl
        exact ⟨_, _, run_endRound (some c) hl3, .inr ⟨rfl, c, (hIx c).putObj _ hi3 (by omega) hl3 rfl, World.putObj_heap_same (Array.getElem?_eq_some_iff.1 hl3).1, (World.putObj_heap_other (by omega)).trans (hk3.same _ _ (Nat.le_refl _) hk2 rfl)⟩⟩
      rintro e a3 W3 hp
      cases e with
      | normal =>
        obtain ⟨hk3, hkp, hi3⟩ := hp
        have hl3 := hk3.same _ _ (by omega) hl2 rfl
        exact ⟨_, _, run_endRound none hl3, .inl ⟨rfl, ⟨hI.putObj _ hi3 (by omega) hl3 rfl, World.putObj_heap_same (Array.getElem?_eq_some_iff.1 hl3).1, (World.putObj_heap_other (by omega)).trans (hk3.same _ _ (Nat.le_refl _) hk2 rfl)⟩, (hp2.trans hkp).trans (KpE.putObj W3 _ (by omega) (by omega))⟩⟩
      | ret => exact leave .ret W3 hp.1 hp.2
      | exit id => exact leave (.exit id) W3 hp.1 hp.2
      | goto t => exact leave (.goto t) W3 hp.1 hp.2
      | panic ch => exact hp.elim
      | outgrown => exact hp.elim
    · -- the iterator has returned
      rintro e W2 ⟨⟨v, rfl⟩, ⟨hi, hl, hk⟩ | ⟨pre, hpre, c, hi, hl, hk⟩⟩
      · exact ⟨none, _, run_endLoop hl (by intro h; cases h), hdone D _ (Nat.le_refl _) (hI.putObj _ hi (by omega) hl rfl) ((World.putObj_heap_other (by omega)).trans hk)⟩
      · exact ⟨some c, _, run_endLoop hl (by intro h; cases h), hstop D c pre _ (Nat.le_refl _) hpre ((hIx c).putObj _ hi (by omega) hl rfl) ((World.putObj_heap_other (by omega)).trans hk)⟩
/-- A call in a walk at the wide fence, by the callee's plain contract; the same in a round. -/
theorem wide_call {n m : Nat} {P : Program} {f : FuncId} {args : Array Value} {w : World} {R : Ending → World → Prop} (h : Calls P f args w R) : Fence.wide.fn f ∧ (Fence.wide.depth.isSome = true → 1 ≤ n) ∧ CallsIn Fence.wide m P f args w R :=
  ⟨trivial, (fun h => by cases h), callsIn_wide.2 h⟩
theorem round_call {n m l : Nat} {P : Program} {f : FuncId} {args : Array Value} {w : World} {R : Ending → World → Prop} (h : Calls P f args w R) : (Fence.wide.inRound l).fn f ∧ ((Fence.wide.inRound l).depth.isSome = true → 1 ≤ n) ∧ CallsIn (Fence.wide.inRound l) m P f args w R :=
  ⟨trivial, (fun h => by cases h), CallsIn.inRound l (callsIn_wide.2 h)⟩
theorem wide_call2 {m : Nat} {P : Program} {f : FuncId} {args : Array Value} {w : World} {R : Ending → World → Prop} (h : Calls P f args w R) : Fence.wide.fn f ∧ CallsIn Fence.wide m P f args w R :=
  ⟨trivial, callsIn_wide.2 h⟩
theorem round_call2 {m l : Nat} {P : Program} {f : FuncId} {args : Array Value} {w : World} {R : Ending → World → Prop} (h : Calls P f args w R) : (Fence.wide.inRound l).fn f ∧ CallsIn (Fence.wide.inRound l) m P f args w R :=
  ⟨trivial, CallsIn.inRound l (callsIn_wide.2 h)⟩
end Go.Proofs.YtbbdiondhnmnaaaDoor
