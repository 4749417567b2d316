/- A range over an iterator that keeps blocks of its own: what a caller owes, what the iterator owes. Conditions: none. -/
import Derived.RangeFuncNested
import Derived.RangeFuncBound
import Derived.RangeFuncCalls
import Derived.RangeFuncLeaves
import Derived.Shelf.Abstract
import Derived.Shelf.RegionOpen
import Derived.OwnWalkIn
import Derived.TacticsInMore
import Derived.LoopNIn
import Derived.LoopIn
import Derived.Test.YtdinknpagklkjaaPlaceMost1
import Derived.Test.YtdinknpagklkjaaPlaceMost6
import Derived.Test.YtdinknpagklkjaaPlaceMost9
import Derived.Test.YtdinknpagklkjaaPlaceMost4
namespace Go.Proofs.Ytdinknpagklkjaa
open Go.RowKit Go.Shelf

/-- The iterator's word: Ini: what it begins at; At: what lies there as it hands over; KP: what a round that goes on keeps; St: what it does itself between two rounds. -/
def SeqV {β : Type} (P : Program) (gf : FuncId) (caps : Array Value) (args : β → Array Value) (Ini : World → Prop) (At : β → World → Prop) (KP St : World → World → Prop) (xs : List β) : Prop :=
  ∀ (n l : Nat) (J Jx : List β → World → Prop) (W : World), Ini W → (∀ s A B, J s A → St A B → J s B) → (∀ s A B, Jx s A → St A B → Jx s B) →
    (∀ m pre x W1, J pre W1 → At x W1 → pre ++ [x] <+: xs → YieldAt Fence.wide m P l (args x) W1 fun e W' =>
      (e = .returned (.bool true) ∧ J (pre ++ [x]) W' ∧ KP W1 W') ∨ (e = .returned (.bool false) ∧ Jx (pre ++ [x]) W')) →
    J [] W →
    CallsIn Fence.wide n P gf (#[.func (.yield l) #[] #[]] ++ caps) W fun e W' => (∃ v, e = .returned v) ∧ (J xs W' ∨ ∃ pre, pre <+: xs ∧ Jx pre W')

theorem wpIn_iter {β : Type} {P : Program} {g : Operand} {ps : Array Tmp} {assign body : Code} {Q : Exit → Act → World → Prop} {a : Act} {w : World} (n : Nat) (gf : FuncId) (caps : Array Value) (args : β → Array Value) (Ini : World → Prop) (At : β → World → Prop) (KP St : World → World → Prop) (xs : List β)
    (hg : a.eval g = .func (.func gf) #[] caps) (eg : ∀ args w, (callFunc gf args).run P w = .ok (.enter gf args) w)
    (hseq : SeqV P gf caps args Ini At KP St xs) (hps : ∀ x, (args x).size = ps.size)
    (hIni : ∀ V, Below w.heap.size w V → V.heap.size = w.heap.size + 1 + 1 → Ini V)
    (hSt : ∀ A B k, St A B → k < A.heap.size → w.heap.size ≤ k → k < w.heap.size + 1 + 1 → B.heap[k]? = A.heap[k]?)
    (hAt : ∀ x W o, w.heap.size + 1 < W.heap.size → At x W → At x (W.putObj (w.heap.size + 1) o)) (hKr : ∀ W o, w.heap.size + 1 < W.heap.size → KP W (W.putObj (w.heap.size + 1) o)) (hKt : ∀ {A B C}, KP A B → KP B C → KP A C)
    (I : List β → World → Prop) (Ix : Code → List β → World → Prop) (hI : OwnFrom w.heap.size I) (hIx : ∀ c, OwnFrom w.heap.size (Ix c)) (hst : ∀ s A B, I s A → St A B → I s B) (hstx : ∀ c s A B, Ix c s A → St A B → Ix c s B) (h0 : I [] w) (a₁ : β → Act)
    (hassign : ∀ (m l : Nat) (x : β) (W : World) (K : Act → World → Prop), K (a₁ x) W →
      assign.wpIn (Fence.wide.inRound l) m P (Exit.then K (fun _ _ _ => False)) { tmps := (ps.zip (args x)).foldl (fun t (p, v) => t.setIfInBounds p v) a.tmps, defers := [] } W)
    (hbody : ∀ (m l : Nat) (pre : List β) (x : β) (W : World), I pre W → At x W → pre ++ [x] <+: xs → body.wpIn (Fence.wide.inRound l) m P (ownPostG w.heap.size KP I Ix (pre ++ [x]) W) (a₁ x) W)
    (hdone : ∀ (D : Nat) (W : World), w.heap.size ≤ D → I xs W → W.heap[D]? = some (.deferred (some [])) → Q .normal { a with defers := { target := .collected D, args := #[] } :: a.defers } W)
    (hstop : ∀ (D : Nat) (c : Code) (pre : List β) (W : World), w.heap.size ≤ D → pre <+: xs → Ix c pre W → W.heap[D]? = some (.deferred (some [])) → c.wpIn Fence.wide n P Q { a with defers := { target := .collected D, args := #[] } :: a.defers } W) :
    (Code.rangeFunc g ps assign body).wpIn Fence.wide n P Q a w := by
  refine wpIn_rangeFunc fun fn hfn => ?_
  obtain ⟨D, hD⟩ : ∃ D, w.heap.size = D := ⟨_, rfl⟩
  let R : LoopState → Option Code → Loop := fun st pe => { state := st, pending := pe, fn := fn, tmps := a.tmps, params := ps, assign := assign, body := body, defers := D }
  obtain ⟨V, hV⟩ : ∃ V, V = (w.alloc (.deferred (some []))).alloc (.loop (R .ready none)) := ⟨_, rfl⟩
  have hrec : V.heap[D + 1]? = some (.loop (R .ready none)) := by
    have := World.alloc_heap_new (w.alloc (.deferred (some []))) (.loop (R .ready none))
    rw [World.size_alloc, hD] at this
    rw [hV]; exact this
  have hdef : V.heap[D]? = some (.deferred (some [])) := by
    rw [hV, ← hD]
    exact (Below.heap_alloc _ _ _ (by simp)).trans (World.alloc_heap_new w _)
  have hVI : I [] V := by rw [hV]; exact hI.alloc _ (hI.alloc _ h0)
  have hVb : Below w.heap.size w V := by rw [hV]; exact ((Below.refl _ w).alloc (Nat.le_refl _) _).alloc (by simp) _
  have hVs : V.heap.size = w.heap.size + 1 + 1 := by rw [hV]; simp
  have hVi := hIni V hVb hVs
  refine ⟨D + 1, [{ target := .collected D, args := #[] }], V, { target := .fn (.func gf) caps, args := #[.func (.yield (D + 1)) #[] #[]] }, V, gf,
    #[.func (.yield (D + 1)) #[] #[]] ++ caps, V, ?_, ?_, ?_, ?_, ?_, ?_⟩
  · have := run_enterLoop_outer (P := P) (w := w) fn a.tmps ps assign body
    rw [hD] at this
    rw [hV]; exact this
  · simp only [resolve, hg]
    simp [go_sem]
  · intro f' hf'
    trivial
  · simp [invoke, go_sem, eg]
  · intro h
    cases h
  · rw [hD] at hI hIx hbody hdone hstop hVb hSt hAt hKr
    have keep : ∀ {A B : World} {k : Nat} {o : Obj}, St A B → D ≤ k → k < D + 1 + 1 → A.heap[k]? = some o → B.heap[k]? = some o := fun {A B k o} hs h1 h2 ho =>
      (hSt A B k hs (Array.getElem?_eq_some_iff.1 ho).1 h1 h2).trans ho
    refine (hseq (n - 1) (D + 1) (fun pre W => I pre W ∧ W.heap[D + 1]? = some (.loop (R .ready none)) ∧ W.heap[D]? = some (.deferred (some [])))
      (fun pre W => ∃ c, Ix c pre W ∧ W.heap[D + 1]? = some (.loop (R .done (some c))) ∧ W.heap[D]? = some (.deferred (some []))) V hVi ?_ ?_ ?_ ⟨hVI, hrec, hdef⟩).mono ?_
    · rintro s A B ⟨h1, h2, h3⟩ hs
      exact ⟨hst s A B h1 hs, keep hs (by omega) (by omega) h2, keep hs (Nat.le_refl _) (by omega) h3⟩
    · rintro s A B ⟨c, h1, h2, h3⟩ hs
      exact ⟨c, hstx c s A B h1 hs, keep hs (by omega) (by omega) h2, keep hs (Nat.le_refl _) (by omega) h3⟩
    · -- one round
      rintro m pre x W ⟨hi, hl, hk⟩ hat hpx
      have hlt : D + 1 < W.heap.size := (Array.getElem?_eq_some_iff.1 hl).1
      have hy : (Instr.yield (D + 1) (args x)).run P W = .ok (.round (D + 1) fn ((ps.zip (args x)).foldl (fun t (p, v) => t.setIfInBounds p v) a.tmps) assign body) W :=
        run_yield hl (hps x)
      refine ⟨fn, _, assign, body, hy, roundIn_of_wpIn hfn (hassign _ _ x W _ ⟨_, run_beginRound hl rfl, ?_⟩)⟩
      obtain ⟨W2, hW2⟩ : ∃ W2, W2 = W.putObj (D + 1) (.loop { R .ready none with state := .busy }) := ⟨_, rfl⟩
      rw [← hW2]
      have hl2 : W2.heap[D + 1]? = some (.loop { R .ready none with state := .busy }) := by rw [hW2]; exact World.putObj_heap_same hlt
      have hk2 : W2.heap[D]? = some (.deferred (some [])) := by rw [hW2]; exact (World.putObj_heap_other (by omega)).trans hk
      have hi2 : I pre W2 := by rw [hW2]; exact hI.putObj _ hi (by omega) hl rfl
      have hp2 : KP W W2 := by rw [hW2]; exact hKr W _ hlt
      have hat2 : At x W2 := by rw [hW2]; exact hAt x W _ hlt hat
      refine wpIn_mono (hbody _ _ pre x W2 hi2 hat2 hpx) ?_
      have leave : ∀ (c : Code) (W3 : World), KeepsFrom D W2 W3 → Ix c (pre ++ [x]) W3 →
          ∃ v W4, (Instr.endRound (D + 1) (some c)).run P W3 = .ok v W4 ∧ ((Ending.returned v = .returned (.bool true) ∧ (I (pre ++ [x]) W4 ∧ W4.heap[D + 1]? = some (.loop (R .ready none)) ∧ W4.heap[D]? = some (.deferred (some []))) ∧ KP W W4) ∨
            (Ending.returned v = .returned (.bool false) ∧ ∃ c, Ix c (pre ++ [x]) W4 ∧ W4.heap[D + 1]? = some (.loop (R .done (some c))) ∧ W4.heap[D]? = some (.deferred (some [])))) := by
        intro c W3 hk3 hi3
        have hl3 := hk3.same _ _ (by omega) hl2 rfl
        exact ⟨_, _, run_endRound (some c) hl3, .inr ⟨rfl, c, (hIx c).putObj _ hi3 (by omega) hl3 rfl, World.putObj_heap_same (Array.getElem?_eq_some_iff.1 hl3).1, (World.putObj_heap_other (by omega)).trans (hk3.same _ _ (Nat.le_refl _) hk2 rfl)⟩⟩
      rintro e a3 W3 hp
      cases e with
      | normal =>
        obtain ⟨hk3, hkp, hi3⟩ := hp
        have hl3 := hk3.same _ _ (by omega) hl2 rfl
        exact ⟨_, _, run_endRound none hl3, .inl ⟨rfl, ⟨hI.putObj _ hi3 (by omega) hl3 rfl, World.putObj_heap_same (Array.getElem?_eq_some_iff.1 hl3).1, (World.putObj_heap_other (by omega)).trans (hk3.same _ _ (Nat.le_refl _) hk2 rfl)⟩, hKt (hKt hp2 hkp) (hKr W3 _ (Array.getElem?_eq_some_iff.1 hl3).1)⟩⟩
      | ret => exact leave .ret W3 hp.1 hp.2
      | exit id => exact leave (.exit id) W3 hp.1 hp.2
      | goto t => exact leave (.goto t) W3 hp.1 hp.2
      | panic ch => exact hp.elim
      | outgrown => exact hp.elim
    · -- the iterator has returned
      rintro e W2 ⟨⟨v, rfl⟩, ⟨hi, hl, hk⟩ | ⟨pre, hpre, c, hi, hl, hk⟩⟩
      · exact ⟨none, _, run_endLoop hl (by intro h; cases h), hdone D _ (Nat.le_refl _) (hI.putObj _ hi (by omega) hl rfl) ((World.putObj_heap_other (by omega)).trans hk)⟩
      · exact ⟨some c, _, run_endLoop hl (by intro h; cases h), hstop D c pre _ (Nat.le_refl _) hpre ((hIx c).putObj _ hi (by omega) hl rfl) ((World.putObj_heap_other (by omega)).trans hk)⟩
/-- The same for an iterator that hands over one value, the loop's variable in a slot of its own. -/
theorem wpIn_iter1 {β : Type} {P : Program} {p q : Nat} {g : Operand} {assign body : Code} {Q : Exit → Act → World → Prop} {t : Array Value} {ds : List Deferred} {w : World} (n : Nat) (gf : FuncId) (caps : Array Value) (val : β → Value) (Ini : World → Prop) (At : β → World → Prop) (KP St : World → World → Prop) (xs : List β)
    (hg : ({ tmps := t, defers := ds } : Act).eval g = .func (.func gf) #[] caps) (eg : ∀ args w, (callFunc gf args).run P w = .ok (.enter gf args) w)
    (hseq : SeqV P gf caps (fun x => #[val x]) Ini At KP St xs)
    (hIni : ∀ V, Below w.heap.size w V → V.heap.size = w.heap.size + 1 + 1 → Ini V)
    (hSt : ∀ A B k, St A B → k < A.heap.size → w.heap.size ≤ k → k < w.heap.size + 1 + 1 → B.heap[k]? = A.heap[k]?)
    (hAt : ∀ x W o, w.heap.size + 1 < W.heap.size → At x W → At x (W.putObj (w.heap.size + 1) o)) (hKr : ∀ W o, w.heap.size + 1 < W.heap.size → KP W (W.putObj (w.heap.size + 1) o)) (hKt : ∀ {A B C}, KP A B → KP B C → KP A C)
    (I : List β → World → Prop) (Ix : Code → List β → World → Prop) (hI : OwnFrom w.heap.size I) (hIx : ∀ c, OwnFrom w.heap.size (Ix c)) (hst : ∀ s A B, I s A → St A B → I s B) (hstx : ∀ c s A B, Ix c s A → St A B → Ix c s B) (h0 : I [] w)
    (hassign : ∀ (m l : Nat) (x : β) (W : World) (K : Act → World → Prop), K { tmps := (t.setIfInBounds p (val x)).setIfInBounds q (val x), defers := [] } W →
      assign.wpIn (Fence.wide.inRound l) m P (Exit.then K (fun _ _ _ => False)) { tmps := t.setIfInBounds p (val x), defers := [] } W)
    (hbody : ∀ (m l : Nat) (pre : List β) (x : β) (W : World), I pre W → At x W → pre ++ [x] <+: xs → body.wpIn (Fence.wide.inRound l) m P (ownPostG w.heap.size KP I Ix (pre ++ [x]) W) { tmps := (t.setIfInBounds p (val x)).setIfInBounds q (val x), defers := [] } W)
    (hdone : ∀ (D : Nat) (W : World), w.heap.size ≤ D → I xs W → W.heap[D]? = some (.deferred (some [])) → Q .normal { tmps := t, defers := { target := .collected D, args := #[] } :: ds } W)
    (hstop : ∀ (D : Nat) (c : Code) (pre : List β) (W : World), w.heap.size ≤ D → pre <+: xs → Ix c pre W → W.heap[D]? = some (.deferred (some [])) → c.wpIn Fence.wide n P Q { tmps := t, defers := { target := .collected D, args := #[] } :: ds } W) :
    (Code.rangeFunc g #[p] assign body).wpIn Fence.wide n P Q { tmps := t, defers := ds } w :=
  wpIn_iter n gf caps (fun x => #[val x]) Ini At KP St xs hg eg hseq (fun _ => rfl) hIni hSt hAt hKr hKt I Ix hI hIx hst hstx h0 (fun x => { tmps := (t.setIfInBounds p (val x)).setIfInBounds q (val x), defers := [] })
    (fun m l x W K hK => by simpa using hassign m l x W K hK) hbody hdone hstop
/-- The same for an iterator that hands over two values, of which the loop keeps the second. -/
theorem wpIn_iter2 {β : Type} {P : Program} {p1 p2 q : Nat} {g : Operand} {assign body : Code} {Q : Exit → Act → World → Prop} {t : Array Value} {ds : List Deferred} {w : World} (n : Nat) (gf : FuncId) (caps : Array Value) (v1 v2 : β → Value) (Ini : World → Prop) (At : β → World → Prop) (KP St : World → World → Prop) (xs : List β)
    (hg : ({ tmps := t, defers := ds } : Act).eval g = .func (.func gf) #[] caps) (eg : ∀ args w, (callFunc gf args).run P w = .ok (.enter gf args) w)
    (hseq : SeqV P gf caps (fun x => #[v1 x, v2 x]) Ini At KP St xs)
    (hIni : ∀ V, Below w.heap.size w V → V.heap.size = w.heap.size + 1 + 1 → Ini V)
    (hSt : ∀ A B k, St A B → k < A.heap.size → w.heap.size ≤ k → k < w.heap.size + 1 + 1 → B.heap[k]? = A.heap[k]?)
    (hAt : ∀ x W o, w.heap.size + 1 < W.heap.size → At x W → At x (W.putObj (w.heap.size + 1) o)) (hKr : ∀ W o, w.heap.size + 1 < W.heap.size → KP W (W.putObj (w.heap.size + 1) o)) (hKt : ∀ {A B C}, KP A B → KP B C → KP A C)
    (I : List β → World → Prop) (Ix : Code → List β → World → Prop) (hI : OwnFrom w.heap.size I) (hIx : ∀ c, OwnFrom w.heap.size (Ix c)) (hst : ∀ s A B, I s A → St A B → I s B) (hstx : ∀ c s A B, Ix c s A → St A B → Ix c s B) (h0 : I [] w)
    (hassign : ∀ (m l : Nat) (x : β) (W : World) (K : Act → World → Prop), K { tmps := ((t.setIfInBounds p1 (v1 x)).setIfInBounds p2 (v2 x)).setIfInBounds q (v2 x), defers := [] } W →
      assign.wpIn (Fence.wide.inRound l) m P (Exit.then K (fun _ _ _ => False)) { tmps := (t.setIfInBounds p1 (v1 x)).setIfInBounds p2 (v2 x), defers := [] } W)
    (hbody : ∀ (m l : Nat) (pre : List β) (x : β) (W : World), I pre W → At x W → pre ++ [x] <+: xs → body.wpIn (Fence.wide.inRound l) m P (ownPostG w.heap.size KP I Ix (pre ++ [x]) W) { tmps := ((t.setIfInBounds p1 (v1 x)).setIfInBounds p2 (v2 x)).setIfInBounds q (v2 x), defers := [] } W)
    (hdone : ∀ (D : Nat) (W : World), w.heap.size ≤ D → I xs W → W.heap[D]? = some (.deferred (some [])) → Q .normal { tmps := t, defers := { target := .collected D, args := #[] } :: ds } W)
    (hstop : ∀ (D : Nat) (c : Code) (pre : List β) (W : World), w.heap.size ≤ D → pre <+: xs → Ix c pre W → W.heap[D]? = some (.deferred (some [])) → c.wpIn Fence.wide n P Q { tmps := t, defers := { target := .collected D, args := #[] } :: ds } W) :
    (Code.rangeFunc g #[p1, p2] assign body).wpIn Fence.wide n P Q { tmps := t, defers := ds } w :=
  wpIn_iter n gf caps (fun x => #[v1 x, v2 x]) Ini At KP St xs hg eg hseq (fun _ => rfl) hIni hSt hAt hKr hKt I Ix hI hIx hst hstx h0 (fun x => { tmps := ((t.setIfInBounds p1 (v1 x)).setIfInBounds p2 (v2 x)).setIfInBounds q (v2 x), defers := [] })
    (fun m l x W K hK => by simpa using hassign m l x W K hK) hbody hdone hstop
/-- A call in a walk at the wide fence by the callee's fenced contract; in a round. -/
theorem wide_callF {n m : Nat} {P : Program} {f : FuncId} {args : Array Value} {w : World} {R : Ending → World → Prop} (h : CallsIn Fence.wide m P f args w R) : Fence.wide.fn f ∧ (Fence.wide.depth.isSome = true → 1 ≤ n) ∧ CallsIn Fence.wide m P f args w R :=
  ⟨trivial, (fun h => by cases h), h⟩
theorem wide_callI {n m : Nat} {P : Program} {f : FuncId} {args : Array Value} {w : World} {R : Ending → World → Prop} (h : Calls P f args w R) : Fence.wide.fn f ∧ (Fence.wide.depth.isSome = true → 1 ≤ n) ∧ CallsIn Fence.wide m P f args w R :=
  ⟨trivial, (fun h => by cases h), callsIn_wide.2 h⟩
theorem round_callI {n m l : Nat} {P : Program} {f : FuncId} {args : Array Value} {w : World} {R : Ending → World → Prop} (h : Calls P f args w R) : (Fence.wide.inRound l).fn f ∧ ((Fence.wide.inRound l).depth.isSome = true → 1 ≤ n) ∧ CallsIn (Fence.wide.inRound l) m P f args w R :=
  ⟨trivial, (fun h => by cases h), CallsIn.inRound l (callsIn_wide.2 h)⟩
end Go.Proofs.Ytdinknpagklkjaa

/- A range over a bound method that iterates: XIter's laws with arguments ahead. Conditions: none. -/
namespace Go.Proofs.Ytdinknpagklkjaa
open Go.RowKit Go.Shelf

/-- The iterator's word: Ini: what it begins at; At: what lies there as it hands over; KP: what a round that goes on keeps; St: what it does itself between two rounds. -/
def SeqM {β : Type} (P : Program) (gf : FuncId) (bnd caps : Array Value) (args : β → Array Value) (Ini : World → Prop) (At : β → World → Prop) (KP St : World → World → Prop) (xs : List β) : Prop :=
  ∀ (n l : Nat) (J Jx : List β → World → Prop) (W : World), Ini W → (∀ s A B, J s A → St A B → J s B) → (∀ s A B, Jx s A → St A B → Jx s B) →
    (∀ m pre x W1, J pre W1 → At x W1 → pre ++ [x] <+: xs → YieldAt Fence.wide m P l (args x) W1 fun e W' =>
      (e = .returned (.bool true) ∧ J (pre ++ [x]) W' ∧ KP W1 W') ∨ (e = .returned (.bool false) ∧ Jx (pre ++ [x]) W')) →
    J [] W →
    CallsIn Fence.wide n P gf (bnd ++ #[.func (.yield l) #[] #[]] ++ caps) W fun e W' => (∃ v, e = .returned v) ∧ (J xs W' ∨ ∃ pre, pre <+: xs ∧ Jx pre W')

theorem wpIn_iterM {β : Type} {P : Program} {g : Operand} {ps : Array Tmp} {assign body : Code} {Q : Exit → Act → World → Prop} {a : Act} {w : World} (n : Nat) (gf : FuncId) (bnd caps : Array Value) (args : β → Array Value) (Ini : World → Prop) (At : β → World → Prop) (KP St : World → World → Prop) (xs : List β)
    (hg : a.eval g = .func (.func gf) bnd caps) (eg : ∀ args w, (callFunc gf args).run P w = .ok (.enter gf args) w)
    (hseq : SeqM P gf bnd caps args Ini At KP St xs) (hps : ∀ x, (args x).size = ps.size)
    (hIni : ∀ V, Below w.heap.size w V → V.heap.size = w.heap.size + 1 + 1 → Ini V)
    (hSt : ∀ A B k, St A B → k < A.heap.size → w.heap.size ≤ k → k < w.heap.size + 1 + 1 → B.heap[k]? = A.heap[k]?)
    (hAt : ∀ x W o, w.heap.size + 1 < W.heap.size → At x W → At x (W.putObj (w.heap.size + 1) o)) (hKr : ∀ W o, w.heap.size + 1 < W.heap.size → KP W (W.putObj (w.heap.size + 1) o)) (hKt : ∀ {A B C}, KP A B → KP B C → KP A C)
    (I : List β → World → Prop) (Ix : Code → List β → World → Prop) (hI : OwnFrom w.heap.size I) (hIx : ∀ c, OwnFrom w.heap.size (Ix c)) (hst : ∀ s A B, I s A → St A B → I s B) (hstx : ∀ c s A B, Ix c s A → St A B → Ix c s B) (h0 : I [] w) (a₁ : β → Act)
    (hassign : ∀ (m l : Nat) (x : β) (W : World) (K : Act → World → Prop), K (a₁ x) W →
      assign.wpIn (Fence.wide.inRound l) m P (Exit.then K (fun _ _ _ => False)) { tmps := (ps.zip (args x)).foldl (fun t (p, v) => t.setIfInBounds p v) a.tmps, defers := [] } W)
    (hbody : ∀ (m l : Nat) (pre : List β) (x : β) (W : World), I pre W → At x W → pre ++ [x] <+: xs → body.wpIn (Fence.wide.inRound l) m P (ownPostG w.heap.size KP I Ix (pre ++ [x]) W) (a₁ x) W)
    (hdone : ∀ (D : Nat) (W : World), w.heap.size ≤ D → I xs W → W.heap[D]? = some (.deferred (some [])) → Q .normal { a with defers := { target := .collected D, args := #[] } :: a.defers } W)
    (hstop : ∀ (D : Nat) (c : Code) (pre : List β) (W : World), w.heap.size ≤ D → pre <+: xs → Ix c pre W → W.heap[D]? = some (.deferred (some [])) → c.wpIn Fence.wide n P Q { a with defers := { target := .collected D, args := #[] } :: a.defers } W) :
    (Code.rangeFunc g ps assign body).wpIn Fence.wide n P Q a w := by
  refine wpIn_rangeFunc fun fn hfn => ?_
  obtain ⟨D, hD⟩ : ∃ D, w.heap.size = D := ⟨_, rfl⟩
  let R : LoopState → Option Code → Loop := fun st pe => { state := st, pending := pe, fn := fn, tmps := a.tmps, params := ps, assign := assign, body := body, defers := D }
  obtain ⟨V, hV⟩ : ∃ V, V = (w.alloc (.deferred (some []))).alloc (.loop (R .ready none)) := ⟨_, rfl⟩
  have hrec : V.heap[D + 1]? = some (.loop (R .ready none)) := by
    have := World.alloc_heap_new (w.alloc (.deferred (some []))) (.loop (R .ready none))
    rw [World.size_alloc, hD] at this
    rw [hV]; exact this
  have hdef : V.heap[D]? = some (.deferred (some [])) := by
    rw [hV, ← hD]
    exact (Below.heap_alloc _ _ _ (by simp)).trans (World.alloc_heap_new w _)
  have hVI : I [] V := by rw [hV]; exact hI.alloc _ (hI.alloc _ h0)
  have hVb : Below w.heap.size w V := by rw [hV]; exact ((Below.refl _ w).alloc (Nat.le_refl _) _).alloc (by simp) _
  have hVs : V.heap.size = w.heap.size + 1 + 1 := by rw [hV]; simp
  have hVi := hIni V hVb hVs
  refine ⟨D + 1, [{ target := .collected D, args := #[] }], V, { target := .fn (.func gf) caps, args := bnd ++ #[.func (.yield (D + 1)) #[] #[]] }, V, gf,
    bnd ++ #[.func (.yield (D + 1)) #[] #[]] ++ caps, V, ?_, ?_, ?_, ?_, ?_, ?_⟩
  · have := run_enterLoop_outer (P := P) (w := w) fn a.tmps ps assign body
    rw [hD] at this
    rw [hV]; exact this
  · simp only [resolve, hg]
    simp [go_sem]
  · intro f' hf'
    trivial
  · simp [invoke, go_sem, eg]
  · intro h
    cases h
  · rw [hD] at hI hIx hbody hdone hstop hVb hSt hAt hKr
    have keep : ∀ {A B : World} {k : Nat} {o : Obj}, St A B → D ≤ k → k < D + 1 + 1 → A.heap[k]? = some o → B.heap[k]? = some o := fun {A B k o} hs h1 h2 ho =>
      (hSt A B k hs (Array.getElem?_eq_some_iff.1 ho).1 h1 h2).trans ho
    refine (hseq (n - 1) (D + 1) (fun pre W => I pre W ∧ W.heap[D + 1]? = some (.loop (R .ready none)) ∧ W.heap[D]? = some (.deferred (some [])))
      (fun pre W => ∃ c, Ix c pre W ∧ W.heap[D + 1]? = some (.loop (R .done (some c))) ∧ W.heap[D]? = some (.deferred (some []))) V hVi ?_ ?_ ?_ ⟨hVI, hrec, hdef⟩).mono ?_
    · rintro s A B ⟨h1, h2, h3⟩ hs
      exact ⟨hst s A B h1 hs, keep hs (by omega) (by omega) h2, keep hs (Nat.le_refl _) (by omega) h3⟩
    · rintro s A B ⟨c, h1, h2, h3⟩ hs
      exact ⟨c, hstx c s A B h1 hs, keep hs (by omega) (by omega) h2, keep hs (Nat.le_refl _) (by omega) h3⟩
    · -- one round
      rintro m pre x W ⟨hi, hl, hk⟩ hat hpx
      have hlt : D + 1 < W.heap.size := (Array.getElem?_eq_some_iff.1 hl).1
      have hy : (Instr.yield (D + 1) (args x)).run P W = .ok (.round (D + 1) fn ((ps.zip (args x)).foldl (fun t (p, v) => t.setIfInBounds p v) a.tmps) assign body) W :=
        run_yield hl (hps x)
      refine ⟨fn, _, assign, body, hy, roundIn_of_wpIn hfn (hassign _ _ x W _ ⟨_, run_beginRound hl rfl, ?_⟩)⟩
      obtain ⟨W2, hW2⟩ : ∃ W2, W2 = W.putObj (D + 1) (.loop { R .ready none with state := .busy }) := ⟨_, rfl⟩
      rw [← hW2]
      have hl2 : W2.heap[D + 1]? = some (.loop { R .ready none with state := .busy }) := by rw [hW2]; exact World.putObj_heap_same hlt
      have hk2 : W2.heap[D]? = some (.deferred (some [])) := by rw [hW2]; exact (World.putObj_heap_other (by omega)).trans hk
      have hi2 : I pre W2 := by rw [hW2]; exact hI.putObj _ hi (by omega) hl rfl
      have hp2 : KP W W2 := by rw [hW2]; exact hKr W _ hlt
      have hat2 : At x W2 := by rw [hW2]; exact hAt x W _ hlt hat
      refine wpIn_mono (hbody _ _ pre x W2 hi2 hat2 hpx) ?_
      have leave : ∀ (c : Code) (W3 : World), KeepsFrom D W2 W3 → Ix c (pre ++ [x]) W3 →
          ∃ v W4, (Instr.endRound (D + 1) (some c)).run P W3 = .ok v W4 ∧ ((Ending.returned v = .returned (.bool true) ∧ (I (pre ++ [x]) W4 ∧ W4.heap[D + 1]? = some (.loop (R .ready none)) ∧ W4.heap[D]? = some (.deferred (some []))) ∧ KP W W4) ∨
            (Ending.returned v = .returned (.bool false) ∧ ∃ c, Ix c (pre ++ [x]) W4 ∧ W4.heap[D + 1]? = some (.loop (R .done (some c))) ∧ W4.heap[D]? = some (.deferred (some [])))) := by
        intro c W3 hk3 hi3
        have hl3 := hk3.same _ _ (by omega) hl2 rfl
        exact ⟨_, _, run_endRound (some c) hl3, .inr ⟨rfl, c, (hIx c).putObj _ hi3 (by omega) hl3 rfl, World.putObj_heap_same (Array.getElem?_eq_some_iff.1 hl3).1, (World.putObj_heap_other (by omega)).trans (hk3.same _ _ (Nat.le_refl _) hk2 rfl)⟩⟩
      rintro e a3 W3 hp
      cases e with
      | normal =>
        obtain ⟨hk3, hkp, hi3⟩ := hp
        have hl3 := hk3.same _ _ (by omega) hl2 rfl
        exact ⟨_, _, run_endRound none hl3, .inl ⟨rfl, ⟨hI.putObj _ hi3 (by omega) hl3 rfl, World.putObj_heap_same (Array.getElem?_eq_some_iff.1 hl3).1, (World.putObj_heap_other (by omega)).trans (hk3.same _ _ (Nat.le_refl _) hk2 rfl)⟩, hKt (hKt hp2 hkp) (hKr W3 _ (Array.getElem?_eq_some_iff.1 hl3).1)⟩⟩
      | ret => exact leave .ret W3 hp.1 hp.2
      | exit id => exact leave (.exit id) W3 hp.1 hp.2
      | goto t => exact leave (.goto t) W3 hp.1 hp.2
      | panic ch => exact hp.elim
      | outgrown => exact hp.elim
    · -- the iterator has returned
      rintro e W2 ⟨⟨v, rfl⟩, ⟨hi, hl, hk⟩ | ⟨pre, hpre, c, hi, hl, hk⟩⟩
      · exact ⟨none, _, run_endLoop hl (by intro h; cases h), hdone D _ (Nat.le_refl _) (hI.putObj _ hi (by omega) hl rfl) ((World.putObj_heap_other (by omega)).trans hk)⟩
      · exact ⟨some c, _, run_endLoop hl (by intro h; cases h), hstop D c pre _ (Nat.le_refl _) hpre ((hIx c).putObj _ hi (by omega) hl rfl) ((World.putObj_heap_other (by omega)).trans hk)⟩
/-- The same for an iterator that hands over one value, the loop's variable in a slot of its own. -/
theorem wpIn_iterM1 {β : Type} {P : Program} {p q : Nat} {g : Operand} {assign body : Code} {Q : Exit → Act → World → Prop} {t : Array Value} {ds : List Deferred} {w : World} (n : Nat) (gf : FuncId) (bnd caps : Array Value) (val : β → Value) (Ini : World → Prop) (At : β → World → Prop) (KP St : World → World → Prop) (xs : List β)
    (hg : ({ tmps := t, defers := ds } : Act).eval g = .func (.func gf) bnd caps) (eg : ∀ args w, (callFunc gf args).run P w = .ok (.enter gf args) w)
    (hseq : SeqM P gf bnd caps (fun x => #[val x]) Ini At KP St xs)
    (hIni : ∀ V, Below w.heap.size w V → V.heap.size = w.heap.size + 1 + 1 → Ini V)
    (hSt : ∀ A B k, St A B → k < A.heap.size → w.heap.size ≤ k → k < w.heap.size + 1 + 1 → B.heap[k]? = A.heap[k]?)
    (hAt : ∀ x W o, w.heap.size + 1 < W.heap.size → At x W → At x (W.putObj (w.heap.size + 1) o)) (hKr : ∀ W o, w.heap.size + 1 < W.heap.size → KP W (W.putObj (w.heap.size + 1) o)) (hKt : ∀ {A B C}, KP A B → KP B C → KP A C)
    (I : List β → World → Prop) (Ix : Code → List β → World → Prop) (hI : OwnFrom w.heap.size I) (hIx : ∀ c, OwnFrom w.heap.size (Ix c)) (hst : ∀ s A B, I s A → St A B → I s B) (hstx : ∀ c s A B, Ix c s A → St A B → Ix c s B) (h0 : I [] w)
    (hassign : ∀ (m l : Nat) (x : β) (W : World) (K : Act → World → Prop), K { tmps := (t.setIfInBounds p (val x)).setIfInBounds q (val x), defers := [] } W →
      assign.wpIn (Fence.wide.inRound l) m P (Exit.then K (fun _ _ _ => False)) { tmps := t.setIfInBounds p (val x), defers := [] } W)
    (hbody : ∀ (m l : Nat) (pre : List β) (x : β) (W : World), I pre W → At x W → pre ++ [x] <+: xs → body.wpIn (Fence.wide.inRound l) m P (ownPostG w.heap.size KP I Ix (pre ++ [x]) W) { tmps := (t.setIfInBounds p (val x)).setIfInBounds q (val x), defers := [] } W)
    (hdone : ∀ (D : Nat) (W : World), w.heap.size ≤ D → I xs W → W.heap[D]? = some (.deferred (some [])) → Q .normal { tmps := t, defers := { target := .collected D, args := #[] } :: ds } W)
    (hstop : ∀ (D : Nat) (c : Code) (pre : List β) (W : World), w.heap.size ≤ D → pre <+: xs → Ix c pre W → W.heap[D]? = some (.deferred (some [])) → c.wpIn Fence.wide n P Q { tmps := t, defers := { target := .collected D, args := #[] } :: ds } W) :
    (Code.rangeFunc g #[p] assign body).wpIn Fence.wide n P Q { tmps := t, defers := ds } w :=
  wpIn_iterM n gf bnd caps (fun x => #[val x]) Ini At KP St xs hg eg hseq (fun _ => rfl) hIni hSt hAt hKr hKt I Ix hI hIx hst hstx h0 (fun x => { tmps := (t.setIfInBounds p (val x)).setIfInBounds q (val x), defers := [] })
    (fun m l x W K hK => by simpa using hassign m l x W K hK) hbody hdone hstop
end Go.Proofs.Ytdinknpagklkjaa

/- All steps of an open net: what the iterator hands over. Conditions: the net lies still as the walk begins. -/
namespace Go.Proofs.Ytdinknpagklkjaa
open Go.RowKit Go.Shelf
attribute [local go_sem] Oper.semAt_some

theorem stepsL_succ (i : Nat) : stepsL (i + 1) = (stepsL i ++ [(i, false)]) ++ [(i, true)] := by
  unfold stepsL
  rw [List.range_succ, List.flatMap_append]
  simp
theorem stepsL_pre {i : Nat} : ∀ m, i ≤ m → stepsL i <+: stepsL m
  | 0, h => by rw [show i = 0 by omega]; exact List.prefix_refl _
  | m + 1, h => by
    by_cases e : i = m + 1
    · rw [e]; exact List.prefix_refl _
    · exact (stepsL_pre m (by omega)).trans ⟨_, by rw [stepsL_succ, List.append_assoc]⟩
set_option maxRecDepth 100000 in
set_option maxHeartbeats 1000000 in
theorem steps_seq (P N : Nat) (A : Option Addr) (n c : Nat) (G : Value) (hn : n ≤ 100000) :
    SeqM Try.prog 121 #[.pointer (some ⟨P, 0, none⟩)] #[] (fun x : Stp => #[stepV x]) (fun V => Blk V P 119 #[.int .i64 N, .slice A n c, G]) (fun _ _ => True) (fun _ _ => True) (fun W W' => W = W') (stepsL n) := by
  intro m yl J Jx W hk hst hstx hY h0
  have HY := Lib.hid hY
  have HJ : Hid (J (stepsL 0) W) := Lib.hid h0
  have c0 := hk.cell 0
  have c1 := hk.cell 1
  clear hst hstx hY h0 hk
  refine callsIn_of_wp Try.func121 rfl trivial ?_ rfl
  simp only [Try.ntmps121, List.size_toArray, List.length_cons, List.length_nil, Nat.reduceAdd, Nat.reduceSub, Array.replicate_succ, Array.replicate_zero, List.push_toArray, List.append_toArray, List.nil_append, List.cons_append, List.append_nil]
  gi_wp2_with fail
  clear c0 c1
  gi_loopw [11] (fun s11 wr => ∃ i : Nat, i ≤ n ∧ s11 = .int .i64 i ∧ J (stepsL i) wr) (fun s11 _ => n - (intOf s11).toNat)
  case atStart => exact ⟨0, by omega, rfl, HJ.out⟩
  case round =>
    clear HJ
    rename World => wr
    obtain ⟨i, hi, rfl, hJ⟩ := hrel
    have HJ := Lib.hid hJ
    clear hJ
    by_cases hlt : i < n
    · have hp2 : (stepsL i ++ [(i, false)]) ++ [(i, true)] <+: stepsL n := by
        rw [← stepsL_succ]
        exact stepsL_pre n (by omega)
      have hp1 : stepsL i ++ [(i, false)] <+: stepsL n := List.IsPrefix.trans ⟨_, rfl⟩ hp2
      obtain ⟨fn, tmps, assign, body, hy, hR⟩ := HY.out (m - 1) _ (i, false) wr HJ.out trivial hp1
      have HR := Lib.hid hR
      have HP1 := Lib.hid hp1
      have HP2 := Lib.hid hp2
      have hwi : IntKind.i64.wrap ((i : Int) + 1) = (i : Int) + 1 := IntWalk.i64_in _ (by omega)
      clear hR hp1 hp2
      gi_wp2_with fail
      refine ⟨(fun h => by cases h), HR.out.mono ?_⟩
      clear HR hy
      rintro e W3 (⟨rfl, hJ3, hk3⟩ | ⟨rfl, hJx3⟩)
      · obtain ⟨fn, tmps, assign, body, hy, hR⟩ := HY.out (m - 1) _ (i, true) W3 hJ3 trivial HP2.out
        have HR := Lib.hid hR
        clear hR hJ3 hk3
        gi_wp2_with fail
        refine ⟨(fun h => by cases h), HR.out.mono ?_⟩
        clear HR hy
        rintro e W4 (⟨rfl, hJ4, hk4⟩ | ⟨rfl, hJx4⟩)
        · have HJ4 : Hid (J (stepsL (i + 1)) W4) := Lib.hid (by rw [stepsL_succ]; exact hJ4)
          clear hJ4 hk4
          gi_wp2_with fail
          go_roundw
          case rel => exact ⟨i + 1, by omega, by simp, HJ4.out⟩
          case measure => first | (simp [intOf]; done) | (simp [intOf]; omega)
        · have HJX := Lib.hid hJx4
          clear hJx4
          gi_wp2_with fail
          refine bodyPost_ret (results_none rfl _ _ _) rfl ?_
          exact ⟨⟨_, rfl⟩, .inr ⟨_, HP2.out, HJX.out⟩⟩
      · have HJX := Lib.hid hJx3
        clear hJx3
        gi_wp2_with fail
        all_goals refine ⟨(fun f h => by cases h), ?_⟩
        all_goals gi_wp2_with fail
        all_goals
          refine bodyPost_ret (results_none rfl _ _ _) rfl ?_
          exact ⟨⟨_, rfl⟩, .inr ⟨_, HP1.out, HJX.out⟩⟩
    · obtain rfl : i = n := by omega
      gi_wp2_with fail
      go_end0
      exact ⟨⟨_, rfl⟩, .inl HJ.out⟩
end Go.Proofs.Ytdinknpagklkjaa

/- A way in memory: turned round in place; pushed on. Conditions: the way lies in a row of its own. -/
namespace Go.Proofs.Ytdinknpagklkjaa
open Go.RowKit

/-- A row of steps: the first n read as F tells. -/
def StpB (w : World) (h sz n : Nat) (F : Nat → Stp) : Prop :=
  ∃ cur : Array Value, Blk w h 116 cur ∧ cur.size = sz ∧ ∀ i, i < n → cur[i * 2]? = some (.int .i64 (F i).1) ∧ cur[i * 2 + 1]? = some (.bool (F i).2)
theorem StpB.held {w w' : World} {h sz n : Nat} {F : Nat → Stp} {ex : List Nat} (hs : StpB w h sz n F) (hh : Held ex w w') (hx : h ∉ ex) : StpB w' h sz n F := by
  obtain ⟨cur, hb, h1, h2⟩ := hs
  exact ⟨cur, hb.held hh hx, h1, h2⟩
theorem StpB.at_ {w : World} {h sz n : Nat} {F : Nat → Stp} (hs : StpB w h sz n F) {i : Nat} (hi : i < n) : w.cell? ⟨h, i * 2, none⟩ = some (.int .i64 (F i).1) ∧ w.cell? ⟨h, i * 2 + 1, none⟩ = some (.bool (F i).2) := by
  obtain ⟨cur, hb, h1, h2⟩ := hs
  exact ⟨(hb.cell _).trans (h2 i hi).1, (hb.cell _).trans (h2 i hi).2⟩
theorem StpB.lt {w : World} {h sz n : Nat} {F : Nat → Stp} (hs : StpB w h sz n F) : h < w.heap.size := by
  obtain ⟨cur, hb, _⟩ := hs
  exact hb.lt
theorem StpB.fr {w : World} {h sz n : Nat} {F : Nat → Stp} (hs : StpB w h sz n F) (i : Nat) : w.frozen? ⟨h, i, none⟩ = false := by
  obtain ⟨cur, hb, _⟩ := hs
  exact hb.frozen i
theorem StpB.of_eq {w : World} {h sz n : Nat} {F G : Nat → Stp} (hs : StpB w h sz n F) (e : ∀ i, i < n → F i = G i) : StpB w h sz n G := by
  obtain ⟨cur, hb, h1, h2⟩ := hs
  exact ⟨cur, hb, h1, fun i hi => by rw [← e i hi]; exact h2 i hi⟩
theorem StpB.put {w : World} {h sz n : Nat} {F : Nat → Stp} (hs : StpB w h sz n F) {i : Nat} (hi : i < n) (x : Stp) : StpB ((w.setCell ⟨h, i * 2, none⟩ (.int .i64 x.1)).setCell ⟨h, i * 2 + 1, none⟩ (.bool x.2)) h sz n (fun j => if j = i then x else F j) := by
  obtain ⟨cur, hb, h1, h2⟩ := hs
  refine ⟨_, (hb.put (i * 2) _).put (i * 2 + 1) _, by simpa using h1, fun j hj => ?_⟩
  have h3 := h2 j hj
  have h4 := h2 i hi
  have l1 := (Array.getElem?_eq_some_iff.1 h4.1).1
  have l2 := (Array.getElem?_eq_some_iff.1 h4.2).1
  simp only [Array.getElem?_setIfInBounds]
  by_cases hji : j = i
  · subst hji
    rw [if_neg (by omega), if_pos rfl, if_pos l1, if_pos rfl]
    simp [l2]
  · repeat rw [if_neg (by omega)]
    exact h3
def GoesB (w : World) (g : Nat) (gs : List Int) : Prop := Blk w g 2 (gs.map (Value.int .i64)).toArray
theorem GoesB.at_ {w : World} {g : Nat} {gs : List Int} (h : GoesB w g gs) {i : Nat} (hi : i < gs.length) : w.cell? ⟨g, i, none⟩ = some (.int .i64 (gs.getD i 0)) := by
  unfold GoesB at h
  rw [h.cell i]
  simp [List.getD_eq_getElem?_getD, List.getElem?_eq_getElem hi]
theorem GoesB.put {w : World} {g : Nat} {gs : List Int} (h : GoesB w g gs) (i : Nat) (x : Int) : GoesB (w.setCell ⟨g, i, none⟩ (.int .i64 x)) g (gs.set i x) := by
  have := Blk.put h i (.int .i64 x)
  unfold GoesB
  have e : ((gs.set i x).map (Value.int .i64)).toArray = (gs.map (Value.int .i64)).toArray.setIfInBounds i (.int .i64 x) := by
    rw [List.map_set]
    simp
  rw [e]
  exact this
theorem pushL_snoc (u : Int) (gs : List Int) (ws : List Stp) (x : Stp) : pushL u gs (ws ++ [x]) = push1 u (pushL u gs ws) x := by simp [pushL, List.foldl_append]

set_option maxRecDepth 100000 in
set_option maxHeartbeats 1000000 in
theorem flow_Push (P N g sz h k ck m c cg : Nat) (A : Option Addr) (gs : List Int) (ws : List Stp) (u : Int) (w : World) (hk : Blk w P 119 #[.int .i64 N, .slice A m c, .slice (some ⟨g, 0, none⟩) m cg]) (hg : GoesB w g gs) (hgl : gs.length = m) (hws : ws.length = k)
    (hway : StpB w h sz k (fun i => ws.getD i (0, false))) (hin : ∀ x ∈ ws, x.1 < m) (hb : ∀ j, j ≤ k → ∀ i, i < m → 0 ≤ (pushL u gs (ws.take j)).getD i 0 ∧ (pushL u gs (ws.take j)).getD i 0 ≤ 1048576) (hu : 0 ≤ u ∧ u ≤ 1048576) (hkb : k ≤ 100000) :
    Calls Try.prog 60 #[.pointer (some ⟨P, 0, none⟩), .slice (some ⟨h, 0, none⟩) k ck, .int .i64 u] w fun e w' => (∃ v, e = .returned v) ∧ Held [g] w w' ∧ GoesB w' g (pushL u gs ws) := by
  have hPg : P ≠ g := hk.differ hg (by decide)
  have hhg : h ≠ g := by
    obtain ⟨cur, hbb, _⟩ := hway
    exact hbb.differ hg (by decide)
  have HK := Lib.hid hk
  have HG := Lib.hid hg
  have HWAY := Lib.hid hway
  have HWS := Lib.hid hws
  have HGL := Lib.hid hgl
  have HB := Lib.hid hb
  have HIN := Lib.hid hin
  clear hk hg hway hws hb hgl hin
  go_enter Try.func60, Try.ntmps60
  go_wp2_with fail
  go_loopw [10] (fun s10 wr => ∃ j : Nat, j ≤ k ∧ s10 = .int .i64 j ∧ Held [g] w wr ∧ GoesB wr g (pushL u gs (ws.take j))) (fun s10 _ => k - (intOf s10).toNat)
  case atStart => exact ⟨0, Nat.zero_le _, rfl, Held.refl _ _, by rw [List.take_zero]; exact HG.out⟩
  case round =>
    clear HG
    rename World => wr
    obtain ⟨j, hj, rfl, hh, hg⟩ := hrel
    by_cases hlt : j < k
    · have hjl : j < ws.length := by rw [HWS.out]; exact hlt
      obtain ⟨x, hx⟩ : ∃ x, x = ws.getD j (0, false) := ⟨_, rfl⟩
      have hxm : x ∈ ws := by rw [hx, getD_at ws j hjl]; exact List.getElem_mem hjl
      have hxi := HIN.out x hxm
      have hway1 := HWAY.out.held hh (by simpa using hhg)
      have hk1 := HK.out.held hh (by simpa using hPg)
      obtain ⟨s0, s1⟩ := hway1.at_ hlt
      rw [← hx] at s0 s1
      have hsn : pushL u gs (ws.take (j + 1)) = push1 u (pushL u gs (ws.take j)) x := by
        rw [List.take_add_one, List.getElem?_eq_getElem hjl]
        show pushL u gs (ws.take j ++ [ws[j]]) = _
        rw [pushL_snoc, hx, getD_at ws j hjl]
      obtain ⟨rs, hrs⟩ : ∃ rs, rs = pushL u gs (ws.take j) := ⟨_, rfl⟩
      have hrl : rs.length = m := by rw [hrs, pushL_length, HGL.out]
      have hbi := HB.out j (by omega) x.1 hxi
      rw [← hrs] at hg hsn hbi
      have hbn := HB.out (j + 1) (by omega) x.1 hxi
      rw [hsn] at hbn
      have hgc := hg.at_ (i := x.1) (by rw [hrl]; exact hxi)
      obtain ⟨i, b⟩ := x
      obtain ⟨q, hq⟩ : ∃ q, q = rs.getD i 0 := ⟨_, rfl⟩
      simp only at s0 s1 hxi hgc hbi hbn hsn
      rw [← hq] at hgc hbi
      have hPl := hk1.lt
      have hgl2 : g < wr.heap.size := Blk.lt hg
      have hbx := Blk.new wr 116 #[.int .i64 i, .bool b]
      obtain ⟨V, hV⟩ : ∃ V, V = wr.alloc (.cells #[.int .i64 i, .bool b] 116) := ⟨_, rfl⟩
      have hk2 : Blk V P 119 #[.int .i64 N, .slice A m c, .slice (some ⟨g, 0, none⟩) m cg] := by rw [hV]; exact hk1.alloc _
      have hg2 : GoesB V g rs := by rw [hV]; exact Blk.alloc hg _
      have hh2 : Held [g] w V := by rw [hV]; exact hh.alloc _
      rw [← hV] at hbx
      obtain ⟨Z, hZ⟩ : ∃ Z, Z = wr.heap.size := ⟨_, rfl⟩
      rw [← hZ] at hbx
      have x0 := hbx.cell 0
      have x1 := hbx.cell 1
      have p2 := hk2.cell 2
      have g2 : V.cell? ⟨g, i, none⟩ = some (.int .i64 q) := by rw [hq]; exact hg2.at_ (by rw [hrl]; exact hxi)
      have f2 : V.frozen? ⟨g, i, none⟩ = false := Blk.frozen hg2 i
      have HH2 := Lib.hid hh2
      have HG2 := Lib.hid hg2
      have HSN := Lib.hid hsn
      have HV := Lib.hid hV
      have HZ := Lib.hid hZ
      have HRS := Lib.hid hrs
      have HQ := Lib.hid hq
      have HX := Lib.hid hx
      clear hh hg hway1 hk1 hsn hgc hbx hk2 hg2 hh2 hV hZ hrs hq hx hxm
      cases b
      · have hwq : IntKind.i64.wrap (q + u) = q + u := IntWalk.i64_in _ (by omega)
        have hp1 : push1 u rs (i, false) = rs.set i (q + u) := by rw [HQ.out]; rfl
        go_wp2_with fail
        rw [← HV.out, ← HZ.out]
        refine region_plain 11 12 (fun w' => w' = V.drew) (by kernel_rfl) rfl ?_
        refine anyC_reads (by kernel_rfl) [0, 1, 2, 3, 4, 5, 6, 7, 8] ?opl ?ohl 3 _ _ _ (by kernel_rfl) ?okk
        case ohl => (simp only [List.filterMap_cons, List.filterMap_nil, List.getElem?_toArray, List.getElem?_cons_zero, List.getElem?_cons_succ]; try rfl)
        repeat (
          refine readC_step (v := ?_) rfl (fun w' hw' => ?_) ?_
          rotate_left
          focus (subst hw'; go_simp; try with_reducible rfl)
          go_simp)
        refine readC_nil ?_
        refine anyC_one (i := 9) (by kernel_rfl) rfl rfl (.inr rfl) ?_
        go_simp
        refine anyC_one (i := 10) (by kernel_rfl) rfl rfl (.inr rfl) ?_
        go_simp
        refine anyC_one (i := 11) (by kernel_rfl) rfl rfl (.inr rfl) ?_
        go_simp
        refine anyC_end (by kernel_rfl) (.inl rfl) ?_
        have hg3 : GoesB (V.drew.setCell ⟨g, i, none⟩ (.int .i64 (q + u))) g (rs.set i (q + u)) := GoesB.put (Blk.drew HG2.out) i (q + u)
        have hh3 : Held [g] w (V.drew.setCell ⟨g, i, none⟩ (.int .i64 (q + u))) := HH2.out.drew1.setCell (p := ⟨g, i, none⟩) (by simp) _
        have HG3 := Lib.hid hg3
        have HH3 := Lib.hid hh3
        have HP1 := Lib.hid hp1
        have hwj : IntKind.i64.wrap ((j : Int) + 1) = (j : Int) + 1 := IntWalk.i64_in _ (by omega)
        clear hg3 hh3 hp1 x0 x1 p2 g2 f2
        go_wp2_with fail
        go_roundw
        case rel => exact ⟨j + 1, by omega, by simp, HH3.out, by rw [HSN.out, HP1.out]; exact HG3.out⟩
        case measure => first | (simp [intOf]; done) | (simp [intOf]; omega)
      · have hwq : IntKind.i64.wrap (q - u) = q - u := IntWalk.i64_in _ (by omega)
        have hp1 : push1 u rs (i, true) = rs.set i (q - u) := by rw [HQ.out]; rfl
        go_wp2_with fail
        rw [← HV.out, ← HZ.out]
        refine region_plain 11 12 (fun w' => w' = V.drew) (by kernel_rfl) rfl ?_
        refine anyC_reads (by kernel_rfl) [0, 1, 2, 3, 4, 5, 6, 7, 8] ?opm ?ohm 3 _ _ _ (by kernel_rfl) ?okm
        case ohm => (simp only [List.filterMap_cons, List.filterMap_nil, List.getElem?_toArray, List.getElem?_cons_zero, List.getElem?_cons_succ]; try rfl)
        repeat (
          refine readC_step (v := ?_) rfl (fun w' hw' => ?_) ?_
          rotate_left
          focus (subst hw'; go_simp; try with_reducible rfl)
          go_simp)
        refine readC_nil ?_
        refine anyC_one (i := 9) (by kernel_rfl) rfl rfl (.inr rfl) ?_
        go_simp
        refine anyC_one (i := 10) (by kernel_rfl) rfl rfl (.inr rfl) ?_
        go_simp
        refine anyC_one (i := 11) (by kernel_rfl) rfl rfl (.inr rfl) ?_
        go_simp
        refine anyC_end (by kernel_rfl) (.inl rfl) ?_
        have hg3 : GoesB (V.drew.setCell ⟨g, i, none⟩ (.int .i64 (q - u))) g (rs.set i (q - u)) := GoesB.put (Blk.drew HG2.out) i (q - u)
        have hh3 : Held [g] w (V.drew.setCell ⟨g, i, none⟩ (.int .i64 (q - u))) := HH2.out.drew1.setCell (p := ⟨g, i, none⟩) (by simp) _
        have HG3 := Lib.hid hg3
        have HH3 := Lib.hid hh3
        have HP1 := Lib.hid hp1
        have hwj : IntKind.i64.wrap ((j : Int) + 1) = (j : Int) + 1 := IntWalk.i64_in _ (by omega)
        clear hg3 hh3 hp1 x0 x1 p2 g2 f2
        go_wp2_with fail
        go_roundw
        case rel => exact ⟨j + 1, by omega, by simp, HH3.out, by rw [HSN.out, HP1.out]; exact HG3.out⟩
        case measure => first | (simp [intOf]; done) | (simp [intOf]; omega)
    · obtain rfl : j = k := by omega
      go_wp2_with fail
      go_end0
      exact ⟨⟨_, rfl⟩, hh, by rw [← HWS.out, List.take_length] at hg; exact hg⟩
end Go.Proofs.Ytdinknpagklkjaa

/- Two operations of a drawn region ready at once. Conditions: none. -/
namespace Go.Proofs.Ytdinknpagklkjaa
open Go.RowKit Go.Shelf
section
variable {P : Program} {md : Region.Mode} {ops : Array Oper} {z : Nat} {C : World → Prop} {Q : Act → World → Prop}
theorem anyD_two {i j : Nat} {oi oj : Oper} {fuel : Nat} {listed : Array Bool} {a : Act} {w : World} (hr : Region.ready md ops listed = [i, j]) (hi : ops[i]? = some oi) (hj : ops[j]? = some oj) (hwi : Region.wanted oi (yielded ops a.tmps) = true) (hwj : Region.wanted oj (yielded ops a.tmps) = true) (hC : listed.getD z false = true ∨ C w)
    (h1 : oi.wp P a w (anyC P md ops z C Q fuel (listed.setIfInBounds i true)) noP) (h2 : oj.wp P a w (anyC P md ops z C Q fuel (listed.setIfInBounds j true)) noP) : anyC P md ops z C Q (fuel + 1) listed a w :=
  ⟨hC, fun h0 => (by rw [hr] at h0; cases h0), fun k hk => by
    rw [hr] at hk
    simp only [List.mem_cons, List.not_mem_nil, or_false] at hk
    rcases hk with rfl | rfl
    · exact ⟨oi, hi, .inl ⟨hwi, h1⟩⟩
    · exact ⟨oj, hj, .inl ⟨hwj, h2⟩⟩⟩
end
end Go.Proofs.Ytdinknpagklkjaa
