/- The net of workers and tasks is made: one arc more. Conditions: none. -/
import Derived.Test.YtdinknpagklkjaaLotsBests10
import Derived.Test.YtdinknpagklkjaaLotsBests5
import Derived.RangeFuncNested
import Derived.RangeFuncBound
import Derived.RangeFuncCalls
import Derived.RangeFuncLeaves
import Derived.Shelf.Abstract
import Derived.Shelf.RegionOpen
import Derived.OwnWalkIn
import Derived.TacticsInMore
import Derived.LoopNIn
import Derived.LoopIn
import Derived.Test.YtdinknpagklkjaaLotsBests1
namespace Go.Proofs.Ytdinknpagklkjaa
open Go.RowKit

/-- A block of another kind stays, when a row is appended to. -/
theorem Blk.past {α : Type} {w w' : World} {q lo c cap : Nat} {e t : TypeId} {cs : Array Value} {f : α → List Value} {A : Option Addr} {l : List α} (h : Blk w q t cs) (hg : w.grownBy w' (blkOf A)) (ho : Own w lo e c f A cap l) (ht : e ≠ t) : Blk w' q t cs := by
  refine h.grown hg fun hgA => ?_
  rcases ho.2.2 with hn | ⟨g', cp, cur', hv, hb', hg', r⟩
  · have hAn : A = none := by
      have := hn.1
      simp only [Value.slice.injEq] at this
      exact this.1
    rw [hAn] at hgA
    cases hgA
  · have hA' : A = some ⟨g', 0, none⟩ := by
      simp only [Value.slice.injEq] at hv
      exact hv.1
    rw [hA'] at hgA
    have : q = g' := by simpa [blkOf] using hgA
    subst this
    have h2 : Blk w q e cur' := hg'
    exact h2.differ h ht rfl
theorem own_far_blk {α : Type} {w : World} {q lo c cap : Nat} {e t : TypeId} {cs : Array Value} {f : α → List Value} {A : Option Addr} {l : List α} (ho : Own w lo e c f A cap l) (h : Blk w q t cs) (ht : e ≠ t) : blkOf A ≠ some q := by
  intro hgA
  rcases ho.2.2 with hn | ⟨g', cp, cur', hv, hb', hg', r⟩
  · have hAn : A = none := by
      have := hn.1
      simp only [Value.slice.injEq] at this
      exact this.1
    rw [hAn] at hgA
    cases hgA
  · have hA' : A = some ⟨g', 0, none⟩ := by
      simp only [Value.slice.injEq] at hv
      exact hv.1
    rw [hA'] at hgA
    have : g' = q := by simpa [blkOf] using hgA
    subst this
    have h2 : Blk w g' e cur' := hg'
    exact h2.differ h ht rfl
/-- What a step that makes one arc more leaves alone. -/
structure ArcKept (P lo : Nat) (w w' : World) : Prop where
  blk : ∀ q t cs, Blk w q t cs → q ≠ P → t ≠ 70 → Blk w' q t cs
  bel : ∀ B, B ≤ P → B ≤ lo → Below B w w'
theorem place_arc (P lo N m cap : Nat) (A : Option Addr) (l : List Arc) (f t mst : Int) (w : World) (hl : l.length = m) (hm : m ≤ 1000) (hlo : lo ≤ w.heap.size) (hk : Blk w P 64 #[.int .i64 N, .slice A m cap]) (ho : Own w lo 70 4 Arc.cells A cap l) :
    Calls Try.prog 90 #[.int .i64 f, .int .i64 t, .int .i64 mst, .pointer (some ⟨P, 0, none⟩)] w fun e w' => (∃ v, e = .returned v) ∧ ∃ A' cap', Blk w' P 64 #[.int .i64 N, .slice A' (m + 1) cap'] ∧ Own w' lo 70 4 Arc.cells A' cap' (l ++ [⟨f, t, mst, 0⟩]) ∧ ArcKept P lo w w' := by
  have c1 := hk.cell 1
  have HK := Lib.hid hk
  have HO := Lib.hid ho
  have HL := Lib.hid hl
  clear hk ho hl
  go_enter Try.func90, Try.ntmps90
  go_wp2_with (at_builtin; go_loud (
    refine wpList_push rfl _ _ _ rfl lo 4 70 (.agg #[.int .i64 0, .int .i64 0, .int .i64 0, .int .i64 0]) 32 Try.underlying62 (by kernel_rfl) rfl (by omega) Arc.cells w #[.int .i64 f, .int .i64 t, .int .i64 mst, .int .i64 0] A m cap l HL.out rfl HO.out 1 [⟨f, t, mst, 0⟩] rfl rfl _ rfl rfl (by simp [Value.oneCell']) (by unfold maxLen; omega) (by omega) hlo ?_
    intro A7 cap7 w7 hown7 hgrow7 hloc7
    have hk7 := (HK.out.alloc (.cells #[.int .i64 f, .int .i64 t, .int .i64 mst, .int .i64 0] 70)).past hgrow7 (HO.out.alloc _) (by decide)
    have f7 := hk7.frozen 1
    have d7 := hk7.cell 1
    have HK7 := Lib.hid hk7
    have HO7 := Lib.hid hown7
    have HG7 := Lib.hid hgrow7
    clear hown7 hgrow7 hloc7 hk7))
  go_end0
  have hb1 : ∀ B, B ≤ P → B ≤ lo → Below B w w7 := fun B h1 h2 => ((Below.refl B w).alloc (by omega) (.cells #[.int .i64 f, .int .i64 t, .int .i64 mst, .int .i64 0] 70)).grown HG7.out (by rw [size_alloc']; omega) (fun g e => by have := (HO.out.lt g e).1; omega)
  refine ⟨⟨_, rfl⟩, A7, cap7, by have := HK7.out.put 1 (.slice A7 (m + 1) cap7); exact this, ?_, ⟨fun q ty cs hq hne ht => ?_, fun B h1 h2 => (hb1 B h1 h2).setCell (p := ⟨P, 1, none⟩) h1 _⟩⟩
  · refine HO7.out.far (p := ⟨P, 1, none⟩) (fun e => ?_) _
    exact own_far_blk HO7.out HK7.out (by decide) e
  · exact ((hq.alloc (.cells #[.int .i64 f, .int .i64 t, .int .i64 mst, .int .i64 0] 70)).past HG7.out (HO.out.alloc _) (fun e => ht e.symm)).far (p := ⟨P, 1, none⟩) hne _
end Go.Proofs.Ytdinknpagklkjaa

/- A range over an iterator that keeps blocks of its own: what a caller owes, what the iterator owes. Conditions: none. -/
namespace Go.Proofs.Ytdinknpagklkjaa
open Go.RowKit Go.Shelf

/-- The iterator's word: Ini: what it begins at; At: what lies there as it hands over; KP: what a round that goes on keeps; St: what it does itself between two rounds. -/
def SeqV {β : Type} (P : Program) (gf : FuncId) (caps : Array Value) (args : β → Array Value) (Ini : World → Prop) (At : β → World → Prop) (KP St : World → World → Prop) (xs : List β) : Prop :=
  ∀ (n l : Nat) (J Jx : List β → World → Prop) (W : World), Ini W → (∀ s A B, J s A → St A B → J s B) → (∀ s A B, Jx s A → St A B → Jx s B) →
    (∀ m pre x W1, J pre W1 → At x W1 → pre ++ [x] <+: xs → YieldAt Fence.wide m P l (args x) W1 fun e W' =>
      (e = .returned (.bool true) ∧ J (pre ++ [x]) W' ∧ KP W1 W') ∨ (e = .returned (.bool false) ∧ Jx (pre ++ [x]) W')) →
    J [] W →
    CallsIn Fence.wide n P gf (#[.func (.yield l) #[] #[]] ++ caps) W fun e W' => (∃ v, e = .returned v) ∧ (J xs W' ∨ ∃ pre, pre <+: xs ∧ Jx pre W')

theorem wpIn_iter {β : Type} {P : Program} {g : Operand} {ps : Array Tmp} {assign body : Code} {Q : Exit → Act → World → Prop} {a : Act} {w : World} (n : Nat) (gf : FuncId) (caps : Array Value) (args : β → Array Value) (Ini : World → Prop) (At : β → World → Prop) (KP St : World → World → Prop) (xs : List β)
    (hg : a.eval g = .func (.func gf) #[] caps) (eg : ∀ args w, (callFunc gf args).run P w = .ok (.enter gf args) w)
    (hseq : SeqV P gf caps args Ini At KP St xs) (hps : ∀ x, (args x).size = ps.size)
    (hIni : ∀ V, Below w.heap.size w V → V.heap.size = w.heap.size + 1 + 1 → Ini V)
    (hSt : ∀ A B k, St A B → k < A.heap.size → w.heap.size ≤ k → k < w.heap.size + 1 + 1 → B.heap[k]? = A.heap[k]?)
    (hAt : ∀ x W o, w.heap.size + 1 < W.heap.size → At x W → At x (W.putObj (w.heap.size + 1) o)) (hKr : ∀ W o, w.heap.size + 1 < W.heap.size → KP W (W.putObj (w.heap.size + 1) o)) (hKt : ∀ {A B C}, KP A B → KP B C → KP A C)
    (I : List β → World → Prop) (Ix : Code → List β → World → Prop) (hI : OwnFrom w.heap.size I) (hIx : ∀ c, OwnFrom w.heap.size (Ix c)) (hst : ∀ s A B, I s A → St A B → I s B) (hstx : ∀ c s A B, Ix c s A → St A B → Ix c s B) (h0 : I [] w) (a₁ : β → Act)
    (hassign : ∀ (m l : Nat) (x : β) (W : World) (K : Act → World → Prop), K (a₁ x) W →
      assign.wpIn (Fence.wide.inRound l) m P (Exit.then K (fun _ _ _ => False)) { tmps := (ps.zip (args x)).foldl (fun t (p, v) => t.setIfInBounds p v) a.tmps, defers := [] } W)
    (hbody : ∀ (m l : Nat) (pre : List β) (x : β) (W : World), I pre W → At x W → pre ++ [x] <+: xs → body.wpIn (Fence.wide.inRound l) m P (ownPostG w.heap.size KP I Ix (pre ++ [x]) W) (a₁ x) W)
    (hdone : ∀ (D : Nat) (W : World), w.heap.size ≤ D → I xs W → W.heap[D]? = some (.deferred (some [])) → Q .normal { a with defers := { target := .collected D, args := #[] } :: a.defers } W)
    (hstop : ∀ (D : Nat) (c : Code) (pre : List β) (W : World), w.heap.size ≤ D → pre <+: xs → Ix c pre W → W.heap[D]? = some (.deferred (some [])) → c.wpIn Fence.wide n P Q { a with defers := { target := .collected D, args := #[] } :: a.defers } W) :
    (Code.rangeFunc g ps assign body).wpIn Fence.wide n P Q a w := by
  refine wpIn_rangeFunc fun fn hfn => ?_
  obtain ⟨D, hD⟩ : ∃ D, w.heap.size = D := ⟨_, rfl⟩
  let R : LoopState → Option Code → Loop := fun st pe => { state := st, pending := pe, fn := fn, tmps := a.tmps, params := ps, assign := assign, body := body, defers := D }
  obtain ⟨V, hV⟩ : ∃ V, V = (w.alloc (.deferred (some []))).alloc (.loop (R .ready none)) := ⟨_, rfl⟩
  have hrec : V.heap[D + 1]? = some (.loop (R .ready none)) := by
    have := World.alloc_heap_new (w.alloc (.deferred (some []))) (.loop (R .ready none))
    rw [World.size_alloc, hD] at this
    rw [hV]; exact this
  have hdef : V.heap[D]? = some (.deferred (some [])) := by
    rw [hV, ← hD]
    exact (Below.heap_alloc _ _ _ (by simp)).trans (World.alloc_heap_new w _)
  have hVI : I [] V := by rw [hV]; exact hI.alloc _ (hI.alloc _ h0)
  have hVb : Below w.heap.size w V := by rw [hV]; exact ((Below.refl _ w).alloc (Nat.le_refl _) _).alloc (by simp) _
  have hVs : V.heap.size = w.heap.size + 1 + 1 := by rw [hV]; simp
  have hVi := hIni V hVb hVs
  refine ⟨D + 1, [{ target := .collected D, args := #[] }], V, { target := .fn (.func gf) caps, args := #[.func (.yield (D + 1)) #[] #[]] }, V, gf,
    #[.func (.yield (D + 1)) #[] #[]] ++ caps, V, ?_, ?_, ?_, ?_, ?_, ?_⟩
  · have := run_enterLoop_outer (P := P) (w := w) fn a.tmps ps assign body
    rw [hD] at this
    rw [hV]; exact this
  · simp only [resolve, hg]
    simp [go_sem]
  · intro f' hf'
    trivial
  · simp [invoke, go_sem, eg]
  · intro h
    cases h
  · rw [hD] at hI hIx hbody hdone hstop hVb hSt hAt hKr
    have keep : ∀ {A B : World} {k : Nat} {o : Obj}, St A B → D ≤ k → k < D + 1 + 1 → A.heap[k]? = some o → B.heap[k]? = some o := fun {A B k o} hs h1 h2 ho =>
      (hSt A B k hs (Array.getElem?_eq_some_iff.1 ho).1 h1 h2).trans ho
    refine (hseq (n - 1) (D + 1) (fun pre W => I pre W ∧ W.heap[D + 1]? = some (.loop (R .ready none)) ∧ W.heap[D]? = some (.deferred (some [])))
      (fun pre W => ∃ c, Ix c pre W ∧ W.heap[D + 1]? = some (.loop (R .done (some c))) ∧ W.heap[D]? = some (.deferred (some []))) V hVi ?_ ?_ ?_ ⟨hVI, hrec, hdef⟩).mono ?_
    · rintro s A B ⟨h1, h2, h3⟩ hs
      exact ⟨hst s A B h1 hs, keep hs (by omega) (by omega) h2, keep hs (Nat.le_refl _) (by omega) h3⟩
    · rintro s A B ⟨c, h1, h2, h3⟩ hs
      exact ⟨c, hstx c s A B h1 hs, keep hs (by omega) (by omega) h2, keep hs (Nat.le_refl _) (by omega) h3⟩
    · -- one round
      rintro m pre x W ⟨hi, hl, hk⟩ hat hpx
      have hlt : D + 1 < W.heap.size := (Array.getElem?_eq_some_iff.1 hl).1
      have hy : (Instr.yield (D + 1) (args x)).run P W = .ok (.round (D + 1) fn ((ps.zip (args x)).foldl (fun t (p, v) => t.setIfInBounds p v) a.tmps) assign body) W :=
        run_yield hl (hps x)
      refine ⟨fn, _, assign, body, hy, roundIn_of_wpIn hfn (hassign _ _ x W _ ⟨_, run_beginRound hl rfl, ?_⟩)⟩
      obtain ⟨W2, hW2⟩ : ∃ W2, W2 = W.putObj (D + 1) (.loop { R .ready none with state := .busy }) := ⟨_, rfl⟩
      rw [← hW2]
      have hl2 : W2.heap[D + 1]? = some (.loop { R .ready none with state := .busy }) := by rw [hW2]; exact World.putObj_heap_same hlt
      have hk2 : W2.heap[D]? = some (.deferred (some [])) := by rw [hW2]; exact (World.putObj_heap_other (by omega)).trans hk
      have hi2 : I pre W2 := by rw [hW2]; exact hI.putObj _ hi (by omega) hl rfl
      have hp2 : KP W W2 := by rw [hW2]; exact hKr W _ hlt
      have hat2 : At x W2 := by rw [hW2]; exact hAt x W _ hlt hat
      refine wpIn_mono (hbody _ _ pre x W2 hi2 hat2 hpx) ?_
      have leave : ∀ (c : Code) (W3 : World), KeepsFrom D W2 W3 → Ix c (pre ++ [x]) W3 →
          ∃ v W4, (Instr.endRound (D + 1) (some c)).run P W3 = .ok v W4 ∧ ((Ending.returned v = .returned (.bool true) ∧ (I (pre ++ [x]) W4 ∧ W4.heap[D + 1]? = some (.loop (R .ready none)) ∧ W4.heap[D]? = some (.deferred (some []))) ∧ KP W W4) ∨
            (Ending.returned v = .returned (.bool false) ∧ ∃ c, Ix c (pre ++ [x]) W4 ∧ W4.heap[D + 1]? = some (.loop (R .done (some c))) ∧ W4.heap[D]? = some (.deferred (some [])))) := by
        intro c W3 hk3 hi3
        have hl3 := hk3.same _ _ (by omega) hl2 rfl
        exact ⟨_, _, run_endRound (some c) hl3, .inr ⟨rfl, c, (hIx c).putObj _ hi3 (by omega) hl3 rfl, World.putObj_heap_same (Array.getElem?_eq_some_iff.1 hl3).1, (World.putObj_heap_other (by omega)).trans (hk3.same _ _ (Nat.le_refl _) hk2 rfl)⟩⟩
      rintro e a3 W3 hp
      cases e with
      | normal =>
        obtain ⟨hk3, hkp, hi3⟩ := hp
        have hl3 := hk3.same _ _ (by omega) hl2 rfl
        exact ⟨_, _, run_endRound none hl3, .inl ⟨rfl, ⟨hI.putObj _ hi3 (by omega) hl3 rfl, World.putObj_heap_same (Array.getElem?_eq_some_iff.1 hl3).1, (World.putObj_heap_other (by omega)).trans (hk3.same _ _ (Nat.le_refl _) hk2 rfl)⟩, hKt (hKt hp2 hkp) (hKr W3 _ (Array.getElem?_eq_some_iff.1 hl3).1)⟩⟩
      | ret => exact leave .ret W3 hp.1 hp.2
      | exit id => exact leave (.exit id) W3 hp.1 hp.2
      | goto t => exact leave (.goto t) W3 hp.1 hp.2
      | panic ch => exact hp.elim
      | outgrown => exact hp.elim
    · -- the iterator has returned
      rintro e W2 ⟨⟨v, rfl⟩, ⟨hi, hl, hk⟩ | ⟨pre, hpre, c, hi, hl, hk⟩⟩
      · exact ⟨none, _, run_endLoop hl (by intro h; cases h), hdone D _ (Nat.le_refl _) (hI.putObj _ hi (by omega) hl rfl) ((World.putObj_heap_other (by omega)).trans hk)⟩
      · exact ⟨some c, _, run_endLoop hl (by intro h; cases h), hstop D c pre _ (Nat.le_refl _) hpre ((hIx c).putObj _ hi (by omega) hl rfl) ((World.putObj_heap_other (by omega)).trans hk)⟩
/-- The same for an iterator that hands over one value, the loop's variable in a slot of its own. -/
theorem wpIn_iter1 {β : Type} {P : Program} {p q : Nat} {g : Operand} {assign body : Code} {Q : Exit → Act → World → Prop} {t : Array Value} {ds : List Deferred} {w : World} (n : Nat) (gf : FuncId) (caps : Array Value) (val : β → Value) (Ini : World → Prop) (At : β → World → Prop) (KP St : World → World → Prop) (xs : List β)
    (hg : ({ tmps := t, defers := ds } : Act).eval g = .func (.func gf) #[] caps) (eg : ∀ args w, (callFunc gf args).run P w = .ok (.enter gf args) w)
    (hseq : SeqV P gf caps (fun x => #[val x]) Ini At KP St xs)
    (hIni : ∀ V, Below w.heap.size w V → V.heap.size = w.heap.size + 1 + 1 → Ini V)
    (hSt : ∀ A B k, St A B → k < A.heap.size → w.heap.size ≤ k → k < w.heap.size + 1 + 1 → B.heap[k]? = A.heap[k]?)
    (hAt : ∀ x W o, w.heap.size + 1 < W.heap.size → At x W → At x (W.putObj (w.heap.size + 1) o)) (hKr : ∀ W o, w.heap.size + 1 < W.heap.size → KP W (W.putObj (w.heap.size + 1) o)) (hKt : ∀ {A B C}, KP A B → KP B C → KP A C)
    (I : List β → World → Prop) (Ix : Code → List β → World → Prop) (hI : OwnFrom w.heap.size I) (hIx : ∀ c, OwnFrom w.heap.size (Ix c)) (hst : ∀ s A B, I s A → St A B → I s B) (hstx : ∀ c s A B, Ix c s A → St A B → Ix c s B) (h0 : I [] w)
    (hassign : ∀ (m l : Nat) (x : β) (W : World) (K : Act → World → Prop), K { tmps := (t.setIfInBounds p (val x)).setIfInBounds q (val x), defers := [] } W →
      assign.wpIn (Fence.wide.inRound l) m P (Exit.then K (fun _ _ _ => False)) { tmps := t.setIfInBounds p (val x), defers := [] } W)
    (hbody : ∀ (m l : Nat) (pre : List β) (x : β) (W : World), I pre W → At x W → pre ++ [x] <+: xs → body.wpIn (Fence.wide.inRound l) m P (ownPostG w.heap.size KP I Ix (pre ++ [x]) W) { tmps := (t.setIfInBounds p (val x)).setIfInBounds q (val x), defers := [] } W)
    (hdone : ∀ (D : Nat) (W : World), w.heap.size ≤ D → I xs W → W.heap[D]? = some (.deferred (some [])) → Q .normal { tmps := t, defers := { target := .collected D, args := #[] } :: ds } W)
    (hstop : ∀ (D : Nat) (c : Code) (pre : List β) (W : World), w.heap.size ≤ D → pre <+: xs → Ix c pre W → W.heap[D]? = some (.deferred (some [])) → c.wpIn Fence.wide n P Q { tmps := t, defers := { target := .collected D, args := #[] } :: ds } W) :
    (Code.rangeFunc g #[p] assign body).wpIn Fence.wide n P Q { tmps := t, defers := ds } w :=
  wpIn_iter n gf caps (fun x => #[val x]) Ini At KP St xs hg eg hseq (fun _ => rfl) hIni hSt hAt hKr hKt I Ix hI hIx hst hstx h0 (fun x => { tmps := (t.setIfInBounds p (val x)).setIfInBounds q (val x), defers := [] })
    (fun m l x W K hK => by simpa using hassign m l x W K hK) hbody hdone hstop
/-- The same for an iterator that hands over two values, of which the loop keeps the second. -/
theorem wpIn_iter2 {β : Type} {P : Program} {p1 p2 q : Nat} {g : Operand} {assign body : Code} {Q : Exit → Act → World → Prop} {t : Array Value} {ds : List Deferred} {w : World} (n : Nat) (gf : FuncId) (caps : Array Value) (v1 v2 : β → Value) (Ini : World → Prop) (At : β → World → Prop) (KP St : World → World → Prop) (xs : List β)
    (hg : ({ tmps := t, defers := ds } : Act).eval g = .func (.func gf) #[] caps) (eg : ∀ args w, (callFunc gf args).run P w = .ok (.enter gf args) w)
    (hseq : SeqV P gf caps (fun x => #[v1 x, v2 x]) Ini At KP St xs)
    (hIni : ∀ V, Below w.heap.size w V → V.heap.size = w.heap.size + 1 + 1 → Ini V)
    (hSt : ∀ A B k, St A B → k < A.heap.size → w.heap.size ≤ k → k < w.heap.size + 1 + 1 → B.heap[k]? = A.heap[k]?)
    (hAt : ∀ x W o, w.heap.size + 1 < W.heap.size → At x W → At x (W.putObj (w.heap.size + 1) o)) (hKr : ∀ W o, w.heap.size + 1 < W.heap.size → KP W (W.putObj (w.heap.size + 1) o)) (hKt : ∀ {A B C}, KP A B → KP B C → KP A C)
    (I : List β → World → Prop) (Ix : Code → List β → World → Prop) (hI : OwnFrom w.heap.size I) (hIx : ∀ c, OwnFrom w.heap.size (Ix c)) (hst : ∀ s A B, I s A → St A B → I s B) (hstx : ∀ c s A B, Ix c s A → St A B → Ix c s B) (h0 : I [] w)
    (hassign : ∀ (m l : Nat) (x : β) (W : World) (K : Act → World → Prop), K { tmps := ((t.setIfInBounds p1 (v1 x)).setIfInBounds p2 (v2 x)).setIfInBounds q (v2 x), defers := [] } W →
      assign.wpIn (Fence.wide.inRound l) m P (Exit.then K (fun _ _ _ => False)) { tmps := (t.setIfInBounds p1 (v1 x)).setIfInBounds p2 (v2 x), defers := [] } W)
    (hbody : ∀ (m l : Nat) (pre : List β) (x : β) (W : World), I pre W → At x W → pre ++ [x] <+: xs → body.wpIn (Fence.wide.inRound l) m P (ownPostG w.heap.size KP I Ix (pre ++ [x]) W) { tmps := ((t.setIfInBounds p1 (v1 x)).setIfInBounds p2 (v2 x)).setIfInBounds q (v2 x), defers := [] } W)
    (hdone : ∀ (D : Nat) (W : World), w.heap.size ≤ D → I xs W → W.heap[D]? = some (.deferred (some [])) → Q .normal { tmps := t, defers := { target := .collected D, args := #[] } :: ds } W)
    (hstop : ∀ (D : Nat) (c : Code) (pre : List β) (W : World), w.heap.size ≤ D → pre <+: xs → Ix c pre W → W.heap[D]? = some (.deferred (some [])) → c.wpIn Fence.wide n P Q { tmps := t, defers := { target := .collected D, args := #[] } :: ds } W) :
    (Code.rangeFunc g #[p1, p2] assign body).wpIn Fence.wide n P Q { tmps := t, defers := ds } w :=
  wpIn_iter n gf caps (fun x => #[v1 x, v2 x]) Ini At KP St xs hg eg hseq (fun _ => rfl) hIni hSt hAt hKr hKt I Ix hI hIx hst hstx h0 (fun x => { tmps := ((t.setIfInBounds p1 (v1 x)).setIfInBounds p2 (v2 x)).setIfInBounds q (v2 x), defers := [] })
    (fun m l x W K hK => by simpa using hassign m l x W K hK) hbody hdone hstop
/-- A call in a walk at the wide fence by the callee's fenced contract; in a round. -/
theorem wide_callF {n m : Nat} {P : Program} {f : FuncId} {args : Array Value} {w : World} {R : Ending → World → Prop} (h : CallsIn Fence.wide m P f args w R) : Fence.wide.fn f ∧ (Fence.wide.depth.isSome = true → 1 ≤ n) ∧ CallsIn Fence.wide m P f args w R :=
  ⟨trivial, (fun h => by cases h), h⟩
theorem wide_callI {n m : Nat} {P : Program} {f : FuncId} {args : Array Value} {w : World} {R : Ending → World → Prop} (h : Calls P f args w R) : Fence.wide.fn f ∧ (Fence.wide.depth.isSome = true → 1 ≤ n) ∧ CallsIn Fence.wide m P f args w R :=
  ⟨trivial, (fun h => by cases h), callsIn_wide.2 h⟩
theorem round_callI {n m l : Nat} {P : Program} {f : FuncId} {args : Array Value} {w : World} {R : Ending → World → Prop} (h : Calls P f args w R) : (Fence.wide.inRound l).fn f ∧ ((Fence.wide.inRound l).depth.isSome = true → 1 ≤ n) ∧ CallsIn (Fence.wide.inRound l) m P f args w R :=
  ⟨trivial, (fun h => by cases h), CallsIn.inRound l (callsIn_wide.2 h)⟩
end Go.Proofs.Ytdinknpagklkjaa

/- A range over a bound method that iterates: XIter's laws with arguments ahead. Conditions: none. -/
namespace Go.Proofs.Ytdinknpagklkjaa
open Go.RowKit Go.Shelf

/-- The iterator's word: Ini: what it begins at; At: what lies there as it hands over; KP: what a round that goes on keeps; St: what it does itself between two rounds. -/
def SeqM {β : Type} (P : Program) (gf : FuncId) (bnd caps : Array Value) (args : β → Array Value) (Ini : World → Prop) (At : β → World → Prop) (KP St : World → World → Prop) (xs : List β) : Prop :=
  ∀ (n l : Nat) (J Jx : List β → World → Prop) (W : World), Ini W → (∀ s A B, J s A → St A B → J s B) → (∀ s A B, Jx s A → St A B → Jx s B) →
    (∀ m pre x W1, J pre W1 → At x W1 → pre ++ [x] <+: xs → YieldAt Fence.wide m P l (args x) W1 fun e W' =>
      (e = .returned (.bool true) ∧ J (pre ++ [x]) W' ∧ KP W1 W') ∨ (e = .returned (.bool false) ∧ Jx (pre ++ [x]) W')) →
    J [] W →
    CallsIn Fence.wide n P gf (bnd ++ #[.func (.yield l) #[] #[]] ++ caps) W fun e W' => (∃ v, e = .returned v) ∧ (J xs W' ∨ ∃ pre, pre <+: xs ∧ Jx pre W')

theorem wpIn_iterM {β : Type} {P : Program} {g : Operand} {ps : Array Tmp} {assign body : Code} {Q : Exit → Act → World → Prop} {a : Act} {w : World} (n : Nat) (gf : FuncId) (bnd caps : Array Value) (args : β → Array Value) (Ini : World → Prop) (At : β → World → Prop) (KP St : World → World → Prop) (xs : List β)
    (hg : a.eval g = .func (.func gf) bnd caps) (eg : ∀ args w, (callFunc gf args).run P w = .ok (.enter gf args) w)
    (hseq : SeqM P gf bnd caps args Ini At KP St xs) (hps : ∀ x, (args x).size = ps.size)
    (hIni : ∀ V, Below w.heap.size w V → V.heap.size = w.heap.size + 1 + 1 → Ini V)
    (hSt : ∀ A B k, St A B → k < A.heap.size → w.heap.size ≤ k → k < w.heap.size + 1 + 1 → B.heap[k]? = A.heap[k]?)
    (hAt : ∀ x W o, w.heap.size + 1 < W.heap.size → At x W → At x (W.putObj (w.heap.size + 1) o)) (hKr : ∀ W o, w.heap.size + 1 < W.heap.size → KP W (W.putObj (w.heap.size + 1) o)) (hKt : ∀ {A B C}, KP A B → KP B C → KP A C)
    (I : List β → World → Prop) (Ix : Code → List β → World → Prop) (hI : OwnFrom w.heap.size I) (hIx : ∀ c, OwnFrom w.heap.size (Ix c)) (hst : ∀ s A B, I s A → St A B → I s B) (hstx : ∀ c s A B, Ix c s A → St A B → Ix c s B) (h0 : I [] w) (a₁ : β → Act)
    (hassign : ∀ (m l : Nat) (x : β) (W : World) (K : Act → World → Prop), K (a₁ x) W →
      assign.wpIn (Fence.wide.inRound l) m P (Exit.then K (fun _ _ _ => False)) { tmps := (ps.zip (args x)).foldl (fun t (p, v) => t.setIfInBounds p v) a.tmps, defers := [] } W)
    (hbody : ∀ (m l : Nat) (pre : List β) (x : β) (W : World), I pre W → At x W → pre ++ [x] <+: xs → body.wpIn (Fence.wide.inRound l) m P (ownPostG w.heap.size KP I Ix (pre ++ [x]) W) (a₁ x) W)
    (hdone : ∀ (D : Nat) (W : World), w.heap.size ≤ D → I xs W → W.heap[D]? = some (.deferred (some [])) → Q .normal { a with defers := { target := .collected D, args := #[] } :: a.defers } W)
    (hstop : ∀ (D : Nat) (c : Code) (pre : List β) (W : World), w.heap.size ≤ D → pre <+: xs → Ix c pre W → W.heap[D]? = some (.deferred (some [])) → c.wpIn Fence.wide n P Q { a with defers := { target := .collected D, args := #[] } :: a.defers } W) :
    (Code.rangeFunc g ps assign body).wpIn Fence.wide n P Q a w := by
  refine wpIn_rangeFunc fun fn hfn => ?_
  obtain ⟨D, hD⟩ : ∃ D, w.heap.size = D := ⟨_, rfl⟩
  let R : LoopState → Option Code → Loop := fun st pe => { state := st, pending := pe, fn := fn, tmps := a.tmps, params := ps, assign := assign, body := body, defers := D }
  obtain ⟨V, hV⟩ : ∃ V, V = (w.alloc (.deferred (some []))).alloc (.loop (R .ready none)) := ⟨_, rfl⟩
  have hrec : V.heap[D + 1]? = some (.loop (R .ready none)) := by
    have := World.alloc_heap_new (w.alloc (.deferred (some []))) (.loop (R .ready none))
    rw [World.size_alloc, hD] at this
    rw [hV]; exact this
  have hdef : V.heap[D]? = some (.deferred (some [])) := by
    rw [hV, ← hD]
    exact (Below.heap_alloc _ _ _ (by simp)).trans (World.alloc_heap_new w _)
  have hVI : I [] V := by rw [hV]; exact hI.alloc _ (hI.alloc _ h0)
  have hVb : Below w.heap.size w V := by rw [hV]; exact ((Below.refl _ w).alloc (Nat.le_refl _) _).alloc (by simp) _
  have hVs : V.heap.size = w.heap.size + 1 + 1 := by rw [hV]; simp
  have hVi := hIni V hVb hVs
  refine ⟨D + 1, [{ target := .collected D, args := #[] }], V, { target := .fn (.func gf) caps, args := bnd ++ #[.func (.yield (D + 1)) #[] #[]] }, V, gf,
    bnd ++ #[.func (.yield (D + 1)) #[] #[]] ++ caps, V, ?_, ?_, ?_, ?_, ?_, ?_⟩
  · have := run_enterLoop_outer (P := P) (w := w) fn a.tmps ps assign body
    rw [hD] at this
    rw [hV]; exact this
  · simp only [resolve, hg]
    simp [go_sem]
  · intro f' hf'
    trivial
  · simp [invoke, go_sem, eg]
  · intro h
    cases h
  · rw [hD] at hI hIx hbody hdone hstop hVb hSt hAt hKr
    have keep : ∀ {A B : World} {k : Nat} {o : Obj}, St A B → D ≤ k → k < D + 1 + 1 → A.heap[k]? = some o → B.heap[k]? = some o := fun {A B k o} hs h1 h2 ho =>
      (hSt A B k hs (Array.getElem?_eq_some_iff.1 ho).1 h1 h2).trans ho
    refine (hseq (n - 1) (D + 1) (fun pre W => I pre W ∧ W.heap[D + 1]? = some (.loop (R .ready none)) ∧ W.heap[D]? = some (.deferred (some [])))
      (fun pre W => ∃ c, Ix c pre W ∧ W.heap[D + 1]? = some (.loop (R .done (some c))) ∧ W.heap[D]? = some (.deferred (some []))) V hVi ?_ ?_ ?_ ⟨hVI, hrec, hdef⟩).mono ?_
    · rintro s A B ⟨h1, h2, h3⟩ hs
      exact ⟨hst s A B h1 hs, keep hs (by omega) (by omega) h2, keep hs (Nat.le_refl _) (by omega) h3⟩
    · rintro s A B ⟨c, h1, h2, h3⟩ hs
      exact ⟨c, hstx c s A B h1 hs, keep hs (by omega) (by omega) h2, keep hs (Nat.le_refl _) (by omega) h3⟩
    · -- one round
      rintro m pre x W ⟨hi, hl, hk⟩ hat hpx
      have hlt : D + 1 < W.heap.size := (Array.getElem?_eq_some_iff.1 hl).1
      have hy : (Instr.yield (D + 1) (args x)).run P W = .ok (.round (D + 1) fn ((ps.zip (args x)).foldl (fun t (p, v) => t.setIfInBounds p v) a.tmps) assign body) W :=
        run_yield hl (hps x)
      refine ⟨fn, _, assign, body, hy, roundIn_of_wpIn hfn (hassign _ _ x W _ ⟨_, run_beginRound hl rfl, ?_⟩)⟩
      obtain ⟨W2, hW2⟩ : ∃ W2, W2 = W.putObj (D + 1) (.loop { R .ready none with state := .busy }) := ⟨_, rfl⟩
      rw [← hW2]
      have hl2 : W2.heap[D + 1]? = some (.loop { R .ready none with state := .busy }) := by rw [hW2]; exact World.putObj_heap_same hlt
      have hk2 : W2.heap[D]? = some (.deferred (some [])) := by rw [hW2]; exact (World.putObj_heap_other (by omega)).trans hk
      have hi2 : I pre W2 := by rw [hW2]; exact hI.putObj _ hi (by omega) hl rfl
      have hp2 : KP W W2 := by rw [hW2]; exact hKr W _ hlt
      have hat2 : At x W2 := by rw [hW2]; exact hAt x W _ hlt hat
      refine wpIn_mono (hbody _ _ pre x W2 hi2 hat2 hpx) ?_
      have leave : ∀ (c : Code) (W3 : World), KeepsFrom D W2 W3 → Ix c (pre ++ [x]) W3 →
          ∃ v W4, (Instr.endRound (D + 1) (some c)).run P W3 = .ok v W4 ∧ ((Ending.returned v = .returned (.bool true) ∧ (I (pre ++ [x]) W4 ∧ W4.heap[D + 1]? = some (.loop (R .ready none)) ∧ W4.heap[D]? = some (.deferred (some []))) ∧ KP W W4) ∨
            (Ending.returned v = .returned (.bool false) ∧ ∃ c, Ix c (pre ++ [x]) W4 ∧ W4.heap[D + 1]? = some (.loop (R .done (some c))) ∧ W4.heap[D]? = some (.deferred (some [])))) := by
        intro c W3 hk3 hi3
        have hl3 := hk3.same _ _ (by omega) hl2 rfl
        exact ⟨_, _, run_endRound (some c) hl3, .inr ⟨rfl, c, (hIx c).putObj _ hi3 (by omega) hl3 rfl, World.putObj_heap_same (Array.getElem?_eq_some_iff.1 hl3).1, (World.putObj_heap_other (by omega)).trans (hk3.same _ _ (Nat.le_refl _) hk2 rfl)⟩⟩
      rintro e a3 W3 hp
      cases e with
      | normal =>
        obtain ⟨hk3, hkp, hi3⟩ := hp
        have hl3 := hk3.same _ _ (by omega) hl2 rfl
        exact ⟨_, _, run_endRound none hl3, .inl ⟨rfl, ⟨hI.putObj _ hi3 (by omega) hl3 rfl, World.putObj_heap_same (Array.getElem?_eq_some_iff.1 hl3).1, (World.putObj_heap_other (by omega)).trans (hk3.same _ _ (Nat.le_refl _) hk2 rfl)⟩, hKt (hKt hp2 hkp) (hKr W3 _ (Array.getElem?_eq_some_iff.1 hl3).1)⟩⟩
      | ret => exact leave .ret W3 hp.1 hp.2
      | exit id => exact leave (.exit id) W3 hp.1 hp.2
      | goto t => exact leave (.goto t) W3 hp.1 hp.2
      | panic ch => exact hp.elim
      | outgrown => exact hp.elim
    · -- the iterator has returned
      rintro e W2 ⟨⟨v, rfl⟩, ⟨hi, hl, hk⟩ | ⟨pre, hpre, c, hi, hl, hk⟩⟩
      · exact ⟨none, _, run_endLoop hl (by intro h; cases h), hdone D _ (Nat.le_refl _) (hI.putObj _ hi (by omega) hl rfl) ((World.putObj_heap_other (by omega)).trans hk)⟩
      · exact ⟨some c, _, run_endLoop hl (by intro h; cases h), hstop D c pre _ (Nat.le_refl _) hpre ((hIx c).putObj _ hi (by omega) hl rfl) ((World.putObj_heap_other (by omega)).trans hk)⟩
/-- The same for an iterator that hands over one value, the loop's variable in a slot of its own. -/
theorem wpIn_iterM1 {β : Type} {P : Program} {p q : Nat} {g : Operand} {assign body : Code} {Q : Exit → Act → World → Prop} {t : Array Value} {ds : List Deferred} {w : World} (n : Nat) (gf : FuncId) (bnd caps : Array Value) (val : β → Value) (Ini : World → Prop) (At : β → World → Prop) (KP St : World → World → Prop) (xs : List β)
    (hg : ({ tmps := t, defers := ds } : Act).eval g = .func (.func gf) bnd caps) (eg : ∀ args w, (callFunc gf args).run P w = .ok (.enter gf args) w)
    (hseq : SeqM P gf bnd caps (fun x => #[val x]) Ini At KP St xs)
    (hIni : ∀ V, Below w.heap.size w V → V.heap.size = w.heap.size + 1 + 1 → Ini V)
    (hSt : ∀ A B k, St A B → k < A.heap.size → w.heap.size ≤ k → k < w.heap.size + 1 + 1 → B.heap[k]? = A.heap[k]?)
    (hAt : ∀ x W o, w.heap.size + 1 < W.heap.size → At x W → At x (W.putObj (w.heap.size + 1) o)) (hKr : ∀ W o, w.heap.size + 1 < W.heap.size → KP W (W.putObj (w.heap.size + 1) o)) (hKt : ∀ {A B C}, KP A B → KP B C → KP A C)
    (I : List β → World → Prop) (Ix : Code → List β → World → Prop) (hI : OwnFrom w.heap.size I) (hIx : ∀ c, OwnFrom w.heap.size (Ix c)) (hst : ∀ s A B, I s A → St A B → I s B) (hstx : ∀ c s A B, Ix c s A → St A B → Ix c s B) (h0 : I [] w)
    (hassign : ∀ (m l : Nat) (x : β) (W : World) (K : Act → World → Prop), K { tmps := (t.setIfInBounds p (val x)).setIfInBounds q (val x), defers := [] } W →
      assign.wpIn (Fence.wide.inRound l) m P (Exit.then K (fun _ _ _ => False)) { tmps := t.setIfInBounds p (val x), defers := [] } W)
    (hbody : ∀ (m l : Nat) (pre : List β) (x : β) (W : World), I pre W → At x W → pre ++ [x] <+: xs → body.wpIn (Fence.wide.inRound l) m P (ownPostG w.heap.size KP I Ix (pre ++ [x]) W) { tmps := (t.setIfInBounds p (val x)).setIfInBounds q (val x), defers := [] } W)
    (hdone : ∀ (D : Nat) (W : World), w.heap.size ≤ D → I xs W → W.heap[D]? = some (.deferred (some [])) → Q .normal { tmps := t, defers := { target := .collected D, args := #[] } :: ds } W)
    (hstop : ∀ (D : Nat) (c : Code) (pre : List β) (W : World), w.heap.size ≤ D → pre <+: xs → Ix c pre W → W.heap[D]? = some (.deferred (some [])) → c.wpIn Fence.wide n P Q { tmps := t, defers := { target := .collected D, args := #[] } :: ds } W) :
    (Code.rangeFunc g #[p] assign body).wpIn Fence.wide n P Q { tmps := t, defers := ds } w :=
  wpIn_iterM n gf bnd caps (fun x => #[val x]) Ini At KP St xs hg eg hseq (fun _ => rfl) hIni hSt hAt hKr hKt I Ix hI hIx hst hstx h0 (fun x => { tmps := (t.setIfInBounds p (val x)).setIfInBounds q (val x), defers := [] })
    (fun m l x W K hK => by simpa using hassign m l x W K hK) hbody hdone hstop
end Go.Proofs.Ytdinknpagklkjaa

/- All steps of an open net: what the iterator hands over. Conditions: the net lies still as the walk begins. -/
namespace Go.Proofs.Ytdinknpagklkjaa
open Go.RowKit Go.Shelf
attribute [local go_sem] Oper.semAt_some

theorem stepsL_succ (i : Nat) : stepsL (i + 1) = (stepsL i ++ [(i, false)]) ++ [(i, true)] := by
  unfold stepsL
  rw [List.range_succ, List.flatMap_append]
  simp
theorem stepsL_pre {i : Nat} : ∀ m, i ≤ m → stepsL i <+: stepsL m
  | 0, h => by rw [show i = 0 by omega]; exact List.prefix_refl _
  | m + 1, h => by
    by_cases e : i = m + 1
    · rw [e]; exact List.prefix_refl _
    · exact (stepsL_pre m (by omega)).trans ⟨_, by rw [stepsL_succ, List.append_assoc]⟩
set_option maxRecDepth 100000 in
set_option maxHeartbeats 1000000 in
theorem steps_seq (P N : Nat) (A : Option Addr) (n c : Nat) (G : Value) (hn : n ≤ 100000) :
    SeqM Try.prog 121 #[.pointer (some ⟨P, 0, none⟩)] #[] (fun x : Stp => #[stepV x]) (fun V => Blk V P 119 #[.int .i64 N, .slice A n c, G]) (fun _ _ => True) (fun _ _ => True) (fun W W' => W = W') (stepsL n) := by
  intro m yl J Jx W hk hst hstx hY h0
  have HY := Lib.hid hY
  have HJ : Hid (J (stepsL 0) W) := Lib.hid h0
  have c0 := hk.cell 0
  have c1 := hk.cell 1
  clear hst hstx hY h0 hk
  refine callsIn_of_wp Try.func121 rfl trivial ?_ rfl
  simp only [Try.ntmps121, List.size_toArray, List.length_cons, List.length_nil, Nat.reduceAdd, Nat.reduceSub, Array.replicate_succ, Array.replicate_zero, List.push_toArray, List.append_toArray, List.nil_append, List.cons_append, List.append_nil]
  gi_wp2_with fail
  clear c0 c1
  gi_loopw [11] (fun s11 wr => ∃ i : Nat, i ≤ n ∧ s11 = .int .i64 i ∧ J (stepsL i) wr) (fun s11 _ => n - (intOf s11).toNat)
  case atStart => exact ⟨0, by omega, rfl, HJ.out⟩
  case round =>
    clear HJ
    rename World => wr
    obtain ⟨i, hi, rfl, hJ⟩ := hrel
    have HJ := Lib.hid hJ
    clear hJ
    by_cases hlt : i < n
    · have hp2 : (stepsL i ++ [(i, false)]) ++ [(i, true)] <+: stepsL n := by
        rw [← stepsL_succ]
        exact stepsL_pre n (by omega)
      have hp1 : stepsL i ++ [(i, false)] <+: stepsL n := List.IsPrefix.trans ⟨_, rfl⟩ hp2
      obtain ⟨fn, tmps, assign, body, hy, hR⟩ := HY.out (m - 1) _ (i, false) wr HJ.out trivial hp1
      have HR := Lib.hid hR
      have HP1 := Lib.hid hp1
      have HP2 := Lib.hid hp2
      have hwi : IntKind.i64.wrap ((i : Int) + 1) = (i : Int) + 1 := IntWalk.i64_in _ (by omega)
      clear hR hp1 hp2
      gi_wp2_with fail
      refine ⟨(fun h => by cases h), HR.out.mono ?_⟩
      clear HR hy
      rintro e W3 (⟨rfl, hJ3, hk3⟩ | ⟨rfl, hJx3⟩)
      · obtain ⟨fn, tmps, assign, body, hy, hR⟩ := HY.out (m - 1) _ (i, true) W3 hJ3 trivial HP2.out
        have HR := Lib.hid hR
        clear hR hJ3 hk3
        gi_wp2_with fail
        refine ⟨(fun h => by cases h), HR.out.mono ?_⟩
        clear HR hy
        rintro e W4 (⟨rfl, hJ4, hk4⟩ | ⟨rfl, hJx4⟩)
        · have HJ4 : Hid (J (stepsL (i + 1)) W4) := Lib.hid (by rw [stepsL_succ]; exact hJ4)
          clear hJ4 hk4
          gi_wp2_with fail
          go_roundw
          case rel => exact ⟨i + 1, by omega, by simp, HJ4.out⟩
          case measure => first | (simp [intOf]; done) | (simp [intOf]; omega)
        · have HJX := Lib.hid hJx4
          clear hJx4
          gi_wp2_with fail
          refine bodyPost_ret (results_none rfl _ _ _) rfl ?_
          exact ⟨⟨_, rfl⟩, .inr ⟨_, HP2.out, HJX.out⟩⟩
      · have HJX := Lib.hid hJx3
        clear hJx3
        gi_wp2_with fail
        all_goals refine ⟨(fun f h => by cases h), ?_⟩
        all_goals gi_wp2_with fail
        all_goals
          refine bodyPost_ret (results_none rfl _ _ _) rfl ?_
          exact ⟨⟨_, rfl⟩, .inr ⟨_, HP1.out, HJX.out⟩⟩
    · obtain rfl : i = n := by omega
      gi_wp2_with fail
      go_end0
      exact ⟨⟨_, rfl⟩, .inl HJ.out⟩
end Go.Proofs.Ytdinknpagklkjaa
