/- What the search for a way keeps: the queue, the map, the boxes. Conditions: none. -/
import Derived.Test.YtdinknpagklkjaaLotsBests11
import Derived.Test.YtdinknpagklkjaaLotsBests12
import Derived.Test.YtdinknpagklkjaaLotsBests5
import Derived.Test.YtdinknpagklkjaaLotsBests2
import Derived.Test.YtdinknpagklkjaaLotsBests3
namespace Go.Proofs.Ytdinknpagklkjaa
open Go.RowKit Go.Shelf

theorem Held.grown2 {ex : List Nat} {a w w' : World} {row : Option Nat} (h : Held ex a w) (hg : w.grownBy w' row) (hr : ∀ g, row = some g → g ∈ ex ∨ a.heap.size ≤ g) : Held ex a w' :=
  ⟨hg.os.trans h.os, hg.tape.trans h.tape, hg.output.trans h.output, Nat.le_trans h.size hg.size, fun k hk hx =>
    (hg.block k (Nat.lt_of_lt_of_le hk h.size) (fun e => by
      rcases hr k e.symm with h1 | h1
      · exact hx h1
      · omega)).trans (h.block k hk hx)⟩
theorem KeepsFrom.held2 {B : Nat} {ex : List Nat} {W W' : World} (h : Held ex W W') (hx : ∀ k ∈ ex, B ≤ k → ∀ o : Obj, W.heap[k]? = some o → o.isCells = true) : KeepsFrom B W W' :=
  ⟨h.size, fun k o hk ho hc => by
    by_cases hm : k ∈ ex
    · have := hx k hm hk o ho
      rw [hc] at this
      cases this
    · exact (h.block k (lt_of_block ho) hm).trans ho⟩
theorem Fifo.cells {w : World} {B cap : Nat} {A : Option Addr} {l : List Int} (h : Fifo w B A cap l) : ∀ g, blkOf A = some g → ∀ o : Obj, w.heap[g]? = some o → o.isCells = true := by
  obtain ⟨g, off, cur, rfl, hB, hb, h1⟩ := h
  intro g' hg o ho
  have : g = g' := by simpa [blkOf] using hg
  subst this
  exact hb.isCells o ho
theorem Fifo.ownk {w w' : World} {B cap : Nat} {A : Option Addr} {l : List Int} {row : Option Nat} (h : Fifo w B A cap l) (hg : w.grownBy w' row) (hr : ∀ r, row = some r → ∃ o : Obj, w.heap[r]? = some o ∧ o.isCells = false) : Fifo w' B A cap l := by
  refine h.kept fun g hgg => hg.block g ((h.lt g hgg).2) fun e => ?_
  obtain ⟨o, ho, hc⟩ := hr g e.symm
  rw [h.cells g hgg o ho] at hc
  cases hc
theorem Fifo.held {w w' : World} {B cap : Nat} {A : Option Addr} {l : List Int} {ex : List Nat} (h : Fifo w B A cap l) (hh : Held ex w w') (hx : ∀ g, blkOf A = some g → g ∉ ex) : Fifo w' B A cap l :=
  h.kept fun g hg => hh.block g ((h.lt g hg).2) (hx g hg)
theorem MapB.held {κ : Type} [DecidableEq κ] {kv : κ → Value} {L : List (κ × Value)} {w w' : World} {r : Nat} {ex : List Nat} (h : MapB w r kv L) (hh : Held ex w w') (hx : r ∉ ex) : MapB w' r kv L :=
  h.same (hh.block r h.lt hx)
theorem GoesB.els {w : World} {g B : Nat} {gs : List Int} (h : GoesB w g gs) (hB : g < B) : Els w B 1 icell (some ⟨g, 0, none⟩) gs := fun _ => by
  refine ⟨g, 0, rfl, hB, fun i a ha j u hu => ?_⟩
  have hi : i < gs.length := (List.getElem?_eq_some_iff.1 ha).1
  have e : gs[i] = a := (List.getElem?_eq_some_iff.1 ha).2
  cases j with
  | zero =>
    have hu' : u = .int .i64 a := by simpa [icell] using hu.symm
    rw [hu', ← e]
    have := h.at_ hi
    rw [getD_at gs i hi] at this
    simpa using this
  | succ j => simp [icell] at hu
/-- How far the search is: a number that falls. -/
def qz (N S : Nat) (v : Value) (w : World) : Nat :=
  N + 2 + (match v with | .pointer (some a) => (match w.cell? a with | some (.slice _ n _) => n | _ => 0) | _ => 0) - (match w.heap[S]? with | some (.map es _) => es.size | _ => 0)
theorem qz_eq {N S Q n cap : Nat} {t : TypeId} {A : Option Addr} {w : World} {κ : Type} [DecidableEq κ] {kv : κ → Value} {L : List (κ × Value)} (hb : Blk w Q t #[.slice A n cap]) (hm : MapB w S kv L) : qz N S (.pointer (some ⟨Q, 0, none⟩)) w = N + 2 + n - L.length := by
  obtain ⟨es, clock, ho, hr⟩ := hm
  have h1 := congrArg List.length hr.1
  simp only [List.length_map, Array.length_toList] at h1
  have hc := hb.cell 0
  unfold qz
  simp [ho, h1, hc]
abbrev kint : Int → Value := fun n => .int .i64 n
theorem keys_le {N : Nat} {l : List Arc} {gs : List Int} {s : Nat} {K : List (Int × Stp)} (h : BfsI l gs s K) (hin : InN N l) (hs : s < N) : K.length + 1 ≤ N := by
  have := nodup_short h.nd (h.low hin hs)
  rwa [keysO_length] at this
abbrev stepC : Stp → List Value := fun x => [.int .i64 x.1, .bool x.2]
theorem StpB.of_own {w : World} {B h cap : Nat} {ws : List Stp} (ho : Own w B 116 2 stepC (some ⟨h, 0, none⟩) cap ws) : ∃ sz, StpB w h sz ws.length (fun i => ws.getD i (0, false)) := by
  have he := ho.els
  obtain ⟨h1, h2, h3⟩ := ho
  rcases h3 with hn | ⟨g', cp, cur, hv, hb, hg, r⟩
  · cases hn.1
  · have : g' = h := by
      simp only [Value.slice.injEq, Option.some.injEq, Addr.mk.injEq] at hv
      exact hv.1.1.symm
    subst this
    refine ⟨cur.size, cur, hg, rfl, fun i hi => ?_⟩
    obtain ⟨b, off, e, _, f0, f1⟩ := Els.at2 (f := fun x : Stp => .int .i64 x.1) (g := fun x : Stp => .bool x.2) he hi
    obtain ⟨rfl, rfl⟩ : g' = b ∧ off = 0 := by
      simp only [Option.some.injEq, Addr.mk.injEq] at e
      exact ⟨e.1, e.2.1.symm⟩
    have hk : Blk w g' 116 cur := hg
    rw [hk.cell] at f0 f1
    simp only [Nat.zero_add] at f0 f1
    simp only [getD_at ws i hi]
    exact ⟨f0, f1⟩
theorem StpB.shut {w w' : World} {h sz n b : Nat} {F : Nat → Stp} (hs : StpB w h sz n F) (hw : Shut b w w') : StpB w' h sz n F := by
  obtain ⟨cur, hb, h1⟩ := hs
  exact ⟨cur, hb.shut hw, h1⟩
theorem MapB.noMark {κ : Type} [DecidableEq κ] {kv : κ → Value} {L : List (κ × Value)} {w : World} {r : Nat} (h : MapB w r kv L) : w.heap[r]? ≠ some (Obj.deferred (some [])) := fun e => by
  obtain ⟨es, c, hb, _⟩ := h
  rw [e] at hb
  cases hb
theorem Blk.noMark {w : World} {g : Nat} {t : TypeId} {cs : Array Value} (h : Blk w g t cs) : w.heap[g]? ≠ some (Obj.deferred (some [])) := fun e => by
  unfold Blk at h
  rw [e] at h
  cases h
end Go.Proofs.Ytdinknpagklkjaa

/- A range over a bound method that iterates, the loop's variable in a box of its own each round. Conditions: none. -/
namespace Go.Proofs.Ytdinknpagklkjaa
open Go.RowKit Go.Shelf

theorem wpIn_iterB {β : Type} {P : Program} {g : Operand} {ps : Array Tmp} {assign body : Code} {Q : Exit → Act → World → Prop} {a : Act} {w : World} (n : Nat) (gf : FuncId) (bnd caps : Array Value) (args : β → Array Value) (Ini : World → Prop) (At : β → World → Prop) (KP St : World → World → Prop) (xs : List β)
    (hg : a.eval g = .func (.func gf) bnd caps) (eg : ∀ args w, (callFunc gf args).run P w = .ok (.enter gf args) w)
    (hseq : SeqM P gf bnd caps args Ini At KP St xs) (hps : ∀ x, (args x).size = ps.size)
    (hIni : ∀ V, Below w.heap.size w V → V.heap.size = w.heap.size + 1 + 1 → Ini V)
    (hSt : ∀ A B k, St A B → k < A.heap.size → w.heap.size ≤ k → k < w.heap.size + 1 + 1 → B.heap[k]? = A.heap[k]?)
    (hAt : ∀ x W o, w.heap.size + 1 < W.heap.size → At x W → At x (W.putObj (w.heap.size + 1) o)) (hKr : ∀ W o, w.heap.size + 1 < W.heap.size → KP W (W.putObj (w.heap.size + 1) o)) (hKt : ∀ {A B C}, KP A B → KP B C → KP A C)
    (I : List β → World → Prop) (Ix : Code → List β → World → Prop) (hI : OwnFrom w.heap.size I) (hIx : ∀ c, OwnFrom w.heap.size (Ix c)) (hst : ∀ s A B, I s A → St A B → I s B) (hstx : ∀ c s A B, Ix c s A → St A B → Ix c s B) (h0 : I [] w) (a₁ : β → Nat → Act) (cx : β → Array Value) (ty : TypeId) (hAl : ∀ x W o, At x W → At x (W.alloc o)) (hKa : ∀ W o, KP W (W.alloc o))
    (hassign : ∀ (m l : Nat) (x : β) (W : World) (K : Act → World → Prop), K (a₁ x W.heap.size) (W.alloc (.cells (cx x) ty)) →
      assign.wpIn (Fence.wide.inRound l) m P (Exit.then K (fun _ _ _ => False)) { tmps := (ps.zip (args x)).foldl (fun t (p, v) => t.setIfInBounds p v) a.tmps, defers := [] } W)
    (hbody : ∀ (m l : Nat) (pre : List β) (x : β) (W : World) (b : Nat), I pre W → At x W → pre ++ [x] <+: xs → w.heap.size + 1 < b → Blk W b ty (cx x) → body.wpIn (Fence.wide.inRound l) m P (ownPostG w.heap.size KP I Ix (pre ++ [x]) W) (a₁ x b) W)
    (hdone : ∀ (D : Nat) (W : World), w.heap.size ≤ D → I xs W → W.heap[D]? = some (.deferred (some [])) → Q .normal { a with defers := { target := .collected D, args := #[] } :: a.defers } W)
    (hstop : ∀ (D : Nat) (c : Code) (pre : List β) (W : World), w.heap.size ≤ D → pre <+: xs → Ix c pre W → W.heap[D]? = some (.deferred (some [])) → c.wpIn Fence.wide n P Q { a with defers := { target := .collected D, args := #[] } :: a.defers } W) :
    (Code.rangeFunc g ps assign body).wpIn Fence.wide n P Q a w := by
  refine wpIn_rangeFunc fun fn hfn => ?_
  obtain ⟨D, hD⟩ : ∃ D, w.heap.size = D := ⟨_, rfl⟩
  let R : LoopState → Option Code → Loop := fun st pe => { state := st, pending := pe, fn := fn, tmps := a.tmps, params := ps, assign := assign, body := body, defers := D }
  obtain ⟨V, hV⟩ : ∃ V, V = (w.alloc (.deferred (some []))).alloc (.loop (R .ready none)) := ⟨_, rfl⟩
  have hrec : V.heap[D + 1]? = some (.loop (R .ready none)) := by
    have := World.alloc_heap_new (w.alloc (.deferred (some []))) (.loop (R .ready none))
    rw [World.size_alloc, hD] at this
    rw [hV]; exact this
  have hdef : V.heap[D]? = some (.deferred (some [])) := by
    rw [hV, ← hD]
    exact (Below.heap_alloc _ _ _ (by simp)).trans (World.alloc_heap_new w _)
  have hVI : I [] V := by rw [hV]; exact hI.alloc _ (hI.alloc _ h0)
  have hVb : Below w.heap.size w V := by rw [hV]; exact ((Below.refl _ w).alloc (Nat.le_refl _) _).alloc (by simp) _
  have hVs : V.heap.size = w.heap.size + 1 + 1 := by rw [hV]; simp
  have hVi := hIni V hVb hVs
  refine ⟨D + 1, [{ target := .collected D, args := #[] }], V, { target := .fn (.func gf) caps, args := bnd ++ #[.func (.yield (D + 1)) #[] #[]] }, V, gf,
    bnd ++ #[.func (.yield (D + 1)) #[] #[]] ++ caps, V, ?_, ?_, ?_, ?_, ?_, ?_⟩
  · have := run_enterLoop_outer (P := P) (w := w) fn a.tmps ps assign body
    rw [hD] at this
    rw [hV]; exact this
  · simp only [resolve, hg]
    simp [go_sem]
  · intro f' hf'
    trivial
  · simp [invoke, go_sem, eg]
  · intro h
    cases h
  · rw [hD] at hI hIx hbody hdone hstop hVb hSt hAt hKr
    have keep : ∀ {A B : World} {k : Nat} {o : Obj}, St A B → D ≤ k → k < D + 1 + 1 → A.heap[k]? = some o → B.heap[k]? = some o := fun {A B k o} hs h1 h2 ho =>
      (hSt A B k hs (Array.getElem?_eq_some_iff.1 ho).1 h1 h2).trans ho
    refine (hseq (n - 1) (D + 1) (fun pre W => I pre W ∧ W.heap[D + 1]? = some (.loop (R .ready none)) ∧ W.heap[D]? = some (.deferred (some [])))
      (fun pre W => ∃ c, Ix c pre W ∧ W.heap[D + 1]? = some (.loop (R .done (some c))) ∧ W.heap[D]? = some (.deferred (some []))) V hVi ?_ ?_ ?_ ⟨hVI, hrec, hdef⟩).mono ?_
    · rintro s A B ⟨h1, h2, h3⟩ hs
      exact ⟨hst s A B h1 hs, keep hs (by omega) (by omega) h2, keep hs (Nat.le_refl _) (by omega) h3⟩
    · rintro s A B ⟨c, h1, h2, h3⟩ hs
      exact ⟨c, hstx c s A B h1 hs, keep hs (by omega) (by omega) h2, keep hs (Nat.le_refl _) (by omega) h3⟩
    · -- one round
      rintro m pre x W ⟨hi, hl, hk⟩ hat hpx
      have hlt : D + 1 < W.heap.size := (Array.getElem?_eq_some_iff.1 hl).1
      have hy : (Instr.yield (D + 1) (args x)).run P W = .ok (.round (D + 1) fn ((ps.zip (args x)).foldl (fun t (p, v) => t.setIfInBounds p v) a.tmps) assign body) W :=
        run_yield hl (hps x)
      obtain ⟨Wa, hWa⟩ : ∃ Wa, Wa = W.alloc (.cells (cx x) ty) := ⟨_, rfl⟩
      have hla : Wa.heap[D + 1]? = some (.loop (R .ready none)) := by rw [hWa]; exact (Below.heap_alloc W _ _ hlt).trans hl
      have hka : Wa.heap[D]? = some (.deferred (some [])) := by rw [hWa]; exact (Below.heap_alloc W _ _ (by omega)).trans hk
      have hza : Wa.heap.size = W.heap.size + 1 := by rw [hWa]; simp
      have hlta : D + 1 < Wa.heap.size := by omega
      have hba : Blk Wa W.heap.size ty (cx x) := by rw [hWa]; exact Blk.new W ty (cx x)
      have hia : I pre Wa := by rw [hWa]; exact hI.alloc _ hi
      have hata : At x Wa := by rw [hWa]; exact hAl x W _ hat
      have hKa1 : KP W Wa := by rw [hWa]; exact hKa W _
      refine ⟨fn, _, assign, body, hy, roundIn_of_wpIn hfn (hassign _ _ x W _ ?_)⟩
      rw [← hWa]
      refine ⟨_, run_beginRound hla rfl, ?_⟩
      obtain ⟨W2, hW2⟩ : ∃ W2, W2 = Wa.putObj (D + 1) (.loop { R .ready none with state := .busy }) := ⟨_, rfl⟩
      rw [← hW2]
      have hl2 : W2.heap[D + 1]? = some (.loop { R .ready none with state := .busy }) := by rw [hW2]; exact World.putObj_heap_same hlta
      have hk2 : W2.heap[D]? = some (.deferred (some [])) := by rw [hW2]; exact (World.putObj_heap_other (by omega)).trans hka
      have hi2 : I pre W2 := by rw [hW2]; exact hI.putObj _ hia (by omega) hla rfl
      have hp2 : KP W W2 := by rw [hW2]; exact hKt hKa1 (hKr Wa _ hlta)
      have hat2 : At x W2 := by rw [hW2]; exact hAt x Wa _ hlta hata
      have hb2 : Blk W2 W.heap.size ty (cx x) := by rw [hW2]; exact (World.putObj_heap_other (by omega)).trans hba
      refine wpIn_mono (hbody _ _ pre x W2 W.heap.size hi2 hat2 hpx hlt hb2) ?_
      have leave : ∀ (c : Code) (W3 : World), KeepsFrom D W2 W3 → Ix c (pre ++ [x]) W3 →
          ∃ v W4, (Instr.endRound (D + 1) (some c)).run P W3 = .ok v W4 ∧ ((Ending.returned v = .returned (.bool true) ∧ (I (pre ++ [x]) W4 ∧ W4.heap[D + 1]? = some (.loop (R .ready none)) ∧ W4.heap[D]? = some (.deferred (some []))) ∧ KP W W4) ∨
            (Ending.returned v = .returned (.bool false) ∧ ∃ c, Ix c (pre ++ [x]) W4 ∧ W4.heap[D + 1]? = some (.loop (R .done (some c))) ∧ W4.heap[D]? = some (.deferred (some [])))) := by
        intro c W3 hk3 hi3
        have hl3 := hk3.same _ _ (by omega) hl2 rfl
        exact ⟨_, _, run_endRound (some c) hl3, .inr ⟨rfl, c, (hIx c).putObj _ hi3 (by omega) hl3 rfl, World.putObj_heap_same (Array.getElem?_eq_some_iff.1 hl3).1, (World.putObj_heap_other (by omega)).trans (hk3.same _ _ (Nat.le_refl _) hk2 rfl)⟩⟩
      rintro e a3 W3 hp
      cases e with
      | normal =>
        obtain ⟨hk3, hkp, hi3⟩ := hp
        have hl3 := hk3.same _ _ (by omega) hl2 rfl
        exact ⟨_, _, run_endRound none hl3, .inl ⟨rfl, ⟨hI.putObj _ hi3 (by omega) hl3 rfl, World.putObj_heap_same (Array.getElem?_eq_some_iff.1 hl3).1, (World.putObj_heap_other (by omega)).trans (hk3.same _ _ (Nat.le_refl _) hk2 rfl)⟩, hKt (hKt hp2 hkp) (hKr W3 _ (Array.getElem?_eq_some_iff.1 hl3).1)⟩⟩
      | ret => exact leave .ret W3 hp.1 hp.2
      | exit id => exact leave (.exit id) W3 hp.1 hp.2
      | goto t => exact leave (.goto t) W3 hp.1 hp.2
      | panic ch => exact hp.elim
      | outgrown => exact hp.elim
    · -- the iterator has returned
      rintro e W2 ⟨⟨v, rfl⟩, ⟨hi, hl, hk⟩ | ⟨pre, hpre, c, hi, hl, hk⟩⟩
      · exact ⟨none, _, run_endLoop hl (by intro h; cases h), hdone D _ (Nat.le_refl _) (hI.putObj _ hi (by omega) hl rfl) ((World.putObj_heap_other (by omega)).trans hk)⟩
      · exact ⟨some c, _, run_endLoop hl (by intro h; cases h), hstop D c pre _ (Nat.le_refl _) hpre ((hIx c).putObj _ hi (by omega) hl rfl) ((World.putObj_heap_other (by omega)).trans hk)⟩
/-- The same for an iterator that hands over one value. -/
theorem wpIn_iterB1 {β : Type} {P : Program} {p q : Nat} {g : Operand} {assign body : Code} {Q : Exit → Act → World → Prop} {t : Array Value} {ds : List Deferred} {w : World} (n : Nat) (gf : FuncId) (bnd caps : Array Value) (val : β → Value) (cx : β → Array Value) (ty : TypeId) (Ini : World → Prop) (At : β → World → Prop) (KP St : World → World → Prop) (xs : List β)
    (hg : ({ tmps := t, defers := ds } : Act).eval g = .func (.func gf) bnd caps) (eg : ∀ args w, (callFunc gf args).run P w = .ok (.enter gf args) w)
    (hseq : SeqM P gf bnd caps (fun x => #[val x]) Ini At KP St xs)
    (hIni : ∀ V, Below w.heap.size w V → V.heap.size = w.heap.size + 1 + 1 → Ini V)
    (hSt : ∀ A B k, St A B → k < A.heap.size → w.heap.size ≤ k → k < w.heap.size + 1 + 1 → B.heap[k]? = A.heap[k]?)
    (hAt : ∀ x W o, w.heap.size + 1 < W.heap.size → At x W → At x (W.putObj (w.heap.size + 1) o)) (hKr : ∀ W o, w.heap.size + 1 < W.heap.size → KP W (W.putObj (w.heap.size + 1) o)) (hKt : ∀ {A B C}, KP A B → KP B C → KP A C) (hAl : ∀ x W o, At x W → At x (W.alloc o)) (hKa : ∀ W o, KP W (W.alloc o))
    (I : List β → World → Prop) (Ix : Code → List β → World → Prop) (hI : OwnFrom w.heap.size I) (hIx : ∀ c, OwnFrom w.heap.size (Ix c)) (hst : ∀ s A B, I s A → St A B → I s B) (hstx : ∀ c s A B, Ix c s A → St A B → Ix c s B) (h0 : I [] w)
    (hassign : ∀ (m l : Nat) (x : β) (W : World) (K : Act → World → Prop), K { tmps := (t.setIfInBounds p (val x)).setIfInBounds q (.pointer (some ⟨W.heap.size, 0, none⟩)), defers := [] } (W.alloc (.cells (cx x) ty)) →
      assign.wpIn (Fence.wide.inRound l) m P (Exit.then K (fun _ _ _ => False)) { tmps := t.setIfInBounds p (val x), defers := [] } W)
    (hbody : ∀ (m l : Nat) (pre : List β) (x : β) (W : World) (b : Nat), I pre W → At x W → pre ++ [x] <+: xs → w.heap.size + 1 < b → Blk W b ty (cx x) → body.wpIn (Fence.wide.inRound l) m P (ownPostG w.heap.size KP I Ix (pre ++ [x]) W) { tmps := (t.setIfInBounds p (val x)).setIfInBounds q (.pointer (some ⟨b, 0, none⟩)), defers := [] } W)
    (hdone : ∀ (D : Nat) (W : World), w.heap.size ≤ D → I xs W → W.heap[D]? = some (.deferred (some [])) → Q .normal { tmps := t, defers := { target := .collected D, args := #[] } :: ds } W)
    (hstop : ∀ (D : Nat) (c : Code) (pre : List β) (W : World), w.heap.size ≤ D → pre <+: xs → Ix c pre W → W.heap[D]? = some (.deferred (some [])) → c.wpIn Fence.wide n P Q { tmps := t, defers := { target := .collected D, args := #[] } :: ds } W) :
    (Code.rangeFunc g #[p] assign body).wpIn Fence.wide n P Q { tmps := t, defers := ds } w :=
  wpIn_iterB n gf bnd caps (fun x => #[val x]) Ini At KP St xs hg eg hseq (fun _ => rfl) hIni hSt hAt hKr hKt I Ix hI hIx hst hstx h0 (fun x b => { tmps := (t.setIfInBounds p (val x)).setIfInBounds q (.pointer (some ⟨b, 0, none⟩)), defers := [] }) cx ty hAl hKa
    (fun m l x W K hK => by simpa using hassign m l x W K hK) hbody hdone hstop
end Go.Proofs.Ytdinknpagklkjaa
