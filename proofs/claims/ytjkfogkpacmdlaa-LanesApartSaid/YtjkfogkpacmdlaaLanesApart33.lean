/- append inside a fence; what a range over a function keeps of slices and blocks. Conditions: none. -/
import Derived.Test.YtjkfogkpacmdlaaLanesApart26
import Derived.Test.YtjkfogkpacmdlaaLanesApart30
import Derived.Test.YtjkfogkpacmdlaaLanesApart32
import Derived.Test.YtjkfogkpacmdlaaLanesApart15
import Derived.Test.YtjkfogkpacmdlaaLanesApart16
namespace Go.Proofs.Ytjkfogkpacmdlaa
open Go.RowKit Go.Shelf

theorem wpListIn_append_run {F : Fence} {n : Nat} {P : Program} {ops : Array Oper} {rest : List Oper} {o : Oper} {a : Act} {w : World} {Q : Exit → Act → World → Prop} (hgd : o.guard = none) (s x : Operand) (t : TypeId) (hop : o.op = .call { callee := .builtin .append, args := #[s, x], argTypes := #[t, t] })
    (vs vx v' : Value) (w' : World) (hs : a.eval s = vs) (hx : a.eval x = vx) (hrun : (Builtin.append_ #[t, t] o.type #[vs, vx]).run P w = .ok v' w') (h : wpListIn F n P ops Q rest (a.put o.dst v') w') :
    wpListIn F n P ops Q (o :: rest) a w := by
  refine wpListIn_plain hgd fun K hK' => ?_
  unfold Oper.wpIn
  refine ⟨?_, ?_⟩
  · simp [Oper.about, hop, resolve, Target.leads, Sem.run_pure]
  · rw [Oper.semAt_plain F _ _ (by rw [hop]; intro c hc'; cases hc')]
    simp [execOp, hop, resolve, invoke, builtin, hs, hx, hrun, Result.andThen]
    exact hK' _ _ h
/-- 'append(s, xs...)', xs a slice that reads as a list, inside a fence. -/
theorem wpListIn_append_els {F : Fence} {n0 : Nat} {P : Program} {ops : Array Oper} {rest : List Oper} {o : Oper} {a : Act} {Q : Exit → Act → World → Prop} {α : Type} (hgd : o.guard = none) (s x : Operand) (t : TypeId) (ho : o.op = .call { callee := .builtin .append, args := #[s, x], argTypes := #[t, t] })
    (B c : Nat) (e : TypeId) (z : Value) (bytes : Nat) (ht : P.underlying t = some (.slice e)) (hI : (P.info? e).map (fun i => (i.zero, i.size, i.bytes)) = some (some z, c, bytes)) (hz1 : z.cells.size = c) (hc : 0 < c)
    (f : α → List Value) (w : World) (A : Option Addr) (n cap : Nat) (l : List α) (hl : l.length = n) (hs : a.eval s = .slice A n cap) (hown : Own w B e c f A cap l)
    (X : Option Addr) (m cx : Nat) (xs : List α) (hm : xs.length = m) (hx : a.eval x = .slice X m cx) (BX : Nat) (hX : Els w BX c f X xs) (h1 : ∀ u ∈ xs.flatMap f, u.oneCell' = true)
    (h63 : n + m ≤ maxLen) (hn : (n + m) * bytes ≤ 140737488355328) (hB : B ≤ w.heap.size)
    (h : ∀ (A' : Option Addr) (cap' : Nat) (w' : World), Own w' B e c f A' cap' (l ++ xs) → w.grownBy w' (blkOf A) → (blkOf A' = blkOf A ∨ blkOf A' = some w.heap.size) → wpListIn F n0 P ops Q rest (a.put o.dst (.slice A' (n + m) cap')) w') :
    wpListIn F n0 P ops Q (o :: rest) a w := by
  obtain ⟨A', cap', w', hrun, h2, h3, h4⟩ := run_append_els (P := P) t o.type B c e z bytes ht hI hz1 hc f w A n cap l hl hown X m cx xs hm BX hX h1 h63 hn hB
  exact wpListIn_append_run hgd s x t ho _ _ _ _ hs hx hrun (h A' cap' w' h2 h3 h4)
theorem wpListIn_push {F : Fence} {n0 : Nat} {P : Program} {ops : Array Oper} {rest : List Oper} {o : Oper} {a : Act} {Q : Exit → Act → World → Prop} {α : Type} (hgd : o.guard = none) (s x : Operand) (t : TypeId) (ho : o.op = .call { callee := .builtin .append, args := #[s, x], argTypes := #[t, t] })
    (B c : Nat) (e : TypeId) (z : Value) (bytes : Nat) (ht : P.underlying t = some (.slice e)) (hI : (P.info? e).map (fun i => (i.zero, i.size, i.bytes)) = some (some z, c, bytes)) (hz1 : z.cells.size = c) (hc : 0 < c)
    (f : α → List Value) (W : World) (ys : Array Value) (A : Option Addr) (n cap : Nat) (l : List α) (hl : l.length = n) (hs : a.eval s = .slice A n cap) (hown : Own W B e c f A cap l)
    (m : Nat) (xs : List α) (hm : xs.length = m) (hys : ys.toList = xs.flatMap f) (S : Nat) (hx : a.eval x = .slice (some ⟨S, 0, none⟩) m m) (hS : W.heap.size = S) (h1 : ∀ u ∈ ys.toList, u.oneCell' = true)
    (h63 : n + m ≤ maxLen) (hn : (n + m) * bytes ≤ 140737488355328) (hB : B ≤ S)
    (h : ∀ (A' : Option Addr) (cap' : Nat) (w' : World), Own w' B e c f A' cap' (l ++ xs) → (W.alloc (.cells ys e)).grownBy w' (blkOf A) → (blkOf A' = blkOf A ∨ blkOf A' = some (S + 1)) → wpListIn F n0 P ops Q rest (a.put o.dst (.slice A' (n + m) cap')) w') :
    wpListIn F n0 P ops Q (o :: rest) a (W.alloc (.cells ys e)) := by
  subst hS
  refine wpListIn_append_els hgd s x t ho B c e z bytes ht hI hz1 hc f _ A n cap l hl hs (hown.alloc _) _ m m xs hm hx (W.alloc (.cells ys e)).heap.size (els_of_blk (Blk.new W e ys) c f hown.1 xs hys) (by rw [← hys]; exact h1) h63 hn (by rw [size_alloc']; omega) (fun A' cap' w' o g e => h A' cap' w' o g (by rwa [size_alloc'] at e))

/-- What the range's own bookkeeping leaves as it was. -/
theorem own_kept {α : Type} {X Y : World} {B c cap : Nat} {e : TypeId} {f : α → List Value} {A : Option Addr} {l : List α} {row : Option Nat} (h : Own X B e c f A cap l) (hg : X.grownBy Y row) (hrow : ∀ r, row = some r → ∃ o : Obj, X.heap[r]? = some o ∧ o.isCells = false) : Own Y B e c f A cap l := by
  refine h.kept hg ?_
  rcases h.2.2 with ⟨hv, _⟩ | ⟨g, cp, cur, hv, _, hh, _⟩
  · injection hv with hv
    rw [hv]
    exact .inl rfl
  · injection hv with hv
    subst hv
    refine .inr fun he => ?_
    obtain ⟨o, ho, hc⟩ := hrow g he.symm
    rw [hh] at ho
    cases ho
    cases hc
theorem blk_kept {X Y : World} {g : Nat} {t : TypeId} {cs : Array Value} {row : Option Nat} (h : Blk X g t cs) (hg : X.grownBy Y row) (hrow : ∀ r, row = some r → ∃ o : Obj, X.heap[r]? = some o ∧ o.isCells = false) : Blk Y g t cs := by
  refine h.grown hg fun he => ?_
  obtain ⟨o, ho, hc⟩ := hrow g he.symm
  unfold Blk at h
  rw [h] at ho
  cases ho
  cases hc
theorem KeepsFrom.own {α : Type} {B0 : Nat} {W w4 : World} {B c cap : Nat} {e : TypeId} {f : α → List Value} {A : Option Addr} {l : List α} (h : Own W B e c f A cap l) (hg : W.grownBy w4 (blkOf A)) : KeepsFrom B0 W w4 := by
  refine ⟨hg.size, fun k o _ hk ho => ?_⟩
  refine (hg.block k (lt_of_block hk) ?_).trans hk
  intro he
  rcases h.2.2 with ⟨hv, _⟩ | ⟨g, cp, cur, hv, _, hh, _⟩
  · injection hv with hv
    rw [hv] at he; cases he
  · injection hv with hv
    subst hv
    have hkg : k = g := by simpa [blkOf] using he
    subst hkg
    rw [hh] at hk
    cases hk
    cases ho
theorem Own.shut {α : Type} {X Y : World} {B c cap b : Nat} {e : TypeId} {f : α → List Value} {A : Option Addr} {l : List α} (h : Own X B e c f A cap l) (hs : Shut b X Y) : Own Y B e c f A cap l := by
  refine ⟨h.1, h.2.1, ?_⟩
  rcases h.2.2 with hn | ⟨g, cp, cur, hv, hb, hh, r⟩
  · exact .inl hn
  · exact .inr ⟨g, cp, cur, hv, hb, hs.2 g _ hh (fun h => by cases h), r⟩
theorem Blk.shut {X Y : World} {b g : Nat} {t : TypeId} {cs : Array Value} (h : Blk X g t cs) (hs : Shut b X Y) : Blk Y g t cs := hs.2 g _ h (fun h => by cases h)
theorem Held.grown {ex : List Nat} {a w w' : World} {row : Option Nat} (h : Held ex a w) (hg : w.grownBy w' row) (hr : ∀ g, row = some g → a.heap.size ≤ g) : Held ex a w' :=
  ⟨hg.os.trans h.os, hg.tape.trans h.tape, hg.output.trans h.output, Nat.le_trans h.size hg.size, fun k hk hx => (hg.block k (Nat.lt_of_lt_of_le hk h.size) (fun e => by have := hr k e.symm; omega)).trans (h.block k hk hx)⟩
end Go.Proofs.Ytjkfogkpacmdlaa

/- What the search for a way keeps: the queue, the map, the boxes. Conditions: none. -/
namespace Go.Proofs.Ytjkfogkpacmdlaa
open Go.RowKit Go.Shelf

theorem Held.grown2 {ex : List Nat} {a w w' : World} {row : Option Nat} (h : Held ex a w) (hg : w.grownBy w' row) (hr : ∀ g, row = some g → g ∈ ex ∨ a.heap.size ≤ g) : Held ex a w' :=
  ⟨hg.os.trans h.os, hg.tape.trans h.tape, hg.output.trans h.output, Nat.le_trans h.size hg.size, fun k hk hx =>
    (hg.block k (Nat.lt_of_lt_of_le hk h.size) (fun e => by
      rcases hr k e.symm with h1 | h1
      · exact hx h1
      · omega)).trans (h.block k hk hx)⟩
theorem KeepsFrom.held2 {B : Nat} {ex : List Nat} {W W' : World} (h : Held ex W W') (hx : ∀ k ∈ ex, B ≤ k → ∀ o : Obj, W.heap[k]? = some o → o.isCells = true) : KeepsFrom B W W' :=
  ⟨h.size, fun k o hk ho hc => by
    by_cases hm : k ∈ ex
    · have := hx k hm hk o ho
      rw [hc] at this
      cases this
    · exact (h.block k (lt_of_block ho) hm).trans ho⟩
theorem Fifo.cells {w : World} {B cap : Nat} {A : Option Addr} {l : List Int} (h : Fifo w B A cap l) : ∀ g, blkOf A = some g → ∀ o : Obj, w.heap[g]? = some o → o.isCells = true := by
  obtain ⟨g, off, cur, rfl, hB, hb, h1⟩ := h
  intro g' hg o ho
  have : g = g' := by simpa [blkOf] using hg
  subst this
  exact hb.isCells o ho
theorem Fifo.ownk {w w' : World} {B cap : Nat} {A : Option Addr} {l : List Int} {row : Option Nat} (h : Fifo w B A cap l) (hg : w.grownBy w' row) (hr : ∀ r, row = some r → ∃ o : Obj, w.heap[r]? = some o ∧ o.isCells = false) : Fifo w' B A cap l := by
  refine h.kept fun g hgg => hg.block g ((h.lt g hgg).2) fun e => ?_
  obtain ⟨o, ho, hc⟩ := hr g e.symm
  rw [h.cells g hgg o ho] at hc
  cases hc
theorem Fifo.held {w w' : World} {B cap : Nat} {A : Option Addr} {l : List Int} {ex : List Nat} (h : Fifo w B A cap l) (hh : Held ex w w') (hx : ∀ g, blkOf A = some g → g ∉ ex) : Fifo w' B A cap l :=
  h.kept fun g hg => hh.block g ((h.lt g hg).2) (hx g hg)
theorem MapB.held {κ : Type} [DecidableEq κ] {kv : κ → Value} {L : List (κ × Value)} {w w' : World} {r : Nat} {ex : List Nat} (h : MapB w r kv L) (hh : Held ex w w') (hx : r ∉ ex) : MapB w' r kv L :=
  h.same (hh.block r h.lt hx)
theorem GoesB.els {w : World} {g B : Nat} {gs : List Int} (h : GoesB w g gs) (hB : g < B) : Els w B 1 icell (some ⟨g, 0, none⟩) gs := fun _ => by
  refine ⟨g, 0, rfl, hB, fun i a ha j u hu => ?_⟩
  have hi : i < gs.length := (List.getElem?_eq_some_iff.1 ha).1
  have e : gs[i] = a := (List.getElem?_eq_some_iff.1 ha).2
  cases j with
  | zero =>
    have hu' : u = .int .i64 a := by simpa [icell] using hu.symm
    rw [hu', ← e]
    have := h.at_ hi
    rw [getD_at gs i hi] at this
    simpa using this
  | succ j => simp [icell] at hu
/-- How far the search is: a number that falls. -/
def qz (N S : Nat) (v : Value) (w : World) : Nat :=
  N + 2 + (match v with | .pointer (some a) => (match w.cell? a with | some (.slice _ n _) => n | _ => 0) | _ => 0) - (match w.heap[S]? with | some (.map es _) => es.size | _ => 0)
theorem qz_eq {N S Q n cap : Nat} {t : TypeId} {A : Option Addr} {w : World} {κ : Type} [DecidableEq κ] {kv : κ → Value} {L : List (κ × Value)} (hb : Blk w Q t #[.slice A n cap]) (hm : MapB w S kv L) : qz N S (.pointer (some ⟨Q, 0, none⟩)) w = N + 2 + n - L.length := by
  obtain ⟨es, clock, ho, hr⟩ := hm
  have h1 := congrArg List.length hr.1
  simp only [List.length_map, Array.length_toList] at h1
  have hc := hb.cell 0
  unfold qz
  simp [ho, h1, hc]
abbrev kint : Int → Value := fun n => .int .i64 n
theorem keys_le {N : Nat} {l : List Arc} {gs : List Int} {s : Nat} {K : List (Int × Stp)} (h : BfsI l gs s K) (hin : InN N l) (hs : s < N) : K.length + 1 ≤ N := by
  have := nodup_short h.nd (h.low hin hs)
  rwa [keysO_length] at this
abbrev stepC : Stp → List Value := fun x => [.int .i64 x.1, .bool x.2]
theorem StpB.of_own {w : World} {B h cap : Nat} {ws : List Stp} (ho : Own w B 77 2 stepC (some ⟨h, 0, none⟩) cap ws) : ∃ sz, StpB w h sz ws.length (fun i => ws.getD i (0, false)) := by
  have he := ho.els
  obtain ⟨h1, h2, h3⟩ := ho
  rcases h3 with hn | ⟨g', cp, cur, hv, hb, hg, r⟩
  · cases hn.1
  · have : g' = h := by
      simp only [Value.slice.injEq, Option.some.injEq, Addr.mk.injEq] at hv
      exact hv.1.1.symm
    subst this
    refine ⟨cur.size, cur, hg, rfl, fun i hi => ?_⟩
    obtain ⟨b, off, e, _, f0, f1⟩ := Els.at2 (f := fun x : Stp => .int .i64 x.1) (g := fun x : Stp => .bool x.2) he hi
    obtain ⟨rfl, rfl⟩ : g' = b ∧ off = 0 := by
      simp only [Option.some.injEq, Addr.mk.injEq] at e
      exact ⟨e.1, e.2.1.symm⟩
    have hk : Blk w g' 77 cur := hg
    rw [hk.cell] at f0 f1
    simp only [Nat.zero_add] at f0 f1
    simp only [getD_at ws i hi]
    exact ⟨f0, f1⟩
theorem StpB.shut {w w' : World} {h sz n b : Nat} {F : Nat → Stp} (hs : StpB w h sz n F) (hw : Shut b w w') : StpB w' h sz n F := by
  obtain ⟨cur, hb, h1⟩ := hs
  exact ⟨cur, hb.shut hw, h1⟩
theorem MapB.noMark {κ : Type} [DecidableEq κ] {kv : κ → Value} {L : List (κ × Value)} {w : World} {r : Nat} (h : MapB w r kv L) : w.heap[r]? ≠ some (Obj.deferred (some [])) := fun e => by
  obtain ⟨es, c, hb, _⟩ := h
  rw [e] at hb
  cases hb
theorem Blk.noMark {w : World} {g : Nat} {t : TypeId} {cs : Array Value} (h : Blk w g t cs) : w.heap[g]? ≠ some (Obj.deferred (some [])) := fun e => by
  unfold Blk at h
  rw [e] at h
  cases h
end Go.Proofs.Ytjkfogkpacmdlaa
