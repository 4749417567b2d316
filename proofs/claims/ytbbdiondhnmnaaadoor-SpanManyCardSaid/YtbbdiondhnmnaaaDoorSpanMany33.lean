/- append inside a fence; what a range over a function keeps of slices and blocks. Conditions: none. -/
import Derived.Test.YtbbdiondhnmnaaaDoorSpanMany24
namespace Go.Proofs.YtbbdiondhnmnaaaDoor
open Go.RowKit Go.Shelf

theorem wpListIn_append_run {F : Fence} {n : Nat} {P : Program} {ops : Array Oper} {rest : List Oper} {o : Oper} {a : Act} {w : World} {Q : Exit → Act → World → Prop} (hgd : o.guard = none) (s x : Operand) (t : TypeId) (hop : o.op = .call { callee := .builtin .append, args := #[s, x], argTypes := #[t, t] })
    (vs vx v' : Value) (w' : World) (hs : a.eval s = vs) (hx : a.eval x = vx) (hrun : (Builtin.append_ #[t, t] o.type #[vs, vx]).run P w = .ok v' w') (h : wpListIn F n P ops Q rest (a.put o.dst v') w') :
    wpListIn F n P ops Q (o :: rest) a w := by
  refine wpListIn_plain hgd fun K hK' => ?_
  unfold Oper.wpIn
  refine ⟨?_, ?_⟩
  · simp [Oper.about, hop, resolve, Target.leads, Sem.run_pure]
  · rw [Oper.semAt_plain F _ _ (by rw [hop]; intro c hc'; cases hc')]
    simp [execOp, hop, resolve, invoke, builtin, hs, hx, hrun, Result.andThen]
    exact hK' _ _ h
/-- 'append(s, xs...)', xs a slice that reads as a list, inside a fence. -/
theorem wpListIn_append_els {F : Fence} {n0 : Nat} {P : Program} {ops : Array Oper} {rest : List Oper} {o : Oper} {a : Act} {Q : Exit → Act → World → Prop} {α : Type} (hgd : o.guard = none) (s x : Operand) (t : TypeId) (ho : o.op = .call { callee := .builtin .append, args := #[s, x], argTypes := #[t, t] })
    (B c : Nat) (e : TypeId) (z : Value) (bytes : Nat) (ht : P.underlying t = some (.slice e)) (hI : (P.info? e).map (fun i => (i.zero, i.size, i.bytes)) = some (some z, c, bytes)) (hz1 : z.cells.size = c) (hc : 0 < c)
    (f : α → List Value) (w : World) (A : Option Addr) (n cap : Nat) (l : List α) (hl : l.length = n) (hs : a.eval s = .slice A n cap) (hown : Own w B e c f A cap l)
    (X : Option Addr) (m cx : Nat) (xs : List α) (hm : xs.length = m) (hx : a.eval x = .slice X m cx) (BX : Nat) (hX : Els w BX c f X xs) (h1 : ∀ u ∈ xs.flatMap f, u.oneCell' = true)
    (h63 : n + m ≤ maxLen) (hn : (n + m) * bytes ≤ 140737488355328) (hB : B ≤ w.heap.size)
    (h : ∀ (A' : Option Addr) (cap' : Nat) (w' : World), Own w' B e c f A' cap' (l ++ xs) → w.grownBy w' (blkOf A) → (blkOf A' = blkOf A ∨ blkOf A' = some w.heap.size) → wpListIn F n0 P ops Q rest (a.put o.dst (.slice A' (n + m) cap')) w') :
    wpListIn F n0 P ops Q (o :: rest) a w := by
  obtain ⟨A', cap', w', hrun, h2, h3, h4⟩ := run_append_els (P := P) t o.type B c e z bytes ht hI hz1 hc f w A n cap l hl hown X m cx xs hm BX hX h1 h63 hn hB
  exact wpListIn_append_run hgd s x t ho _ _ _ _ hs hx hrun (h A' cap' w' h2 h3 h4)
theorem wpListIn_push {F : Fence} {n0 : Nat} {P : Program} {ops : Array Oper} {rest : List Oper} {o : Oper} {a : Act} {Q : Exit → Act → World → Prop} {α : Type} (hgd : o.guard = none) (s x : Operand) (t : TypeId) (ho : o.op = .call { callee := .builtin .append, args := #[s, x], argTypes := #[t, t] })
    (B c : Nat) (e : TypeId) (z : Value) (bytes : Nat) (ht : P.underlying t = some (.slice e)) (hI : (P.info? e).map (fun i => (i.zero, i.size, i.bytes)) = some (some z, c, bytes)) (hz1 : z.cells.size = c) (hc : 0 < c)
    (f : α → List Value) (W : World) (ys : Array Value) (A : Option Addr) (n cap : Nat) (l : List α) (hl : l.length = n) (hs : a.eval s = .slice A n cap) (hown : Own W B e c f A cap l)
    (m : Nat) (xs : List α) (hm : xs.length = m) (hys : ys.toList = xs.flatMap f) (S : Nat) (hx : a.eval x = .slice (some ⟨S, 0, none⟩) m m) (hS : W.heap.size = S) (h1 : ∀ u ∈ ys.toList, u.oneCell' = true)
    (h63 : n + m ≤ maxLen) (hn : (n + m) * bytes ≤ 140737488355328) (hB : B ≤ S)
    (h : ∀ (A' : Option Addr) (cap' : Nat) (w' : World), Own w' B e c f A' cap' (l ++ xs) → (W.alloc (.cells ys e)).grownBy w' (blkOf A) → (blkOf A' = blkOf A ∨ blkOf A' = some (S + 1)) → wpListIn F n0 P ops Q rest (a.put o.dst (.slice A' (n + m) cap')) w') :
    wpListIn F n0 P ops Q (o :: rest) a (W.alloc (.cells ys e)) := by
  subst hS
  refine wpListIn_append_els hgd s x t ho B c e z bytes ht hI hz1 hc f _ A n cap l hl hs (hown.alloc _) _ m m xs hm hx (W.alloc (.cells ys e)).heap.size (els_of_blk (Blk.new W e ys) c f hown.1 xs hys) (by rw [← hys]; exact h1) h63 hn (by rw [size_alloc']; omega) (fun A' cap' w' o g e => h A' cap' w' o g (by rwa [size_alloc'] at e))

/-- What the range's own bookkeeping leaves as it was. -/
theorem own_kept {α : Type} {X Y : World} {B c cap : Nat} {e : TypeId} {f : α → List Value} {A : Option Addr} {l : List α} {row : Option Nat} (h : Own X B e c f A cap l) (hg : X.grownBy Y row) (hrow : ∀ r, row = some r → ∃ o : Obj, X.heap[r]? = some o ∧ o.isCells = false) : Own Y B e c f A cap l := by
  refine h.kept hg ?_
  rcases h.2.2 with ⟨hv, _⟩ | ⟨g, cp, cur, hv, _, hh, _⟩
  · injection hv with hv
    rw [hv]
    exact .inl rfl
  · injection hv with hv
    subst hv
    refine .inr fun he => ?_
    obtain ⟨o, ho, hc⟩ := hrow g he.symm
    rw [hh] at ho
    cases ho
    cases hc
theorem blk_kept {X Y : World} {g : Nat} {t : TypeId} {cs : Array Value} {row : Option Nat} (h : Blk X g t cs) (hg : X.grownBy Y row) (hrow : ∀ r, row = some r → ∃ o : Obj, X.heap[r]? = some o ∧ o.isCells = false) : Blk Y g t cs := by
  refine h.grown hg fun he => ?_
  obtain ⟨o, ho, hc⟩ := hrow g he.symm
  unfold Blk at h
  rw [h] at ho
  cases ho
  cases hc
theorem KeepsFrom.own {α : Type} {B0 : Nat} {W w4 : World} {B c cap : Nat} {e : TypeId} {f : α → List Value} {A : Option Addr} {l : List α} (h : Own W B e c f A cap l) (hg : W.grownBy w4 (blkOf A)) : KeepsFrom B0 W w4 := by
  refine ⟨hg.size, fun k o _ hk ho => ?_⟩
  refine (hg.block k (lt_of_block hk) ?_).trans hk
  intro he
  rcases h.2.2 with ⟨hv, _⟩ | ⟨g, cp, cur, hv, _, hh, _⟩
  · injection hv with hv
    rw [hv] at he; cases he
  · injection hv with hv
    subst hv
    have hkg : k = g := by simpa [blkOf] using he
    subst hkg
    rw [hh] at hk
    cases hk
    cases ho
theorem Own.shut {α : Type} {X Y : World} {B c cap b : Nat} {e : TypeId} {f : α → List Value} {A : Option Addr} {l : List α} (h : Own X B e c f A cap l) (hs : Shut b X Y) : Own Y B e c f A cap l := by
  refine ⟨h.1, h.2.1, ?_⟩
  rcases h.2.2 with hn | ⟨g, cp, cur, hv, hb, hh, r⟩
  · exact .inl hn
  · exact .inr ⟨g, cp, cur, hv, hb, hs.2 g _ hh (fun h => by cases h), r⟩
theorem Blk.shut {X Y : World} {b g : Nat} {t : TypeId} {cs : Array Value} (h : Blk X g t cs) (hs : Shut b X Y) : Blk Y g t cs := hs.2 g _ h (fun h => by cases h)
theorem Held.grown {ex : List Nat} {a w w' : World} {row : Option Nat} (h : Held ex a w) (hg : w.grownBy w' row) (hr : ∀ g, row = some g → a.heap.size ≤ g) : Held ex a w' :=
  ⟨hg.os.trans h.os, hg.tape.trans h.tape, hg.output.trans h.output, Nat.le_trans h.size hg.size, fun k hk hx => (hg.block k (Nat.lt_of_lt_of_le hk h.size) (fun e => by have := hr k e.symm; omega)).trans (h.block k hk hx)⟩
end Go.Proofs.YtbbdiondhnmnaaaDoor

/- Worlds that come of a world by draws and new blocks alone; what holds stays. For regions that draw their order and append. Conditions: none. -/
namespace Go.Proofs.YtbbdiondhnmnaaaDoor
open Go.RowKit

/-- W comes of v by draws and new blocks. -/
inductive Wex (v : World) : World → Prop where
  | refl : Wex v v
  | alloc {W : World} (o : Obj) : Wex v W → Wex v (W.alloc o)
  | drew {W : World} : Wex v W → Wex v W.drew
  | drewN {W : World} (q : Nat) : Wex v W → Wex v (W.drewN q)
theorem Wex.size {v W : World} (h : Wex v W) : v.heap.size ≤ W.heap.size := by
  induction h with
  | refl => exact Nat.le_refl _
  | alloc o _ ih => rw [size_alloc']; omega
  | drew _ ih => exact ih
  | drewN _ _ ih => exact ih
theorem Wex.bel {v W : World} (h : Wex v W) {B : Nat} {w : World} (hb : Below B w v) (hB : B ≤ v.heap.size) : Below B w W := by
  induction h with
  | refl => exact hb
  | alloc o hx ih => exact ih.alloc (Nat.le_trans hB hx.size) o
  | drew _ ih => exact ih.drew
  | drewN _ _ ih => exact below_drewN ih _
theorem Wex.blk {v W : World} (h : Wex v W) {g : Nat} {t : TypeId} {cs : Array Value} (k : Blk v g t cs) : Blk W g t cs := by
  induction h with
  | refl => exact k
  | alloc o _ ih => exact ih.alloc o
  | drew _ ih => exact ih.drew
  | drewN _ _ ih => exact ih.drewN _
theorem Wex.cell {v W : World} (h : Wex v W) {g : Nat} {t : TypeId} {cs : Array Value} (k : Blk v g t cs) (i : Nat) {u : Value} (hu : cs[i]? = some u) : W.cell? ⟨g, i, none⟩ = some u := by
  rw [← hu]
  exact (h.blk k).cell i
theorem Wex.own {v W : World} (h : Wex v W) {α : Type} {B c cap : Nat} {e : TypeId} {f : α → List Value} {A : Option Addr} {l : List α} (k : Own v B e c f A cap l) : Own W B e c f A cap l := by
  induction h with
  | refl => exact k
  | alloc o _ ih => exact ih.alloc o
  | drew _ ih => exact ih.drew
  | drewN _ _ ih => exact ih.drewN _
theorem Own.ne_blk {α : Type} {w : World} {B c cap g : Nat} {e t : TypeId} {f : α → List Value} {A : Option Addr} {l : List α} {cs : Array Value} (h : Own w B e c f A cap l) (hb : Blk w g t cs) (hne : t ≠ e) : some g ≠ blkOf A := by
  intro he
  rcases h.2.2 with ⟨hv, _⟩ | ⟨g', cp, cur, hv, _, hh, _⟩
  · injection hv with hv
    rw [hv] at he; cases he
  · injection hv with hv
    subst hv
    have hg : g = g' := by simpa [blkOf] using he
    subst hg
    unfold Blk at hb
    rw [hh] at hb
    injection hb with hb
    injection hb with _ h2
    exact hne h2.symm
theorem Blk.new_at {W : World} {g : Nat} {t : TypeId} {cs : Array Value} (h : W.heap.size = g) : Blk (W.alloc (.cells cs t)) g t cs := by
  subst h
  exact Blk.new _ _ _
end Go.Proofs.YtbbdiondhnmnaaaDoor
