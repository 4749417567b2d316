/- A queue of numbers: appended to at the end, cut at the front. Conditions: none. -/
import Derived.Test.YtjkfogkpacmdlaaFeeLeast8
import Derived.Test.YtjkfogkpacmdlaaFeeLeast11
import Derived.Test.YtjkfogkpacmdlaaFeeLeast22
import Derived.ArgAppend
namespace Go.Proofs.Ytjkfogkpacmdlaa
open Go.RowKit

/-- The slice V reads as l and lies in a row of its own, at some place of it; behind it there is room. -/
def Fifo (w : World) (B : Nat) (A : Option Addr) (cap : Nat) (l : List Int) : Prop :=
  ∃ (g off : Nat) (cur : Array Value), A = some ⟨g, off, none⟩ ∧ B ≤ g ∧ Blk w g 3 cur ∧ off + cap ≤ cur.size ∧ l.length ≤ cap ∧ cap ≤ maxLen ∧ ∀ j, (h : j < l.length) → cur[off + j]? = some (.int .i64 l[j])
theorem Fifo.kept {w w' : World} {B cap : Nat} {A : Option Addr} {l : List Int} (h : Fifo w B A cap l) (hk : ∀ g, blkOf A = some g → w'.heap[g]? = w.heap[g]?) : Fifo w' B A cap l := by
  obtain ⟨g, off, cur, rfl, hB, hb, h1⟩ := h
  exact ⟨g, off, cur, rfl, hB, (hk g rfl).trans hb, h1⟩
theorem Fifo.lt {w : World} {B cap : Nat} {A : Option Addr} {l : List Int} (h : Fifo w B A cap l) : ∀ g, blkOf A = some g → B ≤ g ∧ g < w.heap.size := by
  obtain ⟨g, off, cur, rfl, hB, hb, h1⟩ := h
  intro g' hg
  have : g = g' := by simpa [blkOf] using hg
  subst this
  exact ⟨hB, hb.lt⟩
theorem Fifo.cell {w : World} {B cap : Nat} {A : Option Addr} {l : List Int} (h : Fifo w B A cap l) {j : Nat} (hj : j < l.length) : ∃ g off, A = some ⟨g, off, none⟩ ∧ w.cell? ⟨g, off + j, none⟩ = some (.int .i64 l[j]) := by
  obtain ⟨g, off, cur, rfl, hB, hb, h1, h2, h3, h4⟩ := h
  exact ⟨g, off, rfl, (hb.cell (off + j)).trans (h4 j hj)⟩
theorem Fifo.start {w : World} {B : Nat} (s : Int) (hB : B ≤ w.heap.size) : Fifo (w.alloc (.cells #[.int .i64 s] 3)) B (some ⟨w.heap.size, 0, none⟩) 1 [s] :=
  ⟨w.heap.size, 0, _, rfl, hB, Blk.new w _ _, by simp, by simp, by unfold maxLen; omega, fun j hj => by
    have : j = 0 := by simpa using hj
    subst this
    rfl⟩
/-- The front is cut off. -/
theorem Fifo.pop {w : World} {B cap : Nat} {g off : Nat} {x : Int} {l : List Int} (h : Fifo w B (some ⟨g, off, none⟩) cap (x :: l)) : Fifo w B (if cap = 1 then some ⟨g, off, none⟩ else some ⟨g, off + 1, none⟩) (cap - 1) l := by
  obtain ⟨g', off', cur, hA, hB, hb, h1, h2, h3, h4⟩ := h
  simp only [Option.some.injEq, Addr.mk.injEq] at hA
  obtain ⟨rfl, rfl, _⟩ := hA
  rw [List.length_cons] at h2
  by_cases hc : cap = 1
  · rw [if_pos hc]
    refine ⟨g, off, cur, rfl, hB, hb, by omega, by omega, by omega, fun j hj => by omega⟩
  · rw [if_neg hc]
    refine ⟨g, off + 1, cur, rfl, hB, hb, by omega, by omega, by omega, fun j hj => ?_⟩
    have := h4 (j + 1) (by rw [List.length_cons]; omega)
    rw [show off + 1 + j = off + (j + 1) by omega]
    simpa using this
set_option maxRecDepth 100000 in
theorem Fifo.push {w : World} {B cap n : Nat} {A : Option Addr} {l : List Int} (h : Fifo w B A cap l) (hn : l.length = n) (hB : B ≤ w.heap.size) (x : Int) (X : Addr) (cx : Nat) (hx : w.cell? X = some (.int .i64 x)) (hsm : n + 1 ≤ 100000) :
    ∃ (A' : Option Addr) (cap' : Nat) (w' : World), (Builtin.append_ #[30, 30] 30 #[.slice A n cap, .slice (some X) 1 cx]).run Try.prog w = .ok (.slice A' (n + 1) cap') w' ∧ Fifo w' B A' cap' (l ++ [x]) ∧ w.grownBy w' (blkOf A) ∧ (blkOf A' = blkOf A ∨ ∀ g, blkOf A' = some g → w.heap.size ≤ g) := by
  obtain ⟨g, off, cur, rfl, hBg, hb, h1, h2, h3, h4⟩ := h
  have hI : (Try.prog.info? 3).map (fun i => (i.zero, i.size, i.bytes)) = some (some (.int .i64 0), 1, 8) := rfl
  obtain ⟨i, hi, hz, hs, hby⟩ := info_parts hI
  have hnews : ∀ j u, ([Value.int .i64 x] : List Value)[j]? = some u → w.cell? (X.add j) = some u := fun j u hu => by
    cases j with
    | zero =>
      simp at hu
      rw [← hu, show X.add 0 = X by obtain ⟨b, o, s⟩ := X; cases s <;> simp [Addr.add]]
      exact hx
    | succ j => simp at hu
  by_cases hroom : n + 1 ≤ cap
  · have hlt : off + n < cur.size := by omega
    have hcell : w.cell? ⟨g, off + n, none⟩ = some cur[off + n] := (hb.cell (off + n)).trans (by rw [Array.getElem?_eq_getElem hlt])
    have hrun := run_append_room_cells (P := Try.prog) w 30 30 3 i Try.underlying30 hi g off n cap X 1 cx [.int .i64 x] (by rw [hs]; rfl) hnews (by simp [Value.oneCell']) hroom
      (fun j hj => by
        have : j = 0 := by simpa using hj
        subst this
        rw [hs, Nat.mul_one, Nat.add_zero, hcell]; rfl)
      (fun j hj => hb.frozen _)
    rw [hs, Nat.mul_one] at hrun
    refine ⟨some ⟨g, off, none⟩, cap, w.setCell ⟨g, off + n, none⟩ (.int .i64 x), hrun, ⟨g, off, cur.setIfInBounds (off + n) (.int .i64 x), rfl, hBg, hb.put (off + n) _, by simpa using h1, by rw [List.length_append]; simpa [hn] using hroom, h3, fun j hj => ?_⟩, ?_, .inl rfl⟩
    · rw [Array.getElem?_setIfInBounds]
      by_cases hjn : j = n
      · subst hjn
        simp [hlt, hn]
      · rw [List.length_append, List.length_singleton] at hj
        rw [if_neg (by omega), h4 j (by omega), List.getElem_append_left (by omega)]
    · exact ⟨rfl, rfl, rfl, by simp [World.setCell], fun k hk hne => Below.heap_setCell w _ _ k (fun e => hne (by rw [e]; rfl))⟩
  · have holds : ∀ j u, (l.map fun y => Value.int .i64 y)[j]? = some u → w.cell? ((⟨g, off, none⟩ : Addr).add j) = some u := fun j u hu => by
      rw [List.getElem?_map] at hu
      by_cases hj : j < l.length
      · rw [List.getElem?_eq_getElem hj] at hu
        rw [addr_add, (hb.cell (off + j)), h4 j hj]
        simpa using hu
      · rw [List.getElem?_eq_none (by omega)] at hu
        cases hu
    obtain ⟨v', w', hrun, hown, hgr⟩ := run_append_arg_grows (P := Try.prog) w 30 30 3 i (.int .i64 0) 1 8 Try.underlying30 hi hz hs hby rfl (by omega) ⟨g, off, none⟩ n cap (l.map fun y => Value.int .i64 y) (by simp [hn]) holds X 1 cx [.int .i64 x] rfl hnews (by omega) (by unfold maxLen; omega) (by omega)
    rcases hown.2 with ⟨_, h0⟩ | ⟨g', cap', cur', rfl, hg', hh, hnc, hcm, hsz, htk⟩
    · omega
    · refine ⟨some ⟨g', 0, none⟩, cap', w', hrun, ⟨g', 0, cur', rfl, Nat.le_trans hB hg', hh, by omega, by rw [List.length_append]; simpa [hn] using hnc, hcm, fun j hj => ?_⟩, ⟨hgr.os, hgr.tape, hgr.output, hgr.size, fun k hk _ => hgr.block k hk (by simp)⟩, .inr fun g hg => by
        have : g' = g := by simpa [blkOf] using hg
        omega⟩
      · rw [List.length_append, List.length_singleton, hn] at hj
        have h5 := congrArg (fun l => l[j]?) htk
        simp only [List.getElem?_take] at h5
        rw [if_pos (by omega)] at h5
        rw [Nat.zero_add, ← Array.getElem?_toList, h5]
        by_cases hjn : j < n
        · rw [List.getElem?_append_left (by simp; omega), List.getElem?_map, List.getElem?_eq_getElem (by omega), List.getElem_append_left (by omega)]
          rfl
        · have hj2 : j = n := by omega
          subst hj2
          rw [List.getElem?_append_right (by simp [hn])]
          simp [hn]
end Go.Proofs.Ytjkfogkpacmdlaa

/- append inside a fence; what a range over a function keeps of slices and blocks. Conditions: none. -/
namespace Go.Proofs.Ytjkfogkpacmdlaa
open Go.RowKit Go.Shelf

theorem wpListIn_append_run {F : Fence} {n : Nat} {P : Program} {ops : Array Oper} {rest : List Oper} {o : Oper} {a : Act} {w : World} {Q : Exit → Act → World → Prop} (hgd : o.guard = none) (s x : Operand) (t : TypeId) (hop : o.op = .call { callee := .builtin .append, args := #[s, x], argTypes := #[t, t] })
    (vs vx v' : Value) (w' : World) (hs : a.eval s = vs) (hx : a.eval x = vx) (hrun : (Builtin.append_ #[t, t] o.type #[vs, vx]).run P w = .ok v' w') (h : wpListIn F n P ops Q rest (a.put o.dst v') w') :
    wpListIn F n P ops Q (o :: rest) a w := by
  refine wpListIn_plain hgd fun K hK' => ?_
  unfold Oper.wpIn
  refine ⟨?_, ?_⟩
  · simp [Oper.about, hop, resolve, Target.leads, Sem.run_pure]
  · rw [Oper.semAt_plain F _ _ (by rw [hop]; intro c hc'; cases hc')]
    simp [execOp, hop, resolve, invoke, builtin, hs, hx, hrun, Result.andThen]
    exact hK' _ _ h
/-- 'append(s, xs...)', xs a slice that reads as a list, inside a fence. -/
theorem wpListIn_append_els {F : Fence} {n0 : Nat} {P : Program} {ops : Array Oper} {rest : List Oper} {o : Oper} {a : Act} {Q : Exit → Act → World → Prop} {α : Type} (hgd : o.guard = none) (s x : Operand) (t : TypeId) (ho : o.op = .call { callee := .builtin .append, args := #[s, x], argTypes := #[t, t] })
    (B c : Nat) (e : TypeId) (z : Value) (bytes : Nat) (ht : P.underlying t = some (.slice e)) (hI : (P.info? e).map (fun i => (i.zero, i.size, i.bytes)) = some (some z, c, bytes)) (hz1 : z.cells.size = c) (hc : 0 < c)
    (f : α → List Value) (w : World) (A : Option Addr) (n cap : Nat) (l : List α) (hl : l.length = n) (hs : a.eval s = .slice A n cap) (hown : Own w B e c f A cap l)
    (X : Option Addr) (m cx : Nat) (xs : List α) (hm : xs.length = m) (hx : a.eval x = .slice X m cx) (BX : Nat) (hX : Els w BX c f X xs) (h1 : ∀ u ∈ xs.flatMap f, u.oneCell' = true)
    (h63 : n + m ≤ maxLen) (hn : (n + m) * bytes ≤ 140737488355328) (hB : B ≤ w.heap.size)
    (h : ∀ (A' : Option Addr) (cap' : Nat) (w' : World), Own w' B e c f A' cap' (l ++ xs) → w.grownBy w' (blkOf A) → (blkOf A' = blkOf A ∨ blkOf A' = some w.heap.size) → wpListIn F n0 P ops Q rest (a.put o.dst (.slice A' (n + m) cap')) w') :
    wpListIn F n0 P ops Q (o :: rest) a w := by
  obtain ⟨A', cap', w', hrun, h2, h3, h4⟩ := run_append_els (P := P) t o.type B c e z bytes ht hI hz1 hc f w A n cap l hl hown X m cx xs hm BX hX h1 h63 hn hB
  exact wpListIn_append_run hgd s x t ho _ _ _ _ hs hx hrun (h A' cap' w' h2 h3 h4)
theorem wpListIn_push {F : Fence} {n0 : Nat} {P : Program} {ops : Array Oper} {rest : List Oper} {o : Oper} {a : Act} {Q : Exit → Act → World → Prop} {α : Type} (hgd : o.guard = none) (s x : Operand) (t : TypeId) (ho : o.op = .call { callee := .builtin .append, args := #[s, x], argTypes := #[t, t] })
    (B c : Nat) (e : TypeId) (z : Value) (bytes : Nat) (ht : P.underlying t = some (.slice e)) (hI : (P.info? e).map (fun i => (i.zero, i.size, i.bytes)) = some (some z, c, bytes)) (hz1 : z.cells.size = c) (hc : 0 < c)
    (f : α → List Value) (W : World) (ys : Array Value) (A : Option Addr) (n cap : Nat) (l : List α) (hl : l.length = n) (hs : a.eval s = .slice A n cap) (hown : Own W B e c f A cap l)
    (m : Nat) (xs : List α) (hm : xs.length = m) (hys : ys.toList = xs.flatMap f) (S : Nat) (hx : a.eval x = .slice (some ⟨S, 0, none⟩) m m) (hS : W.heap.size = S) (h1 : ∀ u ∈ ys.toList, u.oneCell' = true)
    (h63 : n + m ≤ maxLen) (hn : (n + m) * bytes ≤ 140737488355328) (hB : B ≤ S)
    (h : ∀ (A' : Option Addr) (cap' : Nat) (w' : World), Own w' B e c f A' cap' (l ++ xs) → (W.alloc (.cells ys e)).grownBy w' (blkOf A) → (blkOf A' = blkOf A ∨ blkOf A' = some (S + 1)) → wpListIn F n0 P ops Q rest (a.put o.dst (.slice A' (n + m) cap')) w') :
    wpListIn F n0 P ops Q (o :: rest) a (W.alloc (.cells ys e)) := by
  subst hS
  refine wpListIn_append_els hgd s x t ho B c e z bytes ht hI hz1 hc f _ A n cap l hl hs (hown.alloc _) _ m m xs hm hx (W.alloc (.cells ys e)).heap.size (els_of_blk (Blk.new W e ys) c f hown.1 xs hys) (by rw [← hys]; exact h1) h63 hn (by rw [size_alloc']; omega) (fun A' cap' w' o g e => h A' cap' w' o g (by rwa [size_alloc'] at e))

/-- What the range's own bookkeeping leaves as it was. -/
theorem own_kept {α : Type} {X Y : World} {B c cap : Nat} {e : TypeId} {f : α → List Value} {A : Option Addr} {l : List α} {row : Option Nat} (h : Own X B e c f A cap l) (hg : X.grownBy Y row) (hrow : ∀ r, row = some r → ∃ o : Obj, X.heap[r]? = some o ∧ o.isCells = false) : Own Y B e c f A cap l := by
  refine h.kept hg ?_
  rcases h.2.2 with ⟨hv, _⟩ | ⟨g, cp, cur, hv, _, hh, _⟩
  · injection hv with hv
    rw [hv]
    exact .inl rfl
  · injection hv with hv
    subst hv
    refine .inr fun he => ?_
    obtain ⟨o, ho, hc⟩ := hrow g he.symm
    rw [hh] at ho
    cases ho
    cases hc
theorem blk_kept {X Y : World} {g : Nat} {t : TypeId} {cs : Array Value} {row : Option Nat} (h : Blk X g t cs) (hg : X.grownBy Y row) (hrow : ∀ r, row = some r → ∃ o : Obj, X.heap[r]? = some o ∧ o.isCells = false) : Blk Y g t cs := by
  refine h.grown hg fun he => ?_
  obtain ⟨o, ho, hc⟩ := hrow g he.symm
  unfold Blk at h
  rw [h] at ho
  cases ho
  cases hc
theorem KeepsFrom.own {α : Type} {B0 : Nat} {W w4 : World} {B c cap : Nat} {e : TypeId} {f : α → List Value} {A : Option Addr} {l : List α} (h : Own W B e c f A cap l) (hg : W.grownBy w4 (blkOf A)) : KeepsFrom B0 W w4 := by
  refine ⟨hg.size, fun k o _ hk ho => ?_⟩
  refine (hg.block k (lt_of_block hk) ?_).trans hk
  intro he
  rcases h.2.2 with ⟨hv, _⟩ | ⟨g, cp, cur, hv, _, hh, _⟩
  · injection hv with hv
    rw [hv] at he; cases he
  · injection hv with hv
    subst hv
    have hkg : k = g := by simpa [blkOf] using he
    subst hkg
    rw [hh] at hk
    cases hk
    cases ho
theorem Own.shut {α : Type} {X Y : World} {B c cap b : Nat} {e : TypeId} {f : α → List Value} {A : Option Addr} {l : List α} (h : Own X B e c f A cap l) (hs : Shut b X Y) : Own Y B e c f A cap l := by
  refine ⟨h.1, h.2.1, ?_⟩
  rcases h.2.2 with hn | ⟨g, cp, cur, hv, hb, hh, r⟩
  · exact .inl hn
  · exact .inr ⟨g, cp, cur, hv, hb, hs.2 g _ hh (fun h => by cases h), r⟩
theorem Blk.shut {X Y : World} {b g : Nat} {t : TypeId} {cs : Array Value} (h : Blk X g t cs) (hs : Shut b X Y) : Blk Y g t cs := hs.2 g _ h (fun h => by cases h)
theorem Held.grown {ex : List Nat} {a w w' : World} {row : Option Nat} (h : Held ex a w) (hg : w.grownBy w' row) (hr : ∀ g, row = some g → a.heap.size ≤ g) : Held ex a w' :=
  ⟨hg.os.trans h.os, hg.tape.trans h.tape, hg.output.trans h.output, Nat.le_trans h.size hg.size, fun k hk hx => (hg.block k (Nat.lt_of_lt_of_le hk h.size) (fun e => by have := hr k e.symm; omega)).trans (h.block k hk hx)⟩
end Go.Proofs.Ytjkfogkpacmdlaa
