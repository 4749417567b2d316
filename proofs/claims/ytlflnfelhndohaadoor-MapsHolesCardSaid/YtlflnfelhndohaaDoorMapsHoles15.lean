/- append inside a fence; what a range over a function keeps of slices and blocks. Conditions: none. -/
import Derived.Test.YtlflnfelhndohaaDoorMapsHoles14
import Derived.Test.YtlflnfelhndohaaDoorMapsHoles13
import Derived.Test.YtlflnfelhndohaaDoorMapsHoles7
namespace Go.Proofs.YtlflnfelhndohaaDoor
open Go.RowKit Go.Shelf

theorem wpListIn_append_run {F : Fence} {n : Nat} {P : Program} {ops : Array Oper} {rest : List Oper} {o : Oper} {a : Act} {w : World} {Q : Exit → Act → World → Prop} (hgd : o.guard = none) (s x : Operand) (t : TypeId) (hop : o.op = .call { callee := .builtin .append, args := #[s, x], argTypes := #[t, t] })
    (vs vx v' : Value) (w' : World) (hs : a.eval s = vs) (hx : a.eval x = vx) (hrun : (Builtin.append_ #[t, t] o.type #[vs, vx]).run P w = .ok v' w') (h : wpListIn F n P ops Q rest (a.put o.dst v') w') :
    wpListIn F n P ops Q (o :: rest) a w := by
  refine wpListIn_plain hgd fun K hK' => ?_
  unfold Oper.wpIn
  refine ⟨?_, ?_⟩
  · simp [Oper.about, hop, resolve, Target.leads, Sem.run_pure]
  · rw [Oper.semAt_plain F _ _ (by rw [hop]; intro c hc'; cases hc')]
    simp [execOp, hop, resolve, invoke, builtin, hs, hx, hrun, Result.andThen]
    exact hK' _ _ h
/-- 'append(s, xs...)', xs a slice that reads as a list, inside a fence. -/
theorem wpListIn_append_els {F : Fence} {n0 : Nat} {P : Program} {ops : Array Oper} {rest : List Oper} {o : Oper} {a : Act} {Q : Exit → Act → World → Prop} {α : Type} (hgd : o.guard = none) (s x : Operand) (t : TypeId) (ho : o.op = .call { callee := .builtin .append, args := #[s, x], argTypes := #[t, t] })
    (B c : Nat) (e : TypeId) (z : Value) (bytes : Nat) (ht : P.underlying t = some (.slice e)) (hI : (P.info? e).map (fun i => (i.zero, i.size, i.bytes)) = some (some z, c, bytes)) (hz1 : z.cells.size = c) (hc : 0 < c)
    (f : α → List Value) (w : World) (A : Option Addr) (n cap : Nat) (l : List α) (hl : l.length = n) (hs : a.eval s = .slice A n cap) (hown : Own w B e c f A cap l)
    (X : Option Addr) (m cx : Nat) (xs : List α) (hm : xs.length = m) (hx : a.eval x = .slice X m cx) (BX : Nat) (hX : Els w BX c f X xs) (h1 : ∀ u ∈ xs.flatMap f, u.oneCell' = true)
    (h63 : n + m ≤ maxLen) (hn : (n + m) * bytes ≤ 140737488355328) (hB : B ≤ w.heap.size)
    (h : ∀ (A' : Option Addr) (cap' : Nat) (w' : World), Own w' B e c f A' cap' (l ++ xs) → w.grownBy w' (blkOf A) → (blkOf A' = blkOf A ∨ blkOf A' = some w.heap.size) → wpListIn F n0 P ops Q rest (a.put o.dst (.slice A' (n + m) cap')) w') :
    wpListIn F n0 P ops Q (o :: rest) a w := by
  obtain ⟨A', cap', w', hrun, h2, h3, h4⟩ := run_append_els (P := P) t o.type B c e z bytes ht hI hz1 hc f w A n cap l hl hown X m cx xs hm BX hX h1 h63 hn hB
  exact wpListIn_append_run hgd s x t ho _ _ _ _ hs hx hrun (h A' cap' w' h2 h3 h4)
theorem wpListIn_push {F : Fence} {n0 : Nat} {P : Program} {ops : Array Oper} {rest : List Oper} {o : Oper} {a : Act} {Q : Exit → Act → World → Prop} {α : Type} (hgd : o.guard = none) (s x : Operand) (t : TypeId) (ho : o.op = .call { callee := .builtin .append, args := #[s, x], argTypes := #[t, t] })
    (B c : Nat) (e : TypeId) (z : Value) (bytes : Nat) (ht : P.underlying t = some (.slice e)) (hI : (P.info? e).map (fun i => (i.zero, i.size, i.bytes)) = some (some z, c, bytes)) (hz1 : z.cells.size = c) (hc : 0 < c)
    (f : α → List Value) (W : World) (ys : Array Value) (A : Option Addr) (n cap : Nat) (l : List α) (hl : l.length = n) (hs : a.eval s = .slice A n cap) (hown : Own W B e c f A cap l)
    (m : Nat) (xs : List α) (hm : xs.length = m) (hys : ys.toList = xs.flatMap f) (S : Nat) (hx : a.eval x = .slice (some ⟨S, 0, none⟩) m m) (hS : W.heap.size = S) (h1 : ∀ u ∈ ys.toList, u.oneCell' = true)
    (h63 : n + m ≤ maxLen) (hn : (n + m) * bytes ≤ 140737488355328) (hB : B ≤ S)
    (h : ∀ (A' : Option Addr) (cap' : Nat) (w' : World), Own w' B e c f A' cap' (l ++ xs) → (W.alloc (.cells ys e)).grownBy w' (blkOf A) → (blkOf A' = blkOf A ∨ blkOf A' = some (S + 1)) → wpListIn F n0 P ops Q rest (a.put o.dst (.slice A' (n + m) cap')) w') :
    wpListIn F n0 P ops Q (o :: rest) a (W.alloc (.cells ys e)) := by
  subst hS
  refine wpListIn_append_els hgd s x t ho B c e z bytes ht hI hz1 hc f _ A n cap l hl hs (hown.alloc _) _ m m xs hm hx (W.alloc (.cells ys e)).heap.size (els_of_blk (Blk.new W e ys) c f hown.1 xs hys) (by rw [← hys]; exact h1) h63 hn (by rw [size_alloc']; omega) (fun A' cap' w' o g e => h A' cap' w' o g (by rwa [size_alloc'] at e))

/-- What the range's own bookkeeping leaves as it was. -/
theorem own_kept {α : Type} {X Y : World} {B c cap : Nat} {e : TypeId} {f : α → List Value} {A : Option Addr} {l : List α} {row : Option Nat} (h : Own X B e c f A cap l) (hg : X.grownBy Y row) (hrow : ∀ r, row = some r → ∃ o : Obj, X.heap[r]? = some o ∧ o.isCells = false) : Own Y B e c f A cap l := by
  refine h.kept hg ?_
  rcases h.2.2 with ⟨hv, _⟩ | ⟨g, cp, cur, hv, _, hh, _⟩
  · injection hv with hv
    rw [hv]
    exact .inl rfl
  · injection hv with hv
    subst hv
    refine .inr fun he => ?_
    obtain ⟨o, ho, hc⟩ := hrow g he.symm
    rw [hh] at ho
    cases ho
    cases hc
theorem blk_kept {X Y : World} {g : Nat} {t : TypeId} {cs : Array Value} {row : Option Nat} (h : Blk X g t cs) (hg : X.grownBy Y row) (hrow : ∀ r, row = some r → ∃ o : Obj, X.heap[r]? = some o ∧ o.isCells = false) : Blk Y g t cs := by
  refine h.grown hg fun he => ?_
  obtain ⟨o, ho, hc⟩ := hrow g he.symm
  unfold Blk at h
  rw [h] at ho
  cases ho
  cases hc
theorem KeepsFrom.own {α : Type} {B0 : Nat} {W w4 : World} {B c cap : Nat} {e : TypeId} {f : α → List Value} {A : Option Addr} {l : List α} (h : Own W B e c f A cap l) (hg : W.grownBy w4 (blkOf A)) : KeepsFrom B0 W w4 := by
  refine ⟨hg.size, fun k o _ hk ho => ?_⟩
  refine (hg.block k (lt_of_block hk) ?_).trans hk
  intro he
  rcases h.2.2 with ⟨hv, _⟩ | ⟨g, cp, cur, hv, _, hh, _⟩
  · injection hv with hv
    rw [hv] at he; cases he
  · injection hv with hv
    subst hv
    have hkg : k = g := by simpa [blkOf] using he
    subst hkg
    rw [hh] at hk
    cases hk
    cases ho
theorem Own.shut {α : Type} {X Y : World} {B c cap b : Nat} {e : TypeId} {f : α → List Value} {A : Option Addr} {l : List α} (h : Own X B e c f A cap l) (hs : Shut b X Y) : Own Y B e c f A cap l := by
  refine ⟨h.1, h.2.1, ?_⟩
  rcases h.2.2 with hn | ⟨g, cp, cur, hv, hb, hh, r⟩
  · exact .inl hn
  · exact .inr ⟨g, cp, cur, hv, hb, hs.2 g _ hh (fun h => by cases h), r⟩
theorem Blk.shut {X Y : World} {b g : Nat} {t : TypeId} {cs : Array Value} (h : Blk X g t cs) (hs : Shut b X Y) : Blk Y g t cs := hs.2 g _ h (fun h => by cases h)
theorem Held.grown {ex : List Nat} {a w w' : World} {row : Option Nat} (h : Held ex a w) (hg : w.grownBy w' row) (hr : ∀ g, row = some g → a.heap.size ≤ g) : Held ex a w' :=
  ⟨hg.os.trans h.os, hg.tape.trans h.tape, hg.output.trans h.output, Nat.le_trans h.size hg.size, fun k hk hx => (hg.block k (Nat.lt_of_lt_of_le hk h.size) (fun e => by have := hr k e.symm; omega)).trans (h.block k hk hx)⟩
end Go.Proofs.YtlflnfelhndohaaDoor

/- slices.Values of whole numbers, collected and sorted. Conditions: the slice reads as a list and lies still. -/
namespace Go.Proofs.YtlflnfelhndohaaDoor
open Go.RowKit Go.Shelf
attribute [local go_sem] Oper.semAt_some

abbrev valArgs (x : Int) : Array Value := #[.int .i64 x]
theorem pre_take {q : List Int} {d : Nat} (h : d < q.length) : q.take d ++ [q[d]] <+: q := by
  rw [← List.take_succ_eq_append_getElem h]
  exact List.take_prefix _ _
set_option maxRecDepth 100000 in
set_option maxHeartbeats 1000000 in
theorem val_seq (n z P c : Nat) (hn : n ≤ 17592186044415) (A : Option Addr) (q : List Int) (hq : q.length = n) :
    SeqV Tryd.prog 49 #[.pointer (some ⟨P, 0, none⟩)] valArgs (fun V => Blk V P 25 #[.slice A n c] ∧ Els V z 1 icell A q) (fun _ _ => True) (KeepZ z P) (fun W W' => W = W') q := by
  intro m yl J Jx W hini hst hstx hY h0
  obtain ⟨hk, he⟩ := hini
  have HY := Lib.hid hY
  have HQ := Lib.hid hq
  have HE := Lib.hid he
  have HJ : Hid (J (q.take 0) W) := Lib.hid h0
  have c0 := hk.cell 0
  clear hst hstx hY h0 hk he hq
  refine callsIn_of_wp Tryd.func49 rfl trivial ?_ rfl
  simp only [Tryd.ntmps49, List.size_toArray, List.length_cons, List.length_nil, Nat.reduceAdd, Nat.reduceSub, Array.replicate_succ, Array.replicate_zero, List.push_toArray, List.append_toArray, List.nil_append, List.cons_append]
  gi_wp2_with fail
  clear c0
  gi_loopw [7] (fun s7 wr => ∃ d : Nat, d ≤ n ∧ s7 = .int .i64 d ∧ J (q.take d) wr ∧ Els wr z 1 icell A q) (fun s7 _ => n - (intOf s7).toNat)
  case atStart => exact ⟨0, by omega, rfl, HJ.out, HE.out⟩
  case round =>
    clear HJ HE
    rename World => wr
    obtain ⟨d, hd, rfl, hJ, he⟩ := hrel
    have HE := Lib.hid he
    have HJ := Lib.hid hJ
    clear hJ
    by_cases hlt : d < n
    · have hiq : d < q.length := by rw [HQ.out]; exact hlt
      obtain ⟨bl, ol, rfl, _, g0⟩ := he.at1 (f := fun x : Int => .int .i64 x) (k := d) hiq
      have hpx := pre_take hiq
      obtain ⟨fn, tmps, assign, body, hy, hR⟩ := HY.out (m - 1) _ q[d] wr HJ.out trivial hpx
      have HR := Lib.hid hR
      have HPX := Lib.hid hpx
      have HD1 : Hid (q.take (d + 1) = q.take d ++ [q[d]]) := Lib.hid (List.take_succ_eq_append_getElem hiq)
      obtain ⟨v, hv⟩ : ∃ v, v = q[d] := ⟨_, rfl⟩
      rw [← hv] at g0 hy HR HPX HD1
      clear he hR hpx hv hiq
      gi_wp2_with fail
      refine ⟨(fun h => by cases h), HR.out.mono ?_⟩
      clear HR hy
      rintro e W3 (⟨rfl, hJ3, hk3⟩ | ⟨rfl, hJx3⟩)
      · have HJ3 : Hid (J (q.take (d + 1)) W3) := Lib.hid (by rw [HD1.out]; exact hJ3)
        have HE3 := Lib.hid (hk3.els HE.out)
        clear hJ3 hk3
        gi_wp2_with fail
        go_roundw
        case rel => exact ⟨d + 1, by omega, by go_num, HJ3.out, HE3.out⟩
        case measure => first | (simp [intOf]; done) | (simp [intOf]; omega)
      · have HJX := Lib.hid hJx3
        clear hJx3
        gi_wp2_with fail
        refine bodyPost_ret (results_none rfl _ _ _) rfl ?_
        exact ⟨⟨_, rfl⟩, .inr ⟨_, HPX.out, HJX.out⟩⟩
    · obtain rfl : n = d := by omega
      have htk : q.take n = q := List.take_of_length_le (by rw [HQ.out]; exact Nat.le_refl _)
      rw [htk] at HJ
      clear htk
      gi_wp2_with fail
      go_end0
      exact ⟨⟨_, rfl⟩, .inl HJ.out⟩
set_option maxRecDepth 100000 in
theorem val_calls (n c : Nat) (A : Option Addr) (w : World) :
    Calls Tryd.prog 33 #[.slice A n c] w fun e w' => e = .returned (.func (.func 49) #[] #[.pointer (some ⟨w.heap.size, 0, none⟩)]) ∧ w' = w.alloc (.cells #[.slice A n c] 25) := by
  go_enter Tryd.func33, Tryd.ntmps33
  go_wp2_with fail
  go_ret
  exact ⟨rfl, rfl⟩
end Go.Proofs.YtlflnfelhndohaaDoor
