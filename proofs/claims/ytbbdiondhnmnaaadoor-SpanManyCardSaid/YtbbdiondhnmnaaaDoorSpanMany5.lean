/- A slice of the call's own that reads as a list: append, make, store, read. Conditions: none. -/
import Derived.Test.YtbbdiondhnmnaaaDoorSpanMany1
namespace Go.Proofs.YtbbdiondhnmnaaaDoor
open Go.RowKit

def blkOf (A : Option Addr) : Option Nat := A.map (·.block)
theorem ownBlock_slice (A : Option Addr) (n c : Nat) : (Value.slice A n c).ownBlock = blkOf A := by cases A <;> rfl
/-- The slice '.slice A n c' is nil and l is empty, or it leads to a row of its own from block B on, whose first cells are those of l. -/
def Own {α : Type} (w : World) (B : Nat) (e : TypeId) (c : Nat) (f : α → List Value) (A : Option Addr) (cap : Nat) (l : List α) : Prop :=
  (∀ a, (f a).length = c) ∧ w.ownsRow B e c (.slice A l.length cap) l.length (l.flatMap f)
section
variable {α : Type} {w w' : World} {B c cap : Nat} {e : TypeId} {f : α → List Value} {A : Option Addr} {l : List α}
theorem Own.nil (w : World) (B : Nat) (e : TypeId) (hf : ∀ a, (f a).length = c) : Own w B e c f none 0 ([] : List α) := ⟨hf, World.ownsRow_nil w B e c⟩
theorem flat_at (hf : ∀ a, (f a).length = c) : ∀ (l : List α) (k : Nat) (a : α), l[k]? = some a → ∀ (j : Nat) (u : Value), (f a)[j]? = some u → (l.flatMap f)[k * c + j]? = some u
  | [], _, _, h, _, _, _ => by simp at h
  | x :: l, 0, a, h, j, u, hu => by
    simp at h
    subst h
    have hj : j < (f x).length := (List.getElem?_eq_some_iff.1 hu).1
    rw [List.flatMap_cons, Nat.zero_mul, Nat.zero_add, List.getElem?_append_left hj]
    exact hu
  | x :: l, k + 1, a, h, j, u, hu => by
    simp at h
    rw [List.flatMap_cons, List.getElem?_append_right (by rw [hf, Nat.add_mul]; omega), hf]
    have := flat_at hf l k a h j u hu
    rw [show (k + 1) * c + j - c = k * c + j from by rw [Nat.add_mul]; omega]
    exact this
theorem Own.els (h : Own w B e c f A cap l) : Els w w.heap.size c f A l := fun hlt => by
  obtain ⟨g, cp, hv, _, hg⟩ := h.2.form hlt
  have hA : A = some ⟨g, 0, none⟩ := by injection hv
  subst hA
  refine ⟨g, 0, rfl, hg, fun k a ha j u hu => ?_⟩
  have := h.2.cells (g := g) rfl (k * c + j) u (flat_at h.1 l k a ha j u hu)
  rw [show (0 + k * c + j) = k * c + j from by omega]
  have hadd : (⟨g, 0, none⟩ : Addr).add (k * c + j) = ⟨g, k * c + j, none⟩ := by
    unfold Addr.add
    split
    · rename_i h0; rw [h0]
    · simp
  rwa [hadd] at this
theorem Own.form_ (h : Own w B e c f A cap l) (hl : 0 < l.length) : ∃ g, A = some ⟨g, 0, none⟩ ∧ B ≤ g ∧ g < w.heap.size := by
  obtain ⟨g, cp, hv, hb, hg⟩ := h.2.form hl
  exact ⟨g, by injection hv, hb, hg⟩
theorem Own.lt (h : Own w B e c f A cap l) : ∀ k, blkOf A = some k → B ≤ k ∧ k < w.heap.size := by
  intro k hk
  exact h.2.lt k (by rw [ownBlock_slice]; exact hk)
theorem Own.kept (h : Own w B e c f A cap l) {row : Option Nat} (hg : w.grownBy w' row) (hne : blkOf A = none ∨ blkOf A ≠ row) : Own w' B e c f A cap l :=
  ⟨h.1, h.2.kept hg (by rw [ownBlock_slice]; exact hne)⟩
theorem Own.alloc (h : Own w B e c f A cap l) (o : Obj) : Own (w.alloc o) B e c f A cap l := ⟨h.1, h.2.alloc o⟩
theorem Own.drew (h : Own w B e c f A cap l) : Own w.drew B e c f A cap l := h
theorem Own.drewN (h : Own w B e c f A cap l) (n : Nat) : Own (w.drewN n) B e c f A cap l := h
theorem Own.below (h : Own w B e c f A cap l) {B' : Nat} (hb : Below B' w w') (hB : w.heap.size ≤ B') : Own w' B e c f A cap l := by
  refine h.kept (row := none) ⟨hb.os, hb.tape, hb.output, hb.size, fun k hk _ => hb.block k (by omega)⟩ ?_
  cases blkOf A <;> simp
theorem Own.far (h : Own w B e c f A cap l) {p : Addr} (hp : blkOf A ≠ some p.block) (u : Value) : Own (w.setCell p u) B e c f A cap l :=
  ⟨h.1, ownsRow_setCell_other h.2 (by rw [ownBlock_slice]; exact hp) u⟩
theorem Own.low (h : Own w B e c f A cap l) {p : Addr} (hp : p.block < B) (u : Value) : Own (w.setCell p u) B e c f A cap l :=
  h.far (fun he => by have := (h.lt _ he).1; omega) u
theorem Own.lit (w : World) (B : Nat) (e : TypeId) (ys : Array Value) (hf : ∀ a, (f a).length = c) (xs : List α) (n : Nat) (hn : xs.length = n) (hys : ys.toList = xs.flatMap f) (hm : n ≤ maxLen) (hB : B ≤ w.heap.size) :
    Own (w.alloc (.cells ys e)) B e c f (some ⟨w.heap.size, 0, none⟩) n xs := by
  subst hn
  have hlen : (xs.flatMap f).length = xs.length * c := by
    clear hys hm
    induction xs with
    | nil => simp
    | cons y ys ih => rw [List.flatMap_cons, List.length_append, ih, hf, List.length_cons, Nat.add_mul]; omega
  refine ⟨hf, hlen, .inr ⟨w.heap.size, _, ys, rfl, hB, heap_alloc_new w _, Nat.le_refl _, hm, ?_, ?_⟩⟩
  · rw [← hlen, ← hys, Array.length_toList]
  · rw [← hlen, ← hys, List.take_length]
theorem Own.cap_le (h : Own w B e c f A cap l) : l.length ≤ cap := by
  rcases h.2.2 with ⟨hv, h0⟩ | ⟨g, cp, cur, hv, _, _, hn, _⟩
  · omega
  · injection hv with _ _ hc
    omega
theorem Own.weaken (h : Own w B e c f A cap l) {B' : Nat} (hB : B' ≤ B) : Own w B' e c f A cap l := by
  refine ⟨h.1, h.2.1, ?_⟩
  rcases h.2.2 with hn | ⟨g, cp, cur, hv, hb, r⟩
  · exact .inl hn
  · exact .inr ⟨g, cp, cur, hv, by omega, r⟩
end
section
variable {α : Type} {w w' : World} {B cap : Nat} {e : TypeId} {f : α → Value} {A : Option Addr} {l : List α}
theorem Own.cell1 (h : Own w B e 1 (fun a => [f a]) A cap l) {k : Nat} (hk : k < l.length) : ∃ g, A = some ⟨g, 0, none⟩ ∧ B ≤ g ∧ g < w.heap.size ∧ w.cell? ⟨g, k, none⟩ = some (f l[k]) ∧ w.frozen? ⟨g, k, none⟩ = false := by
  obtain ⟨g, rfl, hb, hg⟩ := h.form_ (by omega)
  obtain ⟨b, off, he, _, hc⟩ := h.els.at1 hk
  simp only [Option.some.injEq, Addr.mk.injEq] at he
  obtain ⟨rfl, rfl, _⟩ := he
  refine ⟨g, rfl, hb, hg, by simpa using hc, ?_⟩
  rcases h.2.2 with ⟨hv, _⟩ | ⟨g', cp, cur, hv, _, hh, _⟩
  · cases hv
  · injection hv with hv _ _
    cases hv
    exact frozen_of_row w g k cur e hh
theorem flat1 (l : List α) : l.flatMap (fun a => [f a]) = l.map f := by
  induction l with
  | nil => rfl
  | cons x l ih => simp [ih]
theorem Own.put1 {g k : Nat} {x : α} (h : Own w B e 1 (fun a => [f a]) (some ⟨g, 0, none⟩) cap l) (hk : k < l.length) : Own (w.setCell ⟨g, k, none⟩ (f x)) B e 1 (fun a => [f a]) (some ⟨g, 0, none⟩) cap (l.set k x) := by
  refine ⟨fun _ => rfl, ?_⟩
  have := h.2.stored k (f x)
  rw [List.length_set, flat1, List.map_set, ← flat1]
  exact this.1
end

section
variable {P : Program} {ops : Array Oper} {rest : List Oper} {o : Oper} {a : Act} {Q : Exit → Act → World → Prop} {α : Type}
theorem one_flat {f : α → List Value} (h : ∀ a, ∀ u ∈ f a, u.oneCell' = true) (xs : List α) : ∀ u ∈ xs.flatMap f, u.oneCell' = true := by
  intro u hu
  obtain ⟨a, _, ha⟩ := List.mem_flatMap.1 hu
  exact h a u ha
theorem flat_inv {f : α → List Value} {c : Nat} (hf : ∀ a, (f a).length = c) : ∀ (l : List α) (j : Nat) (u : Value), (l.flatMap f)[j]? = some u → ∃ k a i, l[k]? = some a ∧ (f a)[i]? = some u ∧ j = k * c + i
  | [], j, u, h => by simp at h
  | x :: l, j, u, h => by
    rw [List.flatMap_cons, List.getElem?_append] at h
    split at h
    · exact ⟨0, x, j, rfl, h, by omega⟩
    · rename_i hj
      rw [hf] at h hj
      obtain ⟨k, a, i, h1, h2, h3⟩ := flat_inv hf l _ u h
      exact ⟨k + 1, a, i, h1, h2, by rw [Nat.add_mul]; omega⟩
theorem addr_add (b off i : Nat) : (Addr.add ⟨b, off, none⟩ i) = ⟨b, off + i, none⟩ := by
  unfold Addr.add
  split
  · rename_i h; rw [h]; rfl
  · rfl
theorem Els.cells {w : World} {B c : Nat} {f : α → List Value} {A : Option Addr} {l : List α} (h : Els w B c f A l) (hf : ∀ a, (f a).length = c) {p : Addr} (hp : A = some p) (j : Nat) (u : Value) (hu : (l.flatMap f)[j]? = some u) : w.cell? (p.add j) = some u := by
  obtain ⟨k, a, i, h1, h2, rfl⟩ := flat_inv hf l j u hu
  obtain ⟨b, off, rfl, _, hc⟩ := h (by have := (List.getElem?_eq_some_iff.1 h1).1; omega)
  injection hp with hp
  subst hp
  rw [addr_add, ← Nat.add_assoc]
  exact hc k a h1 i u h2
theorem run_append_els (t ty : TypeId) (B c : Nat) (e : TypeId) (z : Value) (bytes : Nat) (ht : P.underlying t = some (.slice e)) (hI : (P.info? e).map (fun i => (i.zero, i.size, i.bytes)) = some (some z, c, bytes)) (hz1 : z.cells.size = c) (hc : 0 < c)
    (f : α → List Value) (w : World) (A : Option Addr) (n cap : Nat) (l : List α) (hl : l.length = n) (hown : Own w B e c f A cap l)
    (X : Option Addr) (m cx : Nat) (xs : List α) (hm : xs.length = m) (BX : Nat) (hx : Els w BX c f X xs) (h1 : ∀ u ∈ xs.flatMap f, u.oneCell' = true)
    (h63 : n + m ≤ maxLen) (hn : (n + m) * bytes ≤ 140737488355328) (hB : B ≤ w.heap.size) :
    ∃ A' cap' w', (Builtin.append_ #[t, t] ty #[.slice A n cap, .slice X m cx]).run P w = .ok (.slice A' (n + m) cap') w' ∧ Own w' B e c f A' cap' (l ++ xs) ∧ w.grownBy w' (blkOf A) ∧ (blkOf A' = blkOf A ∨ blkOf A' = some w.heap.size) := by
  obtain ⟨i, hi, hz, hsz, hby⟩ := info_parts hI
  subst hl
  rcases X with _ | p
  · have hm0 : xs = [] := by
      rcases xs with _ | ⟨y, ys⟩
      · rfl
      · obtain ⟨_, _, h, _⟩ := hx (by simp)
        cases h
    subst hm0
    obtain rfl : 0 = m := hm
    refine ⟨A, cap, w, ?_, by simpa using hown, World.grownBy.refl w _, .inl rfl⟩
    rcases hown.2.2 with ⟨hv, h0⟩ | ⟨g, cp, cur, hv, _, _, hnc, _⟩
    · rw [h0] at hv ⊢
      rw [hv]
      simp [Builtin.append_, run_underlying ht, sizeOf, typeInfo, hi, Builtin.lenOf, Builtin.firstCells]
    · injection hv with h1 _ h3
      subst h1 h3
      simp [Builtin.append_, run_underlying ht, sizeOf, typeInfo, hi, Builtin.lenOf, Builtin.firstCells, hnc, storeCells]
  · have hnl : (xs.flatMap f).length = m * c := by
      rw [← hm]
      clear hx h1 hm hn h63
      induction xs with
      | nil => simp
      | cons y ys ih => rw [List.flatMap_cons, List.length_append, ih, hown.1, List.length_cons, Nat.add_mul]; omega
    obtain ⟨v', w', hrun, hown2, hgrow, _, hloc⟩ := run_append_own_at (P := P) w B t ty e i z c bytes ht hi hz hsz hby hz1 hc (.slice A l.length cap) l.length _ hown.2 p m cx (xs.flatMap f) hnl (fun j u hu => hx.cells hown.1 rfl j u hu)
      h1 h63 hn hB
    have hex : ∃ A' cap', v' = .slice A' (l.length + m) cap' := by
      rcases hown2.2 with ⟨hv, h0⟩ | ⟨g, cp, cur, hv, _⟩
      · exact ⟨none, 0, by rw [hv, h0]⟩
      · exact ⟨_, _, hv⟩
    obtain ⟨A', cap', rfl⟩ := hex
    refine ⟨A', cap', w', hrun, ⟨hown.1, ?_⟩, by rw [ownBlock_slice] at hgrow; exact hgrow, by rw [ownBlock_slice, ownBlock_slice] at hloc; exact hloc⟩
    rw [List.length_append, hm, List.flatMap_append]
    exact hown2
theorem wp_append_els {K : Act → World → Prop} (s x : Operand) (t : TypeId) (ho : o.op = .call { callee := .builtin .append, args := #[s, x], argTypes := #[t, t] })
    (B c : Nat) (e : TypeId) (z : Value) (bytes : Nat) (ht : P.underlying t = some (.slice e)) (hI : (P.info? e).map (fun i => (i.zero, i.size, i.bytes)) = some (some z, c, bytes)) (hz1 : z.cells.size = c) (hc : 0 < c)
    (f : α → List Value) (w : World) (A : Option Addr) (n cap : Nat) (l : List α) (hl : l.length = n) (hs : a.eval s = .slice A n cap) (hown : Own w B e c f A cap l)
    (X : Option Addr) (m cx : Nat) (xs : List α) (hm : xs.length = m) (hx : a.eval x = .slice X m cx) (BX : Nat) (hX : Els w BX c f X xs) (h1 : ∀ u ∈ xs.flatMap f, u.oneCell' = true)
    (h63 : n + m ≤ maxLen) (hn : (n + m) * bytes ≤ 140737488355328) (hB : B ≤ w.heap.size)
    (h : ∀ (A' : Option Addr) (cap' : Nat) (w' : World), Own w' B e c f A' cap' (l ++ xs) → w.grownBy w' (blkOf A) → (blkOf A' = blkOf A ∨ blkOf A' = some w.heap.size) → K (a.put o.dst (.slice A' (n + m) cap')) w') :
    o.wp P a w K Q := by
  obtain ⟨A', cap', w', hrun, h2, h3, h4⟩ := run_append_els (P := P) t o.type B c e z bytes ht hI hz1 hc f w A n cap l hl hown X m cx xs hm BX hX h1 h63 hn hB
  unfold Oper.wp execOp
  simp only [ho, resolve, invoke, builtin, Sem.run_bind, Sem.run_pure, Result.andThen_ok, List.map_toArray, List.map_cons, List.map_nil, hs, hx, hrun]
  exact h A' cap' w' h2 h3 h4
/-- 'append(s, xs...)', xs a slice that reads as a list (nil let in). -/
theorem wpList_append_els (hgd : o.guard = none) (s x : Operand) (t : TypeId) (ho : o.op = .call { callee := .builtin .append, args := #[s, x], argTypes := #[t, t] })
    (B c : Nat) (e : TypeId) (z : Value) (bytes : Nat) (ht : P.underlying t = some (.slice e)) (hI : (P.info? e).map (fun i => (i.zero, i.size, i.bytes)) = some (some z, c, bytes)) (hz1 : z.cells.size = c) (hc : 0 < c)
    (f : α → List Value) (w : World) (A : Option Addr) (n cap : Nat) (l : List α) (hl : l.length = n) (hs : a.eval s = .slice A n cap) (hown : Own w B e c f A cap l)
    (X : Option Addr) (m cx : Nat) (xs : List α) (hm : xs.length = m) (hx : a.eval x = .slice X m cx) (BX : Nat) (hX : Els w BX c f X xs) (h1 : ∀ u ∈ xs.flatMap f, u.oneCell' = true)
    (h63 : n + m ≤ maxLen) (hn : (n + m) * bytes ≤ 140737488355328) (hB : B ≤ w.heap.size)
    (h : ∀ (A' : Option Addr) (cap' : Nat) (w' : World), Own w' B e c f A' cap' (l ++ xs) → w.grownBy w' (blkOf A) → (blkOf A' = blkOf A ∨ blkOf A' = some w.heap.size) → wpList P ops Q rest (a.put o.dst (.slice A' (n + m) cap')) w') :
    wpList P ops Q (o :: rest) a w :=
  wpList_plain hgd fun _ hK => wp_append_els s x t ho B c e z bytes ht hI hz1 hc f w A n cap l hl hs hown X m cx xs hm hx BX hX h1 h63 hn hB fun A' cap' w' h2 h3 h4 => hK _ _ (h A' cap' w' h2 h3 h4)
/-- The same in a region that draws its order ('go_region_law', 'go_region_held3'). -/
theorem step_append_els {K : Act → World → Prop} {E : Prop} (hgd : o.guard = none) (s x : Operand) (t : TypeId) (ho : o.op = .call { callee := .builtin .append, args := #[s, x], argTypes := #[t, t] })
    (B c : Nat) (e : TypeId) (z : Value) (bytes : Nat) (ht : P.underlying t = some (.slice e)) (hI : (P.info? e).map (fun i => (i.zero, i.size, i.bytes)) = some (some z, c, bytes)) (hz1 : z.cells.size = c) (hc : 0 < c)
    (f : α → List Value) (w : World) (A : Option Addr) (n cap : Nat) (l : List α) (hl : l.length = n) (hs : a.eval s = .slice A n cap) (hown : Own w B e c f A cap l)
    (X : Option Addr) (m cx : Nat) (xs : List α) (hm : xs.length = m) (hx : a.eval x = .slice X m cx) (BX : Nat) (hX : Els w BX c f X xs) (h1 : ∀ u ∈ xs.flatMap f, u.oneCell' = true)
    (h63 : n + m ≤ maxLen) (hn : (n + m) * bytes ≤ 140737488355328) (hB : B ≤ w.heap.size)
    (h : ∀ (A' : Option Addr) (cap' : Nat) (w' : World), Own w' B e c f A' cap' (l ++ xs) → w.grownBy w' (blkOf A) → (blkOf A' = blkOf A ∨ blkOf A' = some w.heap.size) → K (a.put o.dst (.slice A' (n + m) cap')) w') :
    if Region.wanted o (yielded ops a.tmps) = true then Oper.wp P o a w K Q else E := by
  have hw : Region.wanted o (yielded ops a.tmps) = true := by simp [Region.wanted, hgd]
  rw [if_pos hw]
  exact wp_append_els s x t ho B c e z bytes ht hI hz1 hc f w A n cap l hl hs hown X m cx xs hm hx BX hX h1 h63 hn hB h
/-- 'append(s, xs..)', the new elements in a row of their own behind the slice x. -/
theorem wpList_append (hgd : o.guard = none) (s x : Operand) (t : TypeId) (ho : o.op = .call { callee := .builtin .append, args := #[s, x], argTypes := #[t, t] })
    (B c : Nat) (e : TypeId) (z : Value) (bytes : Nat) (ht : P.underlying t = some (.slice e)) (hI : (P.info? e).map (fun i => (i.zero, i.size, i.bytes)) = some (some z, c, bytes)) (hz1 : z.cells.size = c) (hc : 0 < c)
    (f : α → List Value) (w : World) (A : Option Addr) (n cap : Nat) (l : List α) (hl : l.length = n) (hs : a.eval s = .slice A n cap) (hown : Own w B e c f A cap l)
    (p : Addr) (m cx : Nat) (xs : List α) (hm : xs.length = m) (hx : a.eval x = .slice (some p) m cx) (hnews : ∀ j u, (xs.flatMap f)[j]? = some u → w.cell? (p.add j) = some u) (h1 : ∀ u ∈ xs.flatMap f, u.oneCell' = true)
    (h63 : n + m ≤ maxLen) (hn : (n + m) * bytes ≤ 140737488355328) (hB : B ≤ w.heap.size)
    (h : ∀ (A' : Option Addr) (cap' : Nat) (w' : World), Own w' B e c f A' cap' (l ++ xs) → w.grownBy w' (blkOf A) → (blkOf A' = blkOf A ∨ blkOf A' = some w.heap.size) → wpList P ops Q rest (a.put o.dst (.slice A' (n + m) cap')) w') :
    wpList P ops Q (o :: rest) a w := by
  refine wpList_plain hgd fun K hK => ?_
  obtain ⟨i, hi, hz, hsz, hby⟩ := info_parts hI
  have hnl : (xs.flatMap f).length = m * c := by
    rw [← hm]
    clear hnews h1 hm hn h63 h hx
    induction xs with
    | nil => simp
    | cons y ys ih => rw [List.flatMap_cons, List.length_append, ih, hown.1, List.length_cons, Nat.add_mul]; omega
  subst hl
  obtain ⟨v', w', hrun, hown2, hgrow, _, hloc⟩ := run_append_own_at (P := P) w B t o.type e i z c bytes ht hi hz hsz hby hz1 hc (.slice A l.length cap) l.length _ hown.2 p m cx (xs.flatMap f) hnl hnews
    h1 h63 hn hB
  have hex : ∃ A' cap', v' = .slice A' (l.length + m) cap' := by
    rcases hown2.2 with ⟨hv, h0⟩ | ⟨g, cp, cur, hv, _⟩
    · exact ⟨none, 0, by rw [hv, h0]⟩
    · exact ⟨_, _, hv⟩
  obtain ⟨A', cap', rfl⟩ := hex
  unfold Oper.wp execOp
  simp only [ho, resolve, invoke, builtin, Sem.run_bind, Sem.run_pure, Result.andThen_ok, List.map_toArray, List.map_cons, List.map_nil, hs, hx, hrun]
  refine hK _ _ (h A' cap' w' ⟨hown.1, ?_⟩ (by rw [ownBlock_slice] at hgrow; exact hgrow) ?_)
  · rw [List.length_append, hm, List.flatMap_append]
    exact hown2
  · rw [ownBlock_slice, ownBlock_slice] at hloc
    exact hloc
/-- The same where the new elements lie in the newest block: what 'append(s, x1, x2)' comes to. -/
theorem wpList_push (hgd : o.guard = none) (s x : Operand) (t : TypeId) (ho : o.op = .call { callee := .builtin .append, args := #[s, x], argTypes := #[t, t] })
    (B c : Nat) (e : TypeId) (z : Value) (bytes : Nat) (ht : P.underlying t = some (.slice e)) (hI : (P.info? e).map (fun i => (i.zero, i.size, i.bytes)) = some (some z, c, bytes)) (hz1 : z.cells.size = c) (hc : 0 < c)
    (f : α → List Value) (W : World) (ys : Array Value) (A : Option Addr) (n cap : Nat) (l : List α) (hl : l.length = n) (hs : a.eval s = .slice A n cap) (hown : Own W B e c f A cap l)
    (m : Nat) (xs : List α) (hm : xs.length = m) (hys : ys.toList = xs.flatMap f) (S : Nat) (hx : a.eval x = .slice (some ⟨S, 0, none⟩) m m) (hS : W.heap.size = S) (h1 : ∀ u ∈ ys.toList, u.oneCell' = true)
    (h63 : n + m ≤ maxLen) (hn : (n + m) * bytes ≤ 140737488355328) (hB : B ≤ S)
    (h : ∀ (A' : Option Addr) (cap' : Nat) (w' : World), Own w' B e c f A' cap' (l ++ xs) → (W.alloc (.cells ys e)).grownBy w' (blkOf A) → (blkOf A' = blkOf A ∨ blkOf A' = some (S + 1)) → wpList P ops Q rest (a.put o.dst (.slice A' (n + m) cap')) w') :
    wpList P ops Q (o :: rest) a (W.alloc (.cells ys e)) := by
  subst hS
  refine wpList_append hgd s x t ho B c e z bytes ht hI hz1 hc f _ A n cap l hl hs (hown.alloc _) _ m m xs hm hx ?_ (by rw [← hys]; exact h1) h63 hn (by rw [size_alloc']; omega) (fun A' cap' w' o g e => h A' cap' w' o g (by rwa [size_alloc'] at e))
  intro j u hu
  rw [← hys, Array.getElem?_toList] at hu
  rw [show ((⟨W.heap.size, 0, none⟩ : Addr).add j) = ⟨W.heap.size, j, none⟩ from by
    unfold Addr.add
    split
    · rename_i h0; rw [h0]
    · simp]
  rw [(Blk.new W e ys).cell j]
  exact hu
/-- 'make([]T, n)', T of one cell. -/
theorem wpList_make1 (hgd : o.guard = none) (lo co : Operand) (t : TypeId) (hop : o.op = Op.makeSlice t lo co)
    (B : Nat) (e : TypeId) (bytes : Nat) (f : α → Value) (x0 : α) (ht : P.underlying t = some (.slice e)) (hI : (P.info? e).map (fun i => (i.zero, i.size, i.bytes)) = some (some (f x0), 1, bytes)) (hz1 : (f x0).cells = #[f x0])
    (w : World) (kl kc : IntKind) (n : Nat) (hl : a.eval lo = .int kl n) (hc : a.eval co = .int kc n) (hb : bytes * n ≤ 281474976710656) (h63 : n ≤ maxLen) (hB : B ≤ w.heap.size)
    (h : ∀ w', Own w' B e 1 (fun a => [f a]) (some ⟨w.heap.size, 0, none⟩) n (List.replicate n x0) → w.grownBy w' none → wpList P ops Q rest (a.put o.dst (.slice (some ⟨w.heap.size, 0, none⟩) n n)) w') :
    wpList P ops Q (o :: rest) a w := by
  obtain ⟨i, hi, hz, hsz, hby⟩ := info_parts hI
  refine wpList_make_full w hgd lo co t hop B e i (f x0) 1 ht hi hz hsz kl kc n n n hl hc rfl rfl (by rw [hby]; exact hb) h63 hB (fun w' hown hgrow => h w' ⟨fun _ => rfl, ?_⟩ hgrow)
  have hlist : (madeCells (f x0).cells (n * 1)).toList = (List.replicate n x0).flatMap (fun a => [f a]) := by
    rw [flat1, hz1, Nat.mul_one, List.map_replicate]
    apply List.ext_getElem
    · simp [size_madeCells]
    · intro j h1 h2
      simp only [List.getElem_replicate]
      unfold madeCells
      have : j % 1 = 0 := Nat.mod_one j
      simp [this]
  rw [List.length_replicate, ← hlist]
  exact hown
end
theorem els_of_blk {α : Type} {w : World} {g : Nat} {t : TypeId} {cs : Array Value} (h : Blk w g t cs) (c : Nat) (f : α → List Value) (hf : ∀ a, (f a).length = c) (l : List α) (hcs : cs.toList = l.flatMap f) : Els w w.heap.size c f (some ⟨g, 0, none⟩) l := fun _ => by
  refine ⟨g, 0, rfl, h.lt, fun k a ha j u hu => ?_⟩
  rw [show (0 + k * c + j) = k * c + j from by omega, h.cell, ← Array.getElem?_toList, hcs]
  exact flat_at hf l k a ha j u hu

end Go.Proofs.YtbbdiondhnmnaaaDoor
