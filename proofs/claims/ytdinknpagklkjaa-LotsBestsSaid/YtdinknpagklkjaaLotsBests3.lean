/- A slice of the call's own that reads as a list: append, make, store, read. Conditions: none. -/
import Derived.Test.YtdinknpagklkjaaLotsBests1
import Derived.Test.YtdinknpagklkjaaProg
import Derived.Test.YtdinknpagklkjaaLotsBests2
namespace Go.Proofs.Ytdinknpagklkjaa
open Go.RowKit

def blkOf (A : Option Addr) : Option Nat := A.map (·.block)
theorem ownBlock_slice (A : Option Addr) (n c : Nat) : (Value.slice A n c).ownBlock = blkOf A := by cases A <;> rfl
/-- The slice '.slice A n c' is nil and l is empty, or it leads to a row of its own from block B on, whose first cells are those of l. -/
def Own {α : Type} (w : World) (B : Nat) (e : TypeId) (c : Nat) (f : α → List Value) (A : Option Addr) (cap : Nat) (l : List α) : Prop :=
  (∀ a, (f a).length = c) ∧ w.ownsRow B e c (.slice A l.length cap) l.length (l.flatMap f)
section
variable {α : Type} {w w' : World} {B c cap : Nat} {e : TypeId} {f : α → List Value} {A : Option Addr} {l : List α}
theorem Own.nil (w : World) (B : Nat) (e : TypeId) (hf : ∀ a, (f a).length = c) : Own w B e c f none 0 ([] : List α) := ⟨hf, World.ownsRow_nil w B e c⟩
theorem flat_at (hf : ∀ a, (f a).length = c) : ∀ (l : List α) (k : Nat) (a : α), l[k]? = some a → ∀ (j : Nat) (u : Value), (f a)[j]? = some u → (l.flatMap f)[k * c + j]? = some u
  | [], _, _, h, _, _, _ => by simp at h
  | x :: l, 0, a, h, j, u, hu => by
    simp at h
    subst h
    have hj : j < (f x).length := (List.getElem?_eq_some_iff.1 hu).1
    rw [List.flatMap_cons, Nat.zero_mul, Nat.zero_add, List.getElem?_append_left hj]
    exact hu
  | x :: l, k + 1, a, h, j, u, hu => by
    simp at h
    rw [List.flatMap_cons, List.getElem?_append_right (by rw [hf, Nat.add_mul]; omega), hf]
    have := flat_at hf l k a h j u hu
    rw [show (k + 1) * c + j - c = k * c + j from by rw [Nat.add_mul]; omega]
    exact this
theorem Own.els (h : Own w B e c f A cap l) : Els w w.heap.size c f A l := fun hlt => by
  obtain ⟨g, cp, hv, _, hg⟩ := h.2.form hlt
  have hA : A = some ⟨g, 0, none⟩ := by injection hv
  subst hA
  refine ⟨g, 0, rfl, hg, fun k a ha j u hu => ?_⟩
  have := h.2.cells (g := g) rfl (k * c + j) u (flat_at h.1 l k a ha j u hu)
  rw [show (0 + k * c + j) = k * c + j from by omega]
  have hadd : (⟨g, 0, none⟩ : Addr).add (k * c + j) = ⟨g, k * c + j, none⟩ := by
    unfold Addr.add
    split
    · rename_i h0; rw [h0]
    · simp
  rwa [hadd] at this
theorem Own.form_ (h : Own w B e c f A cap l) (hl : 0 < l.length) : ∃ g, A = some ⟨g, 0, none⟩ ∧ B ≤ g ∧ g < w.heap.size := by
  obtain ⟨g, cp, hv, hb, hg⟩ := h.2.form hl
  exact ⟨g, by injection hv, hb, hg⟩
theorem Own.lt (h : Own w B e c f A cap l) : ∀ k, blkOf A = some k → B ≤ k ∧ k < w.heap.size := by
  intro k hk
  exact h.2.lt k (by rw [ownBlock_slice]; exact hk)
theorem Own.kept (h : Own w B e c f A cap l) {row : Option Nat} (hg : w.grownBy w' row) (hne : blkOf A = none ∨ blkOf A ≠ row) : Own w' B e c f A cap l :=
  ⟨h.1, h.2.kept hg (by rw [ownBlock_slice]; exact hne)⟩
theorem Own.alloc (h : Own w B e c f A cap l) (o : Obj) : Own (w.alloc o) B e c f A cap l := ⟨h.1, h.2.alloc o⟩
theorem Own.drew (h : Own w B e c f A cap l) : Own w.drew B e c f A cap l := h
theorem Own.drewN (h : Own w B e c f A cap l) (n : Nat) : Own (w.drewN n) B e c f A cap l := h
theorem Own.below (h : Own w B e c f A cap l) {B' : Nat} (hb : Below B' w w') (hB : w.heap.size ≤ B') : Own w' B e c f A cap l := by
  refine h.kept (row := none) ⟨hb.os, hb.tape, hb.output, hb.size, fun k hk _ => hb.block k (by omega)⟩ ?_
  cases blkOf A <;> simp
theorem Own.far (h : Own w B e c f A cap l) {p : Addr} (hp : blkOf A ≠ some p.block) (u : Value) : Own (w.setCell p u) B e c f A cap l :=
  ⟨h.1, ownsRow_setCell_other h.2 (by rw [ownBlock_slice]; exact hp) u⟩
theorem Own.low (h : Own w B e c f A cap l) {p : Addr} (hp : p.block < B) (u : Value) : Own (w.setCell p u) B e c f A cap l :=
  h.far (fun he => by have := (h.lt _ he).1; omega) u
theorem Own.lit (w : World) (B : Nat) (e : TypeId) (ys : Array Value) (hf : ∀ a, (f a).length = c) (xs : List α) (n : Nat) (hn : xs.length = n) (hys : ys.toList = xs.flatMap f) (hm : n ≤ maxLen) (hB : B ≤ w.heap.size) :
    Own (w.alloc (.cells ys e)) B e c f (some ⟨w.heap.size, 0, none⟩) n xs := by
  subst hn
  have hlen : (xs.flatMap f).length = xs.length * c := by
    clear hys hm
    induction xs with
    | nil => simp
    | cons y ys ih => rw [List.flatMap_cons, List.length_append, ih, hf, List.length_cons, Nat.add_mul]; omega
  refine ⟨hf, hlen, .inr ⟨w.heap.size, _, ys, rfl, hB, heap_alloc_new w _, Nat.le_refl _, hm, ?_, ?_⟩⟩
  · rw [← hlen, ← hys, Array.length_toList]
  · rw [← hlen, ← hys, List.take_length]
theorem Own.cap_le (h : Own w B e c f A cap l) : l.length ≤ cap := by
  rcases h.2.2 with ⟨hv, h0⟩ | ⟨g, cp, cur, hv, _, _, hn, _⟩
  · omega
  · injection hv with _ _ hc
    omega
theorem Own.weaken (h : Own w B e c f A cap l) {B' : Nat} (hB : B' ≤ B) : Own w B' e c f A cap l := by
  refine ⟨h.1, h.2.1, ?_⟩
  rcases h.2.2 with hn | ⟨g, cp, cur, hv, hb, r⟩
  · exact .inl hn
  · exact .inr ⟨g, cp, cur, hv, by omega, r⟩
end
section
variable {α : Type} {w w' : World} {B cap : Nat} {e : TypeId} {f : α → Value} {A : Option Addr} {l : List α}
theorem Own.cell1 (h : Own w B e 1 (fun a => [f a]) A cap l) {k : Nat} (hk : k < l.length) : ∃ g, A = some ⟨g, 0, none⟩ ∧ B ≤ g ∧ g < w.heap.size ∧ w.cell? ⟨g, k, none⟩ = some (f l[k]) ∧ w.frozen? ⟨g, k, none⟩ = false := by
  obtain ⟨g, rfl, hb, hg⟩ := h.form_ (by omega)
  obtain ⟨b, off, he, _, hc⟩ := h.els.at1 hk
  simp only [Option.some.injEq, Addr.mk.injEq] at he
  obtain ⟨rfl, rfl, _⟩ := he
  refine ⟨g, rfl, hb, hg, by simpa using hc, ?_⟩
  rcases h.2.2 with ⟨hv, _⟩ | ⟨g', cp, cur, hv, _, hh, _⟩
  · cases hv
  · injection hv with hv _ _
    cases hv
    exact frozen_of_row w g k cur e hh
theorem flat1 (l : List α) : l.flatMap (fun a => [f a]) = l.map f := by
  induction l with
  | nil => rfl
  | cons x l ih => simp [ih]
theorem Own.put1 {g k : Nat} {x : α} (h : Own w B e 1 (fun a => [f a]) (some ⟨g, 0, none⟩) cap l) (hk : k < l.length) : Own (w.setCell ⟨g, k, none⟩ (f x)) B e 1 (fun a => [f a]) (some ⟨g, 0, none⟩) cap (l.set k x) := by
  refine ⟨fun _ => rfl, ?_⟩
  have := h.2.stored k (f x)
  rw [List.length_set, flat1, List.map_set, ← flat1]
  exact this.1
end

section
variable {P : Program} {ops : Array Oper} {rest : List Oper} {o : Oper} {a : Act} {Q : Exit → Act → World → Prop} {α : Type}
theorem one_flat {f : α → List Value} (h : ∀ a, ∀ u ∈ f a, u.oneCell' = true) (xs : List α) : ∀ u ∈ xs.flatMap f, u.oneCell' = true := by
  intro u hu
  obtain ⟨a, _, ha⟩ := List.mem_flatMap.1 hu
  exact h a u ha
theorem flat_inv {f : α → List Value} {c : Nat} (hf : ∀ a, (f a).length = c) : ∀ (l : List α) (j : Nat) (u : Value), (l.flatMap f)[j]? = some u → ∃ k a i, l[k]? = some a ∧ (f a)[i]? = some u ∧ j = k * c + i
  | [], j, u, h => by simp at h
  | x :: l, j, u, h => by
    rw [List.flatMap_cons, List.getElem?_append] at h
    split at h
    · exact ⟨0, x, j, rfl, h, by omega⟩
    · rename_i hj
      rw [hf] at h hj
      obtain ⟨k, a, i, h1, h2, h3⟩ := flat_inv hf l _ u h
      exact ⟨k + 1, a, i, h1, h2, by rw [Nat.add_mul]; omega⟩
theorem addr_add (b off i : Nat) : (Addr.add ⟨b, off, none⟩ i) = ⟨b, off + i, none⟩ := by
  unfold Addr.add
  split
  · rename_i h; rw [h]; rfl
  · rfl
theorem Els.cells {w : World} {B c : Nat} {f : α → List Value} {A : Option Addr} {l : List α} (h : Els w B c f A l) (hf : ∀ a, (f a).length = c) {p : Addr} (hp : A = some p) (j : Nat) (u : Value) (hu : (l.flatMap f)[j]? = some u) : w.cell? (p.add j) = some u := by
  obtain ⟨k, a, i, h1, h2, rfl⟩ := flat_inv hf l j u hu
  obtain ⟨b, off, rfl, _, hc⟩ := h (by have := (List.getElem?_eq_some_iff.1 h1).1; omega)
  injection hp with hp
  subst hp
  rw [addr_add, ← Nat.add_assoc]
  exact hc k a h1 i u h2
theorem run_append_els (t ty : TypeId) (B c : Nat) (e : TypeId) (z : Value) (bytes : Nat) (ht : P.underlying t = some (.slice e)) (hI : (P.info? e).map (fun i => (i.zero, i.size, i.bytes)) = some (some z, c, bytes)) (hz1 : z.cells.size = c) (hc : 0 < c)
    (f : α → List Value) (w : World) (A : Option Addr) (n cap : Nat) (l : List α) (hl : l.length = n) (hown : Own w B e c f A cap l)
    (X : Option Addr) (m cx : Nat) (xs : List α) (hm : xs.length = m) (BX : Nat) (hx : Els w BX c f X xs) (h1 : ∀ u ∈ xs.flatMap f, u.oneCell' = true)
    (h63 : n + m ≤ maxLen) (hn : (n + m) * bytes ≤ 140737488355328) (hB : B ≤ w.heap.size) :
    ∃ A' cap' w', (Builtin.append_ #[t, t] ty #[.slice A n cap, .slice X m cx]).run P w = .ok (.slice A' (n + m) cap') w' ∧ Own w' B e c f A' cap' (l ++ xs) ∧ w.grownBy w' (blkOf A) ∧ (blkOf A' = blkOf A ∨ blkOf A' = some w.heap.size) := by
  obtain ⟨i, hi, hz, hsz, hby⟩ := info_parts hI
  subst hl
  rcases X with _ | p
  · have hm0 : xs = [] := by
      rcases xs with _ | ⟨y, ys⟩
      · rfl
      · obtain ⟨_, _, h, _⟩ := hx (by simp)
        cases h
    subst hm0
    obtain rfl : 0 = m := hm
    refine ⟨A, cap, w, ?_, by simpa using hown, World.grownBy.refl w _, .inl rfl⟩
    rcases hown.2.2 with ⟨hv, h0⟩ | ⟨g, cp, cur, hv, _, _, hnc, _⟩
    · rw [h0] at hv ⊢
      rw [hv]
      simp [Builtin.append_, run_underlying ht, sizeOf, typeInfo, hi, Builtin.lenOf, Builtin.firstCells]
    · injection hv with h1 _ h3
      subst h1 h3
      simp [Builtin.append_, run_underlying ht, sizeOf, typeInfo, hi, Builtin.lenOf, Builtin.firstCells, hnc, storeCells]
  · have hnl : (xs.flatMap f).length = m * c := by
      rw [← hm]
      clear hx h1 hm hn h63
      induction xs with
      | nil => simp
      | cons y ys ih => rw [List.flatMap_cons, List.length_append, ih, hown.1, List.length_cons, Nat.add_mul]; omega
    obtain ⟨v', w', hrun, hown2, hgrow, _, hloc⟩ := run_append_own_at (P := P) w B t ty e i z c bytes ht hi hz hsz hby hz1 hc (.slice A l.length cap) l.length _ hown.2 p m cx (xs.flatMap f) hnl (fun j u hu => hx.cells hown.1 rfl j u hu)
      h1 h63 hn hB
    have hex : ∃ A' cap', v' = .slice A' (l.length + m) cap' := by
      rcases hown2.2 with ⟨hv, h0⟩ | ⟨g, cp, cur, hv, _⟩
      · exact ⟨none, 0, by rw [hv, h0]⟩
      · exact ⟨_, _, hv⟩
    obtain ⟨A', cap', rfl⟩ := hex
    refine ⟨A', cap', w', hrun, ⟨hown.1, ?_⟩, by rw [ownBlock_slice] at hgrow; exact hgrow, by rw [ownBlock_slice, ownBlock_slice] at hloc; exact hloc⟩
    rw [List.length_append, hm, List.flatMap_append]
    exact hown2
theorem wp_append_els {K : Act → World → Prop} (s x : Operand) (t : TypeId) (ho : o.op = .call { callee := .builtin .append, args := #[s, x], argTypes := #[t, t] })
    (B c : Nat) (e : TypeId) (z : Value) (bytes : Nat) (ht : P.underlying t = some (.slice e)) (hI : (P.info? e).map (fun i => (i.zero, i.size, i.bytes)) = some (some z, c, bytes)) (hz1 : z.cells.size = c) (hc : 0 < c)
    (f : α → List Value) (w : World) (A : Option Addr) (n cap : Nat) (l : List α) (hl : l.length = n) (hs : a.eval s = .slice A n cap) (hown : Own w B e c f A cap l)
    (X : Option Addr) (m cx : Nat) (xs : List α) (hm : xs.length = m) (hx : a.eval x = .slice X m cx) (BX : Nat) (hX : Els w BX c f X xs) (h1 : ∀ u ∈ xs.flatMap f, u.oneCell' = true)
    (h63 : n + m ≤ maxLen) (hn : (n + m) * bytes ≤ 140737488355328) (hB : B ≤ w.heap.size)
    (h : ∀ (A' : Option Addr) (cap' : Nat) (w' : World), Own w' B e c f A' cap' (l ++ xs) → w.grownBy w' (blkOf A) → (blkOf A' = blkOf A ∨ blkOf A' = some w.heap.size) → K (a.put o.dst (.slice A' (n + m) cap')) w') :
    o.wp P a w K Q := by
  obtain ⟨A', cap', w', hrun, h2, h3, h4⟩ := run_append_els (P := P) t o.type B c e z bytes ht hI hz1 hc f w A n cap l hl hown X m cx xs hm BX hX h1 h63 hn hB
  unfold Oper.wp execOp
  simp only [ho, resolve, invoke, builtin, Sem.run_bind, Sem.run_pure, Result.andThen_ok, List.map_toArray, List.map_cons, List.map_nil, hs, hx, hrun]
  exact h A' cap' w' h2 h3 h4
/-- 'append(s, xs...)', xs a slice that reads as a list (nil let in). -/
theorem wpList_append_els (hgd : o.guard = none) (s x : Operand) (t : TypeId) (ho : o.op = .call { callee := .builtin .append, args := #[s, x], argTypes := #[t, t] })
    (B c : Nat) (e : TypeId) (z : Value) (bytes : Nat) (ht : P.underlying t = some (.slice e)) (hI : (P.info? e).map (fun i => (i.zero, i.size, i.bytes)) = some (some z, c, bytes)) (hz1 : z.cells.size = c) (hc : 0 < c)
    (f : α → List Value) (w : World) (A : Option Addr) (n cap : Nat) (l : List α) (hl : l.length = n) (hs : a.eval s = .slice A n cap) (hown : Own w B e c f A cap l)
    (X : Option Addr) (m cx : Nat) (xs : List α) (hm : xs.length = m) (hx : a.eval x = .slice X m cx) (BX : Nat) (hX : Els w BX c f X xs) (h1 : ∀ u ∈ xs.flatMap f, u.oneCell' = true)
    (h63 : n + m ≤ maxLen) (hn : (n + m) * bytes ≤ 140737488355328) (hB : B ≤ w.heap.size)
    (h : ∀ (A' : Option Addr) (cap' : Nat) (w' : World), Own w' B e c f A' cap' (l ++ xs) → w.grownBy w' (blkOf A) → (blkOf A' = blkOf A ∨ blkOf A' = some w.heap.size) → wpList P ops Q rest (a.put o.dst (.slice A' (n + m) cap')) w') :
    wpList P ops Q (o :: rest) a w :=
  wpList_plain hgd fun _ hK => wp_append_els s x t ho B c e z bytes ht hI hz1 hc f w A n cap l hl hs hown X m cx xs hm hx BX hX h1 h63 hn hB fun A' cap' w' h2 h3 h4 => hK _ _ (h A' cap' w' h2 h3 h4)
/-- The same in a region that draws its order ('go_region_law', 'go_region_held3'). -/
theorem step_append_els {K : Act → World → Prop} {E : Prop} (hgd : o.guard = none) (s x : Operand) (t : TypeId) (ho : o.op = .call { callee := .builtin .append, args := #[s, x], argTypes := #[t, t] })
    (B c : Nat) (e : TypeId) (z : Value) (bytes : Nat) (ht : P.underlying t = some (.slice e)) (hI : (P.info? e).map (fun i => (i.zero, i.size, i.bytes)) = some (some z, c, bytes)) (hz1 : z.cells.size = c) (hc : 0 < c)
    (f : α → List Value) (w : World) (A : Option Addr) (n cap : Nat) (l : List α) (hl : l.length = n) (hs : a.eval s = .slice A n cap) (hown : Own w B e c f A cap l)
    (X : Option Addr) (m cx : Nat) (xs : List α) (hm : xs.length = m) (hx : a.eval x = .slice X m cx) (BX : Nat) (hX : Els w BX c f X xs) (h1 : ∀ u ∈ xs.flatMap f, u.oneCell' = true)
    (h63 : n + m ≤ maxLen) (hn : (n + m) * bytes ≤ 140737488355328) (hB : B ≤ w.heap.size)
    (h : ∀ (A' : Option Addr) (cap' : Nat) (w' : World), Own w' B e c f A' cap' (l ++ xs) → w.grownBy w' (blkOf A) → (blkOf A' = blkOf A ∨ blkOf A' = some w.heap.size) → K (a.put o.dst (.slice A' (n + m) cap')) w') :
    if Region.wanted o (yielded ops a.tmps) = true then Oper.wp P o a w K Q else E := by
  have hw : Region.wanted o (yielded ops a.tmps) = true := by simp [Region.wanted, hgd]
  rw [if_pos hw]
  exact wp_append_els s x t ho B c e z bytes ht hI hz1 hc f w A n cap l hl hs hown X m cx xs hm hx BX hX h1 h63 hn hB h
/-- 'append(s, xs..)', the new elements in a row of their own behind the slice x. -/
theorem wpList_append (hgd : o.guard = none) (s x : Operand) (t : TypeId) (ho : o.op = .call { callee := .builtin .append, args := #[s, x], argTypes := #[t, t] })
    (B c : Nat) (e : TypeId) (z : Value) (bytes : Nat) (ht : P.underlying t = some (.slice e)) (hI : (P.info? e).map (fun i => (i.zero, i.size, i.bytes)) = some (some z, c, bytes)) (hz1 : z.cells.size = c) (hc : 0 < c)
    (f : α → List Value) (w : World) (A : Option Addr) (n cap : Nat) (l : List α) (hl : l.length = n) (hs : a.eval s = .slice A n cap) (hown : Own w B e c f A cap l)
    (p : Addr) (m cx : Nat) (xs : List α) (hm : xs.length = m) (hx : a.eval x = .slice (some p) m cx) (hnews : ∀ j u, (xs.flatMap f)[j]? = some u → w.cell? (p.add j) = some u) (h1 : ∀ u ∈ xs.flatMap f, u.oneCell' = true)
    (h63 : n + m ≤ maxLen) (hn : (n + m) * bytes ≤ 140737488355328) (hB : B ≤ w.heap.size)
    (h : ∀ (A' : Option Addr) (cap' : Nat) (w' : World), Own w' B e c f A' cap' (l ++ xs) → w.grownBy w' (blkOf A) → (blkOf A' = blkOf A ∨ blkOf A' = some w.heap.size) → wpList P ops Q rest (a.put o.dst (.slice A' (n + m) cap')) w') :
    wpList P ops Q (o :: rest) a w := by
  refine wpList_plain hgd fun K hK => ?_
  obtain ⟨i, hi, hz, hsz, hby⟩ := info_parts hI
  have hnl : (xs.flatMap f).length = m * c := by
    rw [← hm]
    clear hnews h1 hm hn h63 h hx
    induction xs with
    | nil => simp
    | cons y ys ih => rw [List.flatMap_cons, List.length_append, ih, hown.1, List.length_cons, Nat.add_mul]; omega
  subst hl
  obtain ⟨v', w', hrun, hown2, hgrow, _, hloc⟩ := run_append_own_at (P := P) w B t o.type e i z c bytes ht hi hz hsz hby hz1 hc (.slice A l.length cap) l.length _ hown.2 p m cx (xs.flatMap f) hnl hnews
    h1 h63 hn hB
  have hex : ∃ A' cap', v' = .slice A' (l.length + m) cap' := by
    rcases hown2.2 with ⟨hv, h0⟩ | ⟨g, cp, cur, hv, _⟩
    · exact ⟨none, 0, by rw [hv, h0]⟩
    · exact ⟨_, _, hv⟩
  obtain ⟨A', cap', rfl⟩ := hex
  unfold Oper.wp execOp
  simp only [ho, resolve, invoke, builtin, Sem.run_bind, Sem.run_pure, Result.andThen_ok, List.map_toArray, List.map_cons, List.map_nil, hs, hx, hrun]
  refine hK _ _ (h A' cap' w' ⟨hown.1, ?_⟩ (by rw [ownBlock_slice] at hgrow; exact hgrow) ?_)
  · rw [List.length_append, hm, List.flatMap_append]
    exact hown2
  · rw [ownBlock_slice, ownBlock_slice] at hloc
    exact hloc
/-- The same where the new elements lie in the newest block: what 'append(s, x1, x2)' comes to. -/
theorem wpList_push (hgd : o.guard = none) (s x : Operand) (t : TypeId) (ho : o.op = .call { callee := .builtin .append, args := #[s, x], argTypes := #[t, t] })
    (B c : Nat) (e : TypeId) (z : Value) (bytes : Nat) (ht : P.underlying t = some (.slice e)) (hI : (P.info? e).map (fun i => (i.zero, i.size, i.bytes)) = some (some z, c, bytes)) (hz1 : z.cells.size = c) (hc : 0 < c)
    (f : α → List Value) (W : World) (ys : Array Value) (A : Option Addr) (n cap : Nat) (l : List α) (hl : l.length = n) (hs : a.eval s = .slice A n cap) (hown : Own W B e c f A cap l)
    (m : Nat) (xs : List α) (hm : xs.length = m) (hys : ys.toList = xs.flatMap f) (S : Nat) (hx : a.eval x = .slice (some ⟨S, 0, none⟩) m m) (hS : W.heap.size = S) (h1 : ∀ u ∈ ys.toList, u.oneCell' = true)
    (h63 : n + m ≤ maxLen) (hn : (n + m) * bytes ≤ 140737488355328) (hB : B ≤ S)
    (h : ∀ (A' : Option Addr) (cap' : Nat) (w' : World), Own w' B e c f A' cap' (l ++ xs) → (W.alloc (.cells ys e)).grownBy w' (blkOf A) → (blkOf A' = blkOf A ∨ blkOf A' = some (S + 1)) → wpList P ops Q rest (a.put o.dst (.slice A' (n + m) cap')) w') :
    wpList P ops Q (o :: rest) a (W.alloc (.cells ys e)) := by
  subst hS
  refine wpList_append hgd s x t ho B c e z bytes ht hI hz1 hc f _ A n cap l hl hs (hown.alloc _) _ m m xs hm hx ?_ (by rw [← hys]; exact h1) h63 hn (by rw [size_alloc']; omega) (fun A' cap' w' o g e => h A' cap' w' o g (by rwa [size_alloc'] at e))
  intro j u hu
  rw [← hys, Array.getElem?_toList] at hu
  rw [show ((⟨W.heap.size, 0, none⟩ : Addr).add j) = ⟨W.heap.size, j, none⟩ from by
    unfold Addr.add
    split
    · rename_i h0; rw [h0]
    · simp]
  rw [(Blk.new W e ys).cell j]
  exact hu
/-- 'make([]T, n)', T of one cell. -/
theorem wpList_make1 (hgd : o.guard = none) (lo co : Operand) (t : TypeId) (hop : o.op = Op.makeSlice t lo co)
    (B : Nat) (e : TypeId) (bytes : Nat) (f : α → Value) (x0 : α) (ht : P.underlying t = some (.slice e)) (hI : (P.info? e).map (fun i => (i.zero, i.size, i.bytes)) = some (some (f x0), 1, bytes)) (hz1 : (f x0).cells = #[f x0])
    (w : World) (kl kc : IntKind) (n : Nat) (hl : a.eval lo = .int kl n) (hc : a.eval co = .int kc n) (hb : bytes * n ≤ 281474976710656) (h63 : n ≤ maxLen) (hB : B ≤ w.heap.size)
    (h : ∀ w', Own w' B e 1 (fun a => [f a]) (some ⟨w.heap.size, 0, none⟩) n (List.replicate n x0) → w.grownBy w' none → wpList P ops Q rest (a.put o.dst (.slice (some ⟨w.heap.size, 0, none⟩) n n)) w') :
    wpList P ops Q (o :: rest) a w := by
  obtain ⟨i, hi, hz, hsz, hby⟩ := info_parts hI
  refine wpList_make_full w hgd lo co t hop B e i (f x0) 1 ht hi hz hsz kl kc n n n hl hc rfl rfl (by rw [hby]; exact hb) h63 hB (fun w' hown hgrow => h w' ⟨fun _ => rfl, ?_⟩ hgrow)
  have hlist : (madeCells (f x0).cells (n * 1)).toList = (List.replicate n x0).flatMap (fun a => [f a]) := by
    rw [flat1, hz1, Nat.mul_one, List.map_replicate]
    apply List.ext_getElem
    · simp [size_madeCells]
    · intro j h1 h2
      simp only [List.getElem_replicate]
      unfold madeCells
      have : j % 1 = 0 := Nat.mod_one j
      simp [this]
  rw [List.length_replicate, ← hlist]
  exact hown
end
theorem els_of_blk {α : Type} {w : World} {g : Nat} {t : TypeId} {cs : Array Value} (h : Blk w g t cs) (c : Nat) (f : α → List Value) (hf : ∀ a, (f a).length = c) (l : List α) (hcs : cs.toList = l.flatMap f) : Els w w.heap.size c f (some ⟨g, 0, none⟩) l := fun _ => by
  refine ⟨g, 0, rfl, h.lt, fun k a ha j u hu => ?_⟩
  rw [show (0 + k * c + j) = k * c + j from by omega, h.cell, ← Array.getElem?_toList, hcs]
  exact flat_at hf l k a ha j u hu

end Go.Proofs.Ytdinknpagklkjaa

/- Words of 32 bits that lie in an int: the operations on '.int .i64' as operations on BitVec 32; what Has answers. Conditions: none. -/
namespace Go.Proofs.Ytdinknpagklkjaa
open Go.RowKit

def sN (x : BitVec 32) : Int := (x.toNat : Int)
theorem ofInt_s (x : BitVec 32) : BitVec.ofInt 64 (x.toNat : Int) = x.setWidth 64 := by
  rw [BitVec.ofInt_natCast]
  apply BitVec.eq_of_toNat_eq
  simp
theorem wrap_s (x : BitVec 32) : IntKind.i64.wrap (x.toNat : Int) = (x.toNat : Int) := by
  have := x.isLt
  rw [IntKind.wrap_i64]
  omega
theorem sw_toNat (z : BitVec 32) : (z.setWidth 64).toNat = z.toNat := by
  rw [BitVec.toNat_setWidth, Nat.mod_eq_of_lt (by have := z.isLt; omega)]
theorem s_and (x y : BitVec 32) : Op.intBits .and .i64 (sN x) (sN y) = pure (.int .i64 (sN (wAnd x y))) := by
  show pure (Value.int .i64 (IntKind.i64.wrap ((BitVec.ofInt 64 (x.toNat : Int) &&& BitVec.ofInt 64 (y.toNat : Int)).toNat : Int))) = _
  rw [ofInt_s, ofInt_s, show (BitVec.setWidth 64 x &&& BitVec.setWidth 64 y).toNat = (x &&& y).toNat from by rw [BitVec.toNat_and, sw_toNat, sw_toNat, BitVec.toNat_and], wrap_s]
  rfl
theorem s_or (x y : BitVec 32) : Op.intBits .or .i64 (sN x) (sN y) = pure (.int .i64 (sN (wOr x y))) := by
  show pure (Value.int .i64 (IntKind.i64.wrap ((BitVec.ofInt 64 (x.toNat : Int) ||| BitVec.ofInt 64 (y.toNat : Int)).toNat : Int))) = _
  rw [ofInt_s, ofInt_s, show (BitVec.setWidth 64 x ||| BitVec.setWidth 64 y).toNat = (x ||| y).toNat from by rw [BitVec.toNat_or, sw_toNat, sw_toNat, BitVec.toNat_or], wrap_s]
  rfl
theorem s_but (x y : BitVec 32) : Op.intBits .andNot .i64 (sN x) (sN y) = pure (.int .i64 (sN (wBut x y))) := by
  show pure (Value.int .i64 (IntKind.i64.wrap ((BitVec.ofInt 64 (x.toNat : Int) &&& ~~~BitVec.ofInt 64 (y.toNat : Int)).toNat : Int))) = _
  rw [ofInt_s, ofInt_s]
  have h : (BitVec.setWidth 64 x &&& ~~~BitVec.setWidth 64 y) = BitVec.setWidth 64 (x &&& ~~~y) := by
    apply BitVec.eq_of_getLsbD_eq
    intro i hi
    simp only [BitVec.getLsbD_and, BitVec.getLsbD_not, BitVec.getLsbD_setWidth]
    rcases Nat.lt_or_ge i 32 with h | h
    · simp [hi, h]
    · simp [BitVec.getLsbD_of_ge x i h]
  rw [h, sw_toNat, wrap_s]
  rfl
theorem s_and1 (x : BitVec 32) : Op.intBits .and .i64 (sN x) 1 = pure (.int .i64 (sN (wAnd x w1))) := s_and x 1#32
theorem s_shr (x : BitVec 32) (k : IntKind) (n : Int) (h : 0 ≤ n) : Op.shift .shr .i64 (sN x) k n = pure (.int .i64 (sN (wShr x n.toNat))) := by
  rw [shift_shr_any _ _ _ _ h]
  congr 2
  show (x.toNat : Int) / 2 ^ min n.toNat 64 = ((x >>> n.toNat).toNat : Int)
  rw [BitVec.toNat_ushiftRight, Nat.shiftRight_eq_div_pow]
  rcases Nat.lt_or_ge n.toNat 64 with hlt | hge
  · rw [Nat.min_eq_left (by omega), Int.natCast_ediv, Int.natCast_pow]
    rfl
  · rw [Nat.min_eq_right hge]
    have hx := x.isLt
    have h1 : x.toNat / 2 ^ n.toNat = 0 := Nat.div_eq_of_lt (Nat.lt_of_lt_of_le hx (Nat.pow_le_pow_right (by omega) (by omega)))
    rw [h1]
    have h2 : ((x.toNat : Int)) / 2 ^ 64 = 0 := by omega
    exact h2
theorem s_shl1 (k : IntKind) (n : Int) (h : 0 ≤ n) (h1 : n < 32) : Op.shift .shl .i64 1 k n = pure (.int .i64 (sN (wShl w1 n.toNat))) := by
  rw [shift_shl_any _ _ _ _ h]
  congr 2
  show IntKind.i64.wrap (1 * 2 ^ min n.toNat 64) = ((wShl w1 n.toNat).toNat : Int)
  rw [wN_shl1 (by omega), Nat.min_eq_left (by omega), IntKind.wrap_i64, Int.natCast_pow, Int.one_mul]
  have h2 : (2 : Int) ^ n.toNat < 2 ^ 32 := Int.pow_lt_pow_of_lt (by decide) (by omega)
  have h3 : (0 : Int) < 2 ^ n.toNat := Int.pow_pos (by decide)
  have h4 : (2 : Int) ^ 32 = 4294967296 := rfl
  show _ = (2 : Int) ^ n.toNat
  omega
theorem sN_inj {x y : BitVec 32} (h : sN x = sN y) : x = y := by
  apply BitVec.eq_of_toNat_eq; unfold sN at h; omega
theorem sN_0 : sN w0 = 0 := rfl
theorem s_eq0 (x : BitVec 32) : (sN x == 0) = (x == w0) := by
  rw [Bool.eq_iff_iff, beq_iff_eq, beq_iff_eq]
  exact ⟨fun h => sN_inj h, fun h => by rw [h]; rfl⟩
theorem s_ne0 (x : BitVec 32) : (sN x != 0) = (x != w0) := by rw [bne, bne, s_eq0]
theorem s_eq1 (x : BitVec 32) : (sN x == 1) = (x == w1) := by
  rw [Bool.eq_iff_iff, beq_iff_eq, beq_iff_eq]
  exact ⟨fun h => sN_inj h, fun h => by rw [h]; rfl⟩

/-- 'w>>i&1 == 1'. -/
theorem shr_and1 (x : BitVec 32) (i : Nat) : (wAnd (wShr x i) w1 == w1) = x.getLsbD i := by
  rw [Bool.eq_iff_iff, beq_iff_eq]
  constructor
  · intro h
    have := congrArg (fun z : BitVec 32 => z.getLsbD 0) h
    rw [b_and, b_shr, b_1] at this
    simpa using this
  · intro h
    apply w_ext
    intro m _
    rw [b_and, b_shr, b_1]
    by_cases hm : m = 0
    · subst hm; simp [h]
    · simp [hm]
theorem shr_and0 (x : BitVec 32) (i : Nat) : (wAnd (wShr x i) w1 == w0) = !x.getLsbD i := by
  rw [Bool.eq_iff_iff, beq_iff_eq]
  constructor
  · intro h
    have := congrArg (fun z : BitVec 32 => z.getLsbD 0) h
    rw [b_and, b_shr, b_1, b_0] at this
    simpa using this
  · intro h
    apply w_ext
    intro m _
    rw [b_and, b_shr, b_1, b_0]
    by_cases hm : m = 0
    · subst hm; simpa using h
    · simp [hm]

abbrev icell (x : Int) : List Value := [.int .i64 x]
def hasB (l : List Int) (x : Int) : Bool := l.any fun y => x == y
set_option maxRecDepth 100000 in
theorem Has_any (A : Option Addr) (n c : Nat) (l : List Int) (x : Int) (B : Nat) (w : World) (hl : l.length = n) (hn : n ≤ maxLen) (hr : Els w B 1 icell A l) :
    Calls Try.prog 26 #[.slice A n c, .int .i64 x] w fun e w' => e = .returned (.bool (hasB l x)) ∧ w = w' := by
  unfold maxLen at hn
  have HL := Lib.hid hl
  clear hl
  go_enter Try.func26, Try.ntmps26
  go_wp2_with fail
  go_loop [9] (fun i => ∃ k : Nat, k ≤ n ∧ i = .int .i64 k ∧ (l.take k).any (fun y => x == y) = false) (fun i => n - (intOf i).toNat)
  case atStart => exact ⟨0, by omega, rfl, rfl⟩
  case round =>
    obtain ⟨k, hk, rfl, hno⟩ := hrel
    have HK := Lib.hid hno
    clear hno
    by_cases hlt : k < n
    · have hkl : k < l.length := by rw [HL.out]; exact hlt
      obtain ⟨b, off, rfl, hbb, g0⟩ := hr.at1 hkl
      obtain ⟨y, hy⟩ : ∃ y, y = l[k] := ⟨_, rfl⟩
      rw [← hy] at g0
      have HY := Lib.hid hy
      clear hy
      rcases hxy : (x == y) with _ | _
      · go_wp2_with fail
        go_round
        case rel => exact ⟨k + 1, by omega, by go_num, by rw [any_take_succ _ _ _ hkl, HK.out, ← HY.out, hxy]; rfl⟩
        case measure => simp [intOf]; omega
      · go_wp2_with fail
        go_ret
        exact ⟨ret_bool (any_of_get (p := fun y => x == y) hkl (by rw [← HY.out]; exact hxy)).symm, rfl⟩
    · go_wp2_with fail
      go_ret
      exact ⟨ret_bool (any_take_all (by rw [HL.out]; omega) HK.out).symm, rfl⟩
end Go.Proofs.Ytdinknpagklkjaa

/- The cells of a word, of a number. Conditions: none. -/
namespace Go.Proofs.Ytdinknpagklkjaa
abbrev wcell (x : BitVec 32) : List Value := [.int .u32 (wN x)]
theorem lw_set (t : List (BitVec 32)) {i k : Nat} (x : BitVec 32) (hi : i < t.length) : lw (t.set i x) k = if i = k then x else lw t k := by
  unfold lw
  by_cases h : i = k
  · subst h; simp [List.getD_eq_getElem?_getD, hi]
  · simp [List.getD_eq_getElem?_getD, List.getElem?_set, h]
theorem lw_rep (n k : Nat) : lw (List.replicate n w0) k = w0 := by
  unfold lw
  by_cases h : k < n <;> simp [List.getD_eq_getElem?_getD, h]
/-- A list that grows by one is told by its element k. -/
theorem map_range_succ {α : Type} (f : Nat → α) (k : Nat) : (List.range (k + 1)).map f = (List.range k).map f ++ [f k] := by simp [List.range_succ]
end Go.Proofs.Ytdinknpagklkjaa

/- Good graphs in plain Lean: what the check lets through, neighbours as words, degrees. Conditions: none. -/
namespace Go.Proofs.Ytdinknpagklkjaa
open Go.RowKit

structure GoodE (N : Nat) (e : Ed) : Prop where
  a0 : 0 ≤ e.a
  a1 : e.a < N
  b0 : 0 ≤ e.b
  b1 : e.b < N
  ne : e.a ≠ e.b
  w0 : -1048576 ≤ e.w
  w1 : e.w ≤ 1048576
structure GoodG (N : Nat) (l : List Ed) : Prop where
  n10 : N ≤ 10
  m45 : l.length ≤ 45
  ed : ∀ e ∈ l, GoodE N e
  nd : l.Pairwise fun e f => (e.pair == f.pair) = false
theorem graphFrom_good {N : Nat} : ∀ (l pre : List Ed), graphFrom N pre l = 0 → (∀ e ∈ l, GoodE N e) ∧ (∀ e ∈ l, ∀ f ∈ pre, (f.pair == e.pair) = false) ∧ l.Pairwise fun e f => (e.pair == f.pair) = false
  | [], pre, _ => ⟨by simp, by simp, .nil⟩
  | e :: l, pre, h => by
    rw [graphFrom] at h
    split at h
    · rename_i h0
      obtain ⟨h1, h2, h3⟩ := graphFrom_good l _ h
      unfold edgeCode at h0
      split at h0
      · omega
      · split at h0
        · omega
        · split at h0
          · omega
          · split at h0
            · omega
            · rename_i q1 q2 q3 q4
              have hpre : ∀ f ∈ pre, (f.pair == e.pair) = false := fun f hf => by
                have := List.any_eq_false.1 (by simpa using q3 : pre.any (fun f => f.pair == e.pair) = false) f hf
                simpa using this
              refine ⟨fun x hx => ?_, fun x hx f hf => ?_, ?_⟩
              · rcases List.mem_cons.1 hx with rfl | hx
                · exact ⟨by omega, by omega, by omega, by omega, q2, by omega, by omega⟩
                · exact h1 x hx
              · rcases List.mem_cons.1 hx with rfl | hx
                · exact hpre f hf
                · exact h2 x hx f (List.mem_append_left _ hf)
              · exact .cons (fun x hx => h2 x hx e (by simp)) h3
    · rename_i h0; exact absurd h h0
theorem graph_good {N : Int} {l : List Ed} (h : graphCheck N l = 0) : ∃ n : Nat, N = n ∧ GoodG n l := by
  unfold graphCheck at h
  split at h
  · omega
  · rename_i hb
    obtain ⟨n, rfl⟩ := Int.eq_ofNat_of_zero_le (show 0 ≤ N by omega)
    obtain ⟨h1, _, h3⟩ := graphFrom_good l [] h
    exact ⟨n, rfl, by omega, by omega, h1, h3⟩

/-- Have two nodes an edge? -/
def joins (i j : Nat) (e : Ed) : Bool := decide ((e.a = i ∧ e.b = j) ∨ (e.a = j ∧ e.b = i))
def adj (l : List Ed) (i j : Nat) : Bool := l.any (joins i j)
theorem adj_symm (l : List Ed) (i j : Nat) : adj l i j = adj l j i := by
  unfold adj
  congr 1
  funext e
  unfold joins
  rw [decide_eq_decide]
  omega
def nearStep (t : List (BitVec 32)) (e : Ed) : List (BitVec 32) := (t.set e.a.toNat (wOr (lw t e.a.toNat) (wShl w1 e.b.toNat))).set e.b.toNat (wOr (lw t e.b.toNat) (wShl w1 e.a.toNat))
theorem nearStep_length (t : List (BitVec 32)) (e : Ed) : (nearStep t e).length = t.length := by simp [nearStep]
def nearL (N : Nat) (l : List Ed) : List (BitVec 32) := l.foldl nearStep (List.replicate N w0)
theorem foldl_near_length (l : List Ed) : ∀ t, (l.foldl nearStep t).length = t.length := by
  induction l with
  | nil => intro t; rfl
  | cons e l ih => intro t; rw [List.foldl_cons, ih, nearStep_length]
theorem nearL_length (N : Nat) (l : List Ed) : (nearL N l).length = N := by unfold nearL; rw [foldl_near_length]; simp
theorem nearL_snoc (N : Nat) (l : List Ed) (e : Ed) : nearL N (l ++ [e]) = nearStep (nearL N l) e := by simp [nearL, List.foldl_append]
theorem nearStep_bit {N : Nat} {t : List (BitVec 32)} {e : Ed} (ht : t.length = N) (he : GoodE N e) (hN : N ≤ 32) (i j : Nat) (hi : i < N) : (lw (nearStep t e) i).getLsbD j = ((lw t i).getLsbD j || joins i j e) := by
  obtain ⟨a0, a1, b0, b1, ne, _, _⟩ := he
  unfold nearStep joins
  obtain ⟨a, ha⟩ := Int.eq_ofNat_of_zero_le a0
  obtain ⟨b, hb⟩ := Int.eq_ofNat_of_zero_le b0
  rw [ha] at a1 ne
  rw [hb] at b1 ne
  rw [ha, hb]
  clear ha hb a0 b0
  simp only [Int.toNat_natCast]
  rw [lw_set _ _ (by rw [List.length_set]; omega), lw_set _ _ (by omega)]
  by_cases h1 : b = i
  · subst h1
    rw [if_pos rfl, b_or, b_one]
    congr 1
    rw [Bool.eq_iff_iff]
    simp
    omega
  · rw [if_neg h1]
    by_cases h2 : a = i
    · subst h2
      rw [if_pos rfl, b_or, b_one]
      congr 1
      rw [Bool.eq_iff_iff]
      simp
      omega
    · rw [if_neg h2]
      have : decide (((a : Int) = i ∧ (b : Int) = j) ∨ ((a : Int) = j ∧ (b : Int) = i)) = false := by simp; omega
      rw [this, Bool.or_false]
theorem foldl_near_bit {N : Nat} (hN : N ≤ 32) (i j : Nat) (hi : i < N) : ∀ (l : List Ed) (t : List (BitVec 32)), t.length = N → (∀ e ∈ l, GoodE N e) → (lw (l.foldl nearStep t) i).getLsbD j = ((lw t i).getLsbD j || adj l i j)
  | [], t, _, _ => by simp [adj]
  | e :: l, t, ht, hl => by
    rw [List.foldl_cons, foldl_near_bit hN i j hi l _ (by rw [nearStep_length, ht]) (fun x hx => hl x (List.mem_cons_of_mem _ hx)), nearStep_bit ht (hl e (by simp)) hN i j hi]
    simp [adj, Bool.or_assoc]
theorem near_bit {N : Nat} {l : List Ed} (h : GoodG N l) {i : Nat} (hi : i < N) (j : Nat) : (lw (nearL N l) i).getLsbD j = adj l i j := by
  unfold nearL
  rw [foldl_near_bit (by have := h.n10; omega) i j hi l _ (by simp) h.ed, lw_rep, b_0, Bool.false_or]

/-- How many edges a node has. -/
def touches (i : Int) (e : Ed) : Bool := decide (e.a = i ∨ e.b = i)
def deg (l : List Ed) (i : Int) : Nat := l.countP (touches i)
theorem countP_range_or (q : Nat → Bool) (o : Nat) (hq : q o = false) : ∀ n, (List.range n).countP (fun j => decide (j = o) || q j) = (List.range n).countP q + if o < n then 1 else 0
  | 0 => by simp
  | n + 1 => by
    rw [List.range_succ, List.countP_append, List.countP_append, countP_range_or q o hq n]
    simp only [List.countP_cons, List.countP_nil]
    by_cases h : n = o
    · subst h; simp [hq]
    · have : (o < n + 1) = (o < n) := by simp only [eq_iff_iff]; omega
      simp only [h, this, decide_false, Bool.false_or]
      omega
theorem countP_range_same {p q : Nat → Bool} (n : Nat) (h : ∀ j, j < n → p j = q j) : (List.range n).countP p = (List.range n).countP q := by
  refine List.countP_congr fun j hj => ?_
  rw [h j (List.mem_range.1 hj)]
theorem deg_count {N : Nat} (hN : N ≤ 32) (i : Nat) : ∀ (l : List Ed), (∀ e ∈ l, GoodE N e) → (l.Pairwise fun e f => (e.pair == f.pair) = false) → (List.range 32).countP (fun j => adj l i j) = deg l i
  | [], _, _ => by simp [adj, deg]
  | e :: l, hl, hp => by
    obtain ⟨h1, h2⟩ := List.pairwise_cons.1 hp
    have ih := deg_count hN i l (fun x hx => hl x (List.mem_cons_of_mem _ hx)) h2
    have he := hl e (by simp)
    unfold deg at ih ⊢
    rw [List.countP_cons, ← ih]
    have key : ∀ o : Nat, o < 32 → (∀ j, joins i j e = decide (j = o)) → touches i e = true → (List.range 32).countP (fun j => adj (e :: l) i j) = (List.range 32).countP (fun j => adj l i j) + if touches i e = true then 1 else 0 := by
      intro o ho hj ht
      have hno : adj l i o = false := by
        unfold adj
        rw [List.any_eq_false]
        intro f hf hfo
        have hpf := h1 f hf
        have hje := hj o
        simp only [decide_true] at hje
        unfold joins at hje hfo
        unfold Ed.pair at hpf
        rw [beq_eq_false_iff_ne, ne_eq, Prod.mk.injEq] at hpf
        simp only [decide_eq_true_eq] at hje hfo
        omega
      rw [if_pos ht, countP_range_same (q := fun j => decide (j = o) || adj l i j) 32 (fun j _ => by show (joins i j e || adj l i j) = _; rw [hj]), countP_range_or _ o hno, if_pos ho]
    obtain ⟨a, ha⟩ := Int.eq_ofNat_of_zero_le he.a0
    obtain ⟨b, hb⟩ := Int.eq_ofNat_of_zero_le he.b0
    have ha1 := he.a1
    have hb1 := he.b1
    have hne := he.ne
    by_cases h3 : a = i
    · exact key b (by omega) (fun j => by unfold joins; rw [decide_eq_decide]; omega) (by unfold touches; simp; omega)
    · by_cases h4 : b = i
      · exact key a (by omega) (fun j => by unfold joins; rw [decide_eq_decide]; omega) (by unfold touches; simp; omega)
      · have ht : touches i e = false := by unfold touches; simp; omega
        rw [ht]
        simp only [Bool.false_eq_true, if_false, Nat.add_zero]
        refine countP_range_same 32 fun j _ => ?_
        show (joins i j e || adj l i j) = _
        have : joins i j e = false := by unfold joins; simp; omega
        rw [this, Bool.false_or]
theorem pop_near {N : Nat} {l : List Ed} (h : GoodG N l) {i : Nat} (hi : i < N) : pop (lw (nearL N l) i) = deg l i := by
  have hN := h.n10
  rw [← deg_count (N := N) (by omega) i l h.ed h.nd]
  exact countP_range_same 32 fun j _ => near_bit h hi j
theorem deg_take_succ (l : List Ed) (i : Int) (k : Nat) (hk : k < l.length) : deg (l.take (k + 1)) i = deg (l.take k) i + if touches i l[k] = true then 1 else 0 := by
  unfold deg
  rw [List.take_succ_eq_append_getElem hk, List.countP_append]
  simp [List.countP_cons]
theorem deg_le (l : List Ed) (i : Int) : deg l i ≤ l.length := List.countP_le_length
end Go.Proofs.Ytdinknpagklkjaa

/- Words that count, and the one bit at a place. Conditions: none. -/
namespace Go.Proofs.Ytdinknpagklkjaa
open Go.RowKit

def nw (k : Nat) : BitVec 32 := BitVec.ofNat 32 k
theorem wN_nw {k : Nat} (h : k < 4294967296) : wN (nw k) = k := by
  unfold wN nw
  rw [BitVec.toNat_ofNat]
  omega
theorem nw_succ (k : Nat) : wAdd (nw k) w1 = nw (k + 1) := by
  unfold wAdd w1 nw
  apply BitVec.eq_of_toNat_eq
  simp
theorem wN_pow {n : Nat} (h : n < 32) : wN (wShl w1 n) = (2 ^ n : Nat) := by
  unfold wN
  rw [wN_shl1 h]
theorem shr_and1_eq0 (x : BitVec 32) (i : Nat) : (wAnd (wShr x i) w1 == w0) = !bitB x i := by
  rw [bitB_nat, Bool.eq_iff_iff, beq_iff_eq]
  constructor
  · intro h
    have := congrArg (fun v => v.getLsbD 0) h
    simp only [b_and, b_shr, b_1, b_0, Nat.add_zero, decide_true, Bool.and_true] at this
    rw [this]
    rfl
  · intro h
    apply w_ext
    intro m _
    rw [b_and, b_shr, b_1, b_0]
    by_cases hm : m = 0
    · subst hm
      simpa using h
    · simp [hm]
theorem nw_toNat (x : BitVec 32) : nw x.toNat = x := by
  unfold nw
  exact BitVec.ofNat_toNat 32 x |>.trans (by simp)

end Go.Proofs.Ytdinknpagklkjaa
