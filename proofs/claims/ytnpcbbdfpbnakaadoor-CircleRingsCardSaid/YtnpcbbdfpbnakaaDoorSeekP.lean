/- A slice that is grown and cut in place; what a call keeps that turns some blocks of cells. Conditions: none. -/
import Derived.Test.YtnpcbbdfpbnakaaDoorRowsA
import Derived.Test.YtnpcbbdfpbnakaaDoorLotsA
namespace Go.Proofs.YtnpcbbdfpbnakaaDoor
open Go.RowKit Go.Shelf

theorem Own.pop {α : Type} {w : World} {B c cap g : Nat} {e : TypeId} {f : α → List Value} {l : List α} {x : α} (h : Own w B e c f (some ⟨g, 0, none⟩) cap (l ++ [x])) : Own w B e c f (some ⟨g, 0, none⟩) cap l := by
  have hlen : ∀ l : List α, (l.flatMap f).length = l.length * c := fun l => by
    induction l with
    | nil => simp
    | cons y ys ih => rw [List.flatMap_cons, List.length_append, ih, h.1, List.length_cons, Nat.add_mul]; omega
  refine ⟨h.1, hlen l, ?_⟩
  rcases h.2.2 with ⟨hv, _⟩ | ⟨g', cp, cur, hv, hb, hh, hn, hm, hcs, ht⟩
  · cases hv
  · injection hv with h1 h2 h3
    injection h1 with h1
    injection h1 with h1 _ _
    subst h1 h3
    refine .inr ⟨g, cap, cur, rfl, hb, hh, ?_, hm, hcs, ?_⟩
    · rw [List.length_append] at hn; omega
    · have h4 := congrArg (List.take (l.length * c)) ht
      rw [List.take_take, List.flatMap_append] at h4
      rw [List.take_left' (hlen l)] at h4
      rw [← h4]
      congr 1
      rw [List.length_append, Nat.add_mul]
      omega
theorem KeepsFrom.held {B : Nat} {ex : List Nat} {W W' : World} (h : Held ex W W') (hx : ∀ k ∈ ex, ∀ o : Obj, W.heap[k]? = some o → o.isCells = true) : KeepsFrom B W W' :=
  ⟨h.size, fun k o _ hk ho => by
    by_cases hm : k ∈ ex
    · rw [hx k hm o hk] at ho
      cases ho
    · exact (h.block k (lt_of_block hk) hm).trans hk⟩
theorem KpE.held {ex : List Nat} {W W' : World} {bx : Nat} {t : TypeId} (h : Held ex W W') (hbx : bx ∉ ex) (h0 : 0 ∉ ex) : KpE bx t W W' :=
  ⟨fun v hv => (h.block bx hv.lt hbx).trans hv, fun ht => ht.block h.size (h.block 0 ht.1 h0)⟩
theorem Held.mono {ex ex' : List Nat} {W W' : World} (h : Held ex W W') (hs : ∀ k ∈ ex, k < W.heap.size → k ∈ ex') : Held ex' W W' :=
  ⟨h.os, h.tape, h.output, h.size, fun k hk hx => h.block k hk (fun hm => hx (hs k hm hk))⟩
theorem Held.then {ex ex' : List Nat} {a b c : World} (h : Held ex a b) (k : Held ex' b c) (hs : ∀ i ∈ ex', i < a.heap.size → i ∈ ex) : Held ex a c :=
  ⟨k.os.trans h.os, k.tape.trans h.tape, k.output.trans h.output, Nat.le_trans h.size k.size, fun i hi hx => (k.block i (Nat.lt_of_lt_of_le hi h.size) (fun hm => hx (hs i hm hi))).trans (h.block i hi hx)⟩
theorem Blk.held {ex : List Nat} {W W' : World} {g : Nat} {t : TypeId} {cs : Array Value} (h : Held ex W W') (hk : Blk W g t cs) (hg : g ∉ ex) : Blk W' g t cs := (h.block g hk.lt hg).trans hk
theorem Blk.isCells {W : World} {g : Nat} {t : TypeId} {cs : Array Value} (hk : Blk W g t cs) (o : Obj) (h : W.heap[g]? = some o) : o.isCells = true := by
  unfold Blk at hk
  rw [hk] at h
  cases h
  rfl
theorem Own.isCells {α : Type} {w : World} {B c cap g : Nat} {e : TypeId} {f : α → List Value} {l : List α} (h : Own w B e c f (some ⟨g, 0, none⟩) cap l) (o : Obj) (ho : w.heap[g]? = some o) : o.isCells = true := by
  rcases h.2.2 with ⟨hv, _⟩ | ⟨g', cp, cur, hv, hb, hh, _⟩
  · cases hv
  · injection hv with h1 h2 h3
    injection h1 with h1
    injection h1 with h1 _ _
    subst h1
    rw [hh] at ho
    cases ho
    rfl
theorem own_blk_ne {α : Type} {w : World} {B c cap g k : Nat} {e t : TypeId} {f : α → List Value} {l : List α} {cs : Array Value} (h : Own w B e c f (some ⟨g, 0, none⟩) cap l) (hk : Blk w k t cs) (hne : e ≠ t) : g ≠ k := fun he => by
  subst he
  rcases h.2.2 with ⟨hv, _⟩ | ⟨g', cp, cur, hv, hb, hh, _⟩
  · cases hv
  · injection hv with h1 h2 h3
    injection h1 with h1
    injection h1 with h1 _ _
    subst h1
    unfold Blk at hk
    rw [hh] at hk
    injection hk with hk
    injection hk with h1 h2 h3
    exact hne h2
theorem own_lt {α : Type} {w : World} {B c cap g : Nat} {e : TypeId} {f : α → List Value} {l : List α} (h : Own w B e c f (some ⟨g, 0, none⟩) cap l) : B ≤ g ∧ g < w.heap.size := h.lt g rfl
theorem own_held {α : Type} {ex : List Nat} {w w' : World} {B c cap g : Nat} {e : TypeId} {f : α → List Value} {l : List α} (h : Own w B e c f (some ⟨g, 0, none⟩) cap l) (hh : Held ex w w') (hg : g ∉ ex) : Own w' B e c f (some ⟨g, 0, none⟩) cap l := by
  have hlt := (own_lt h).2
  refine ⟨h.1, h.2.1, ?_⟩
  rcases h.2.2 with ⟨hv, _⟩ | ⟨g', cp, cur, hv, hb, hb2, r⟩
  · cases hv
  · have hgg : g = g' := by
      injection hv with h1 h2 h3
      injection h1 with h1
      injection h1
    subst hgg
    exact .inr ⟨g, cp, cur, hv, hb, (hh.block g hlt hg).trans hb2, r⟩
theorem wrap_le20 (q : Nat) (h1 : q ≤ 20) : IntKind.i64.wrap (q : Int) = (q : Int) := by
  have h : ∀ i : Fin 21, IntKind.i64.wrap ((i.val : Nat) : Int) = ((i.val : Nat) : Int) := by decide +kernel
  exact h ⟨q, by omega⟩
theorem wAnd_comm (x y : BitVec 32) : wAnd x y = wAnd y x := BitVec.and_comm x y
end Go.Proofs.YtnpcbbdfpbnakaaDoor
