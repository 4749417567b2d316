/- Rows cut short, cells set one behind the other, what may change. Conditions: none. -/
import Derived.Test.YtokmialpclcodaaIdx
import Derived.Test.YtokmialpclcodaaInts
import Derived.Test.YtokmialpclcodaaTailS
import Derived.Test.YtokmialpclcodaaHeldB
import Derived.Test.YtokmialpclcodaaPackP
import Derived.Lib.SliceRun
namespace Go.Proofs.Ytokmialpclcodaa
open Go.RowKit

theorem gb_trans {a b c : World} {row : Option Nat} (h : a.grownBy b row) (k : b.grownBy c row) : a.grownBy c row :=
  ⟨k.os.trans h.os, k.tape.trans h.tape, k.output.trans h.output, Nat.le_trans h.size k.size, fun i hi hn => (k.block i (Nat.lt_of_lt_of_le hi h.size) hn).trans (h.block i hi hn)⟩
theorem gb_setCell (w : World) (g i : Nat) (v : Value) : w.grownBy (w.setCell ⟨g, i, none⟩ v) (some g) :=
  ⟨rfl, rfl, rfl, by simp [World.setCell], fun k _ hn => Below.heap_setCell w ⟨g, i, none⟩ v k (fun e => hn (by rw [e]))⟩
theorem gb_below {w w' : World} {row : Option Nat} (h : Below w.heap.size w w') : w.grownBy w' row := ⟨h.os, h.tape, h.output, h.size, fun k hk _ => h.block k hk⟩
theorem Own.cut {α : Type} {w : World} {B c cap g : Nat} {e : TypeId} {f : α → List Value} {X : List α} : ∀ (m : Nat) (Y : List α), Y.length = m → Own w B e c f (some ⟨g, 0, none⟩) cap (X ++ Y) → Own w B e c f (some ⟨g, 0, none⟩) cap X
  | 0, Y, h, ho => by
    rw [List.length_eq_zero_iff.1 h, List.append_nil] at ho
    exact ho
  | m + 1, Y, h, ho => by
    have hne : Y ≠ [] := fun e => by rw [e] at h; simp at h
    refine Own.cut m Y.dropLast (by rw [List.length_dropLast]; omega) (Own.pop (x := Y.getLast hne) ?_)
    rw [List.append_assoc, List.dropLast_concat_getLast]
    exact ho
theorem Own.first {α : Type} {w : World} {B c cap g : Nat} {e : TypeId} {f : α → List Value} {L : List α} (h : Own w B e c f (some ⟨g, 0, none⟩) cap L) (i : Nat) : Own w B e c f (some ⟨g, 0, none⟩) cap (L.take i) := by
  refine Own.cut _ (L.drop i) rfl ?_
  rw [List.take_append_drop]
  exact h
theorem own_setCells {w : World} {B cap g : Nat} {e : TypeId} {f : Int → Value} (z : Int) : ∀ (k o : Nat) (w : World) (L : List Int), o + k ≤ L.length → Own w B e 1 (fun a => [f a]) (some ⟨g, 0, none⟩) cap L → ∃ L', L'.length = L.length ∧ L'.take o = L.take o ∧ Own (w.setCells g o (List.replicate k (f z))) B e 1 (fun a => [f a]) (some ⟨g, 0, none⟩) cap L' ∧ w.grownBy (w.setCells g o (List.replicate k (f z))) (some g)
  | 0, o, w, L, _, h => ⟨L, rfl, rfl, h, World.grownBy.refl w _⟩
  | k + 1, o, w, L, hk, h => by
    obtain ⟨L', h1, h2, h3, h4⟩ := own_setCells (w := w) z k (o + 1) (w.setCell ⟨g, o, none⟩ (f z)) (L.set o z) (by rw [List.length_set]; omega) (h.put1 (by omega))
    refine ⟨L', by rw [h1, List.length_set], ?_, h3, gb_trans (gb_setCell w g o _) h4⟩
    have := congrArg (List.take o) h2
    rw [List.take_take, List.take_take, Nat.min_eq_left (by omega), List.take_set_of_le (Nat.le_refl _)] at this
    exact this
theorem gb_own {w wx : World} {B cap n : Nat} {A : Option Addr} {l : List Int} (hb : Below n w wx) (hn : w.heap.size ≤ n) : w.grownBy wx (blkOf A) := ⟨hb.os, hb.tape, hb.output, hb.size, fun k hk _ => hb.block k (by omega)⟩

end Go.Proofs.Ytokmialpclcodaa
