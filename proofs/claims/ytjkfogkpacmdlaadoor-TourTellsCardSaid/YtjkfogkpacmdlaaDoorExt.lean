/- Worlds that come of a world by draws and new blocks alone; what holds stays. For regions that draw their order and append. Conditions: none. -/
import Derived.Test.YtjkfogkpacmdlaaDoorDiffer
namespace Go.Proofs.YtjkfogkpacmdlaaDoor
open Go.RowKit

/-- W comes of v by draws and new blocks. -/
inductive Wex (v : World) : World → Prop where
  | refl : Wex v v
  | alloc {W : World} (o : Obj) : Wex v W → Wex v (W.alloc o)
  | drew {W : World} : Wex v W → Wex v W.drew
  | drewN {W : World} (q : Nat) : Wex v W → Wex v (W.drewN q)
theorem Wex.size {v W : World} (h : Wex v W) : v.heap.size ≤ W.heap.size := by
  induction h with
  | refl => exact Nat.le_refl _
  | alloc o _ ih => rw [size_alloc']; omega
  | drew _ ih => exact ih
  | drewN _ _ ih => exact ih
theorem Wex.bel {v W : World} (h : Wex v W) {B : Nat} {w : World} (hb : Below B w v) (hB : B ≤ v.heap.size) : Below B w W := by
  induction h with
  | refl => exact hb
  | alloc o hx ih => exact ih.alloc (Nat.le_trans hB hx.size) o
  | drew _ ih => exact ih.drew
  | drewN _ _ ih => exact below_drewN ih _
theorem Wex.blk {v W : World} (h : Wex v W) {g : Nat} {t : TypeId} {cs : Array Value} (k : Blk v g t cs) : Blk W g t cs := by
  induction h with
  | refl => exact k
  | alloc o _ ih => exact ih.alloc o
  | drew _ ih => exact ih.drew
  | drewN _ _ ih => exact ih.drewN _
theorem Wex.cell {v W : World} (h : Wex v W) {g : Nat} {t : TypeId} {cs : Array Value} (k : Blk v g t cs) (i : Nat) {u : Value} (hu : cs[i]? = some u) : W.cell? ⟨g, i, none⟩ = some u := by
  rw [← hu]
  exact (h.blk k).cell i
theorem Wex.own {v W : World} (h : Wex v W) {α : Type} {B c cap : Nat} {e : TypeId} {f : α → List Value} {A : Option Addr} {l : List α} (k : Own v B e c f A cap l) : Own W B e c f A cap l := by
  induction h with
  | refl => exact k
  | alloc o _ ih => exact ih.alloc o
  | drew _ ih => exact ih.drew
  | drewN _ _ ih => exact ih.drewN _
theorem Own.ne_blk {α : Type} {w : World} {B c cap g : Nat} {e t : TypeId} {f : α → List Value} {A : Option Addr} {l : List α} {cs : Array Value} (h : Own w B e c f A cap l) (hb : Blk w g t cs) (hne : t ≠ e) : some g ≠ blkOf A := by
  intro he
  rcases h.2.2 with ⟨hv, _⟩ | ⟨g', cp, cur, hv, _, hh, _⟩
  · injection hv with hv
    rw [hv] at he; cases he
  · injection hv with hv
    subst hv
    have hg : g = g' := by simpa [blkOf] using he
    subst hg
    unfold Blk at hb
    rw [hh] at hb
    injection hb with hb
    injection hb with _ h2
    exact hne h2.symm
theorem Blk.new_at {W : World} {g : Nat} {t : TypeId} {cs : Array Value} (h : W.heap.size = g) : Blk (W.alloc (.cells cs t)) g t cs := by
  subst h
  exact Blk.new _ _ _
end Go.Proofs.YtjkfogkpacmdlaaDoor
