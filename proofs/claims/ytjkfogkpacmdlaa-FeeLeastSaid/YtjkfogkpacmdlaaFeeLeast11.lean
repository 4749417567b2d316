/- A row that was made. Conditions: none. -/
import Derived.Test.YtjkfogkpacmdlaaFeeLeast8
import Derived.Test.YtjkfogkpacmdlaaFeeLeast9
namespace Go.Proofs.Ytjkfogkpacmdlaa
open Go.RowKit

theorem made_flat {α : Type} (f : α → Value) (x0 : α) (n : Nat) : (madeCells #[f x0] n).toList = (List.replicate n x0).flatMap fun a => [f a] := by
  rw [flat1, List.map_replicate]
  apply List.ext_getElem
  · simp [size_madeCells]
  · intro j h1 h2
    simp only [List.getElem_replicate]
    unfold madeCells
    have : j % 1 = 0 := Nat.mod_one j
    simp [this]
theorem Own.block1 {α : Type} {w : World} {B g : Nat} {e : TypeId} {f : α → Value} {x0 : α} {n : Nat} (h : w.heap[g]? = some (.cells (madeCells #[f x0] n) e)) (hm : n ≤ maxLen) (hB : B ≤ g) : Own w B e 1 (fun a => [f a]) (some ⟨g, 0, none⟩) n (List.replicate n x0) := by
  have hys := made_flat f x0 n
  have hlen : ((List.replicate n x0).flatMap fun a => [f a]).length = (List.replicate n x0).length * 1 := by rw [flat1]; simp
  refine ⟨fun _ => rfl, hlen, .inr ⟨g, _, madeCells #[f x0] n, by simp, hB, h, ?_, hm, ?_, ?_⟩⟩
  · simp
  · rw [size_madeCells]; simp
  · rw [← hys]
    have : (madeCells #[f x0] n).toList.length = n := by simp [size_madeCells]
    rw [List.take_of_length_le]
    rw [this]; simp
theorem Own.at_ {α : Type} {w : World} {B g cap k : Nat} {e : TypeId} {f : α → Value} {l : List α} (h : Own w B e 1 (fun a => [f a]) (some ⟨g, 0, none⟩) cap l) (hk : k < l.length) : w.cell? ⟨g, k, none⟩ = some (f l[k]) ∧ w.frozen? ⟨g, k, none⟩ = false := by
  obtain ⟨g', hg, _, _, h1, h2⟩ := h.cell1 hk
  obtain rfl : g = g' := by simpa using hg
  exact ⟨h1, h2⟩
end Go.Proofs.Ytjkfogkpacmdlaa
