/- copy: a whole row filled with a slice of its length. Conditions: none. -/
import Derived.Test.YtokmialpclcodaaDoorMade
import Derived.Laws.CopyOwn
namespace Go.Proofs.YtokmialpclcodaaDoor
open Go.RowKit

theorem run_copy_all {P : Program} {α : Type} {f : α → Value} (w : World) (dT sT ty e : TypeId) (g n dc : Nat) (A : Option Addr) (sc B : Nat) (cur : Array Value) (xs : List α) (hu : P.underlying dT = some (.slice e)) (hs : (P.info? e).map (·.size) = some 1)
    (hg : Blk w g e cur) (hc : cur.size = n) (hx : Els w B 1 (fun a => [f a]) A xs) (hn : xs.length = n) (h1 : ∀ a, (f a).oneCell' = true) :
    ∃ w' : World, (Builtin.copy_ #[dT, sT] ty #[.slice (some ⟨g, 0, none⟩) n dc, .slice A n sc]).run P w = .ok (goInt n) w' ∧ Blk w' g e (xs.map f).toArray ∧ Below g w w' ∧ ∀ k, k ≠ g → w'.heap[k]? = w.heap[k]? := by
  by_cases h0 : n = 0
  · subst h0
    have hx0 : xs = [] := List.length_eq_zero_iff.1 hn
    have hcur : cur = #[] := Array.eq_empty_of_size_eq_zero hc
    subst hx0 hcur
    exact ⟨w, run_copy_none w dT sT ty e _ A 0 dc 0 sc hu hs (by simp), hg, Below.refl _ _, fun _ _ => rfl⟩
  · obtain ⟨b, off, rfl, _, _⟩ := hx (by omega)
    have hcs : ∀ j v, (xs.map f)[j]? = some v → w.cell? ((⟨b, off, none⟩ : Addr).add j) = some v := fun j v hv => hx.cells (fun _ => rfl) rfl j v (by rw [flat1]; exact hv)
    have hone : ∀ v ∈ xs.map f, v.oneCell' = true := fun v hv => by
      obtain ⟨a, _, rfl⟩ := List.mem_map.1 hv
      exact h1 a
    have hlen : (xs.map f).length = n := by rw [List.length_map, hn]
    have := run_copy_row (P := P) w dT sT ty e g 0 n dc ⟨b, off, none⟩ n sc cur e (xs.map f) hu hs hg (by rw [hlen]; simp) hcs (by rw [hlen, hc]; omega) hone
    rw [hlen] at this
    have hdrop : cur.toList.take 0 ++ xs.map f ++ cur.toList.drop (0 + n) = xs.map f := by
      rw [List.drop_of_length_le (by simp [hc]), List.take_zero, List.nil_append, List.append_nil]
    rw [hdrop] at this
    exact ⟨_, this, setRow_heap w g cur _ e (0, 0) hg, below_setRow (Below.refl g w) (Nat.le_refl _) _, fun k hk => setRow_other w g k _ hk⟩
end Go.Proofs.YtokmialpclcodaaDoor
