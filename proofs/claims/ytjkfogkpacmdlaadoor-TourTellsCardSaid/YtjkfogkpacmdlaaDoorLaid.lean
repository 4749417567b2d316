/- The one listed variable, math/bits.deBruijn32tab: what the row's condition gives the walk. Conditions: none. -/
import Derived.Test.YtjkfogkpacmdlaaDoorRows
import Derived.Test.YtjkfogkpacmdlaaDoorTie
import Derived.Test.YtjkfogkpacmdlaaDoorTz
import Derived.ProofKit
import Derived.LaidMore
import Derived.OpenShut
import Derived.Stop.Joined
namespace Go.Proofs.YtjkfogkpacmdlaaDoor
open Go.ChangeShapes Go.WideShapes Go.ChangeAt Go.WideMaps Go.WideElems Go.RowKit

def tabD {H : Type} : DataW H := .agg (Lib.deBruijn32tab.map fun (n : Nat) => .lit (.int .u8 n))
theorem tab_eq {H : Type} : (Rows.laid_math_bits_deBruijn32tab : DataW H) = tabD := rfl
abbrev laid1 : List (String × DataW Unit) := [("math/bits.deBruijn32tab", Rows.laid_math_bits_deBruijn32tab)]
theorem gTab : Tryd.prog.globalNamed "math/bits.deBruijn32tab" = some 0 := by kernel_rfl
theorem tTab : (Tryd.prog.globals[0]?).map (·.type) = some 67 := by kernel_rfl
/-- The door's own heap meets the condition. -/
theorem door_met (os : Os) (args : Array Value) : laidMetH Tryd.prog laid1 ((World.doorLaid Tryd.prog 14 os).forCall (fun _ _ => 0) ⟨#[], args, []⟩).memory :=
  laidMetH_of_parts3 (fuel := 8) (laidMet_of_run' 8 (by kernel_rfl) (by kernel_rfl)) (by kernel_rfl) (by kernel_rfl)
theorem tab_of_laid {W : World} (h : laidMetH Tryd.prog laid1 W) : TabOk W := by
  rw [MakeChecks.laidMetH_plain _ _ _ (by kernel_rfl)] at h
  obtain ⟨ps, ⟨g0, t0, cs0, f0, p0, q0, hg0, ht0, hv0, hd0, _⟩, _, _⟩ := h
  obtain rfl := Option.some.inj (gTab.symm.trans hg0)
  obtain rfl := Option.some.inj (tTab.symm.trans ht0)
  rw [tab_eq] at hd0
  obtain ⟨xs, m, rfl, hx, hlen, hn, hel⟩ := DataW.trod_array Tryd.underlying67 hd0
  have c5 : Tryd.prog.cellsOf 5 = 1 := by kernel_rfl
  have c95 : Tryd.prog.cellsOf 67 = 32 := by kernel_rfl
  rw [c95] at hlen
  injection hx with hx1 hx2
  unfold tabD at hx1
  injection hx1 with hx1
  have cell : ∀ j, j < 32 → W.cell? ⟨0, j, none⟩ = some (.int .u8 (Lib.deBruijn32tab.getD j 0)) := by
    intro j hj
    have h1 := hel j hj
    rw [c5, Nat.mul_one] at h1
    have hjx : j < xs.length := by omega
    rw [List.getElem?_eq_getElem hjx] at h1
    obtain ⟨k, e1, e2, _⟩ := DataW.trod_int Tryd.underlying5 h1
    have hjt : j < Lib.deBruijn32tab.length := hj
    have hk : k = (Lib.deBruijn32tab.getD j 0 : Nat) := by
      have h3 : (xs.map (·.1))[j]? = some (.lit (.int .u8 k)) := by
        rw [List.getElem?_map, List.getElem?_eq_getElem hjx]
        simp [e2]
      rw [← hx1, List.getElem?_map, List.getElem?_eq_getElem hjt] at h3
      simp at h3
      rw [getD_at _ _ hjt]
      exact h3.symm
    subst hk
    rw [World.var?_cell hg0 hv0 j]
    have hjc : j < cs0.size := by rw [← Array.length_toList, hlen]; exact hj
    have h2 := congrArg (fun l => l[0]?) e1
    simp only [List.getElem?_take, List.getElem?_drop, Nat.add_zero] at h2
    simpa [hjc] using h2
  exact ⟨block_lt_of_cell (cell 0 (by omega)), cell⟩
end Go.Proofs.YtjkfogkpacmdlaaDoor
