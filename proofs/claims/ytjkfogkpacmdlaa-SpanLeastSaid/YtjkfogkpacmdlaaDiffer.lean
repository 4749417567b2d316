/- Two rows of different types lie apart. Conditions: none. -/
import Derived.Test.YtjkfogkpacmdlaaOwn
namespace Go.Proofs.Ytjkfogkpacmdlaa
open Go.RowKit

theorem Own.apart {α β : Type} {w : World} {B B' c c' cap cap' : Nat} {e e' : TypeId} {f : α → List Value} {f' : β → List Value} {A A' : Option Addr} {l : List α} {l' : List β} (h : Own w B e c f A cap l) (h' : Own w B' e' c' f' A' cap' l') (hne : e ≠ e') : blkOf A = none ∨ blkOf A ≠ blkOf A' := by
  rcases h.2.2 with ⟨hv, _⟩ | ⟨g, cp, cur, hv, _, hh, _⟩
  · injection hv with hv
    left; rw [hv]; rfl
  · right
    injection hv with hv
    subst hv
    intro he
    rcases h'.2.2 with ⟨hv', _⟩ | ⟨g', cp', cur', hv', _, hh', _⟩
    · injection hv' with hv'
      rw [hv'] at he; cases he
    · injection hv' with hv'
      subst hv'
      have hg : g = g' := by simpa [blkOf] using he
      subst hg
      rw [hh] at hh'
      injection hh' with hh'
      injection hh' with _ h2
      exact hne h2
end Go.Proofs.Ytjkfogkpacmdlaa
