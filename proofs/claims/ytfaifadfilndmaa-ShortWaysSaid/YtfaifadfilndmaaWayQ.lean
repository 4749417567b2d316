/- What the table of the least lengths holds by now; when the first shortest walk is there. Conditions: none. -/
import Derived.Test.YtfaifadfilndmaaKeyS
import Derived.Test.YtfaifadfilndmaaWayA
namespace Go.Proofs.Ytfaifadfilndmaa
open Go.RowKit

def BestL (L : List ((Int × Int) × Value)) (rows : Nat → List (Option Int)) : Prop := ∀ v j : Nat, getK L ((v : Int), (j : Int)) = (og (rows j) v).map fun x => .int .i64 x
def rowsAt (l : List Arc) (N t k : Nat) (cur : List (Option Int)) (j : Nat) : List (Option Int) := if j < k then exO l N t j else if j = k then cur else []
theorem rowsAt_lt {l : List Arc} {N t k j : Nat} {cur : List (Option Int)} (h : j < k) : rowsAt l N t k cur j = exO l N t j := if_pos h
theorem rowsAt_eq (l : List Arc) (N t k : Nat) (cur : List (Option Int)) : rowsAt l N t k cur k = cur := by unfold rowsAt; rw [if_neg (Nat.lt_irrefl k), if_pos rfl]
theorem BestL.put {L : List ((Int × Int) × Value)} {l : List Arc} {N t k f : Nat} {cur : List (Option Int)} (h : BestL L (rowsAt l N t k cur)) (hf : f < cur.length) (x : Int) : BestL (putK L ((f : Int), (k : Int)) (.int .i64 x)) (rowsAt l N t k (cur.set f (some x))) := fun v j => by
  by_cases hj : j = k
  · subst hj
    rw [rowsAt_eq, og_set _ _ hf]
    by_cases hv : f = v
    · subst hv
      rw [getK_put_same, if_pos rfl]
      rfl
    · rw [getK_put_other _ _ (fun e => hv (by injection e with e1 e2; omega)), if_neg hv, h v j, rowsAt_eq]
  · rw [getK_put_other _ _ (fun e => hj (by injection e with e1 e2; omega)), h v j]
    unfold rowsAt
    rw [if_neg hj, if_neg hj]
theorem BestL.next {L : List ((Int × Int) × Value)} {l : List Arc} {N t k : Nat} (h : BestL L (rowsAt l N t k (exO l N t k))) : BestL L (rowsAt l N t (k + 1) (List.replicate N none)) := fun v j => by
  rw [h v j]
  unfold rowsAt
  by_cases h1 : j < k
  · rw [if_pos h1, if_pos (by omega)]
  · rw [if_neg h1]
    by_cases h2 : j = k
    · rw [if_pos h2, if_pos (by omega), h2]
    · rw [if_neg h2, if_neg (by omega)]
      split
      · rw [og_none]; rfl
      · rfl
theorem BestL.start {l : List Arc} {N t : Nat} (ht : t < N) : BestL (putK [] ((t : Int), (0 : Int)) (.int .i64 0)) (rowsAt l N t 1 (List.replicate N none)) := fun v j => by
  by_cases hj : j = 0
  · subst hj
    rw [rowsAt_lt (by omega)]
    show _ = (og (startO N t) v).map _
    rw [startO_at ht]
    by_cases hv : t = v
    · subst hv
      rw [if_pos rfl]
      exact getK_put_same _ _ _
    · rw [if_neg hv, getK_put_other _ _ (fun e => hv (by injection e with e1 e2; omega))]
      rfl
  · rw [getK_put_other _ _ (fun e => hj (by injection e with e1 e2; omega))]
    unfold rowsAt
    rw [if_neg (by omega)]
    split
    · rw [og_none]; rfl
    · rfl
theorem BestL.old {L : List ((Int × Int) × Value)} {l : List Arc} {N t k : Nat} {cur : List (Option Int)} (h : BestL L (rowsAt l N t k cur)) (v : Nat) {j : Nat} (hj : j < k) : getK L ((v : Int), (j : Int)) = (og (exO l N t j) v).map fun x => .int .i64 x := by
  rw [h v j, rowsAt_lt hj]
theorem BestL.cur {L : List ((Int × Int) × Value)} {l : List Arc} {N t k : Nat} {cur : List (Option Int)} (h : BestL L (rowsAt l N t k cur)) (v : Nat) : getK L ((v : Int), (k : Int)) = (og cur v).map fun x => .int .i64 x := by
  rw [h v k, rowsAt_eq]
/-- By how many arcs the first shortest walk goes. -/
def IsSize (l : List Arc) (N s t k : Nat) : Prop := og (exO l N t k) s = og (refO l N s N) t ∧ ∀ j, j < k → og (exO l N t j) s ≠ og (refO l N s N) t
theorem IsSize.same {l : List Arc} {N s t k k' : Nat} (h : IsSize l N s t k) (h' : IsSize l N s t k') : k = k' := by
  rcases Nat.lt_trichotomy k k' with h1 | h1 | h1
  · exact absurd h.1 (h'.2 k h1)
  · exact h1
  · exact absurd h'.1 (h.2 k' h1)
theorem ok_opt {l : List Arc} {N s : Nat} (hg : ∀ a ∈ l, GoodA N a) (hs : s < N) (h : fromOk l N s = true) : OptO l s (refO l N s N) := by
  obtain ⟨r, _, hc⟩ := List.any_eq_true.1 h
  have hc' : chgP (progO l N s r) l = false := by simpa using hc
  obtain ⟨h1, h2⟩ := progO_ok hg hs r
  have hopt := opt_of_still h1 (fun k v x hk hw => h2 k v x (by omega) hw) ((chg_false l _).1 hc')
  rw [← (prog_ref hg hs hc').1]
  exact hopt
theorem size_there {l : List Arc} {N s t : Nat} (hg : ∀ a ∈ l, GoodA N a) (hs : s < N) (ht : t < N) (h : fromOk l N s = true) {x : Int} (hx : og (refO l N s N) t = some x) : ∃ k, k < N ∧ og (exO l N t k) s = og (refO l N s N) t := by
  obtain ⟨k, h1, h2⟩ := ex_short hg hs ht (refO_length l N s N) (ok_opt hg hs h) hx
  exact ⟨k, h1, by rw [h2, hx]⟩
theorem size_self {l : List Arc} {N s : Nat} (hg : ∀ a ∈ l, GoodA N a) (hs : s < N) (h : fromOk l N s = true) : og (refO l N s N) s = some 0 ∧ IsSize l N s s 0 := by
  have h1 := opt_start (ok_opt hg hs h)
  refine ⟨h1, ?_, fun j hj => by omega⟩
  rw [h1]
  show og (startO N s) s = _
  rw [startO_at hs, if_pos rfl]
theorem wayF_len (l : List Arc) (N t : Nat) : ∀ k at_, (wayF l N t k at_).length ≤ k
  | 0, _ => Nat.le_refl _
  | k + 1, at_ => by
    unfold wayF
    split
    · simp
    · rename_i i _
      have := wayF_len l N t k (l.getD i ⟨0, 0, 0, 0⟩).t.toNat
      simp only [List.length_cons]
      omega
def nextB (Z : Option Int) (y0 ae : Int) : Bool := match Z with
  | none => false
  | some x => some y0 == some (x + ae)
theorem nextB_some (x y0 ae : Int) : nextB (some x) y0 ae = (y0 == x + ae) := by
  show (some y0 == some (x + ae)) = _
  rfl
theorem wayB_next {l : List Arc} {N t k at_ : Nat} {y0 : Int} (h : og (exO l N t (k + 1)) at_ = some y0) (e : Arc) : wayB l N t k at_ e = ((e.f.toNat == at_) && nextB (og (exO l N t k) e.t.toNat) y0 e.e) := by
  unfold wayB
  rw [h]
  cases og (exO l N t k) e.t.toNat <;> rfl
end Go.Proofs.Ytfaifadfilndmaa
