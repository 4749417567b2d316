/- No flow comes to the start, none leaves the end: a way pushed on keeps it. Conditions: none. -/
import Derived.Test.YtjkfogkpacmdlaaLanesApart13
import Derived.Test.YtjkfogkpacmdlaaLanesApart7
import Derived.Test.YtjkfogkpacmdlaaLanesApart2
namespace Go.Proofs.Ytjkfogkpacmdlaa
open Go.RowKit

/-- No flow comes to the start, none leaves the end. -/
def FlowZ (l : List Arc) (gs : List Int) (s t : Int) : Prop := ∀ i, i < l.length → ((l.getD i z4).t = s ∨ (l.getD i z4).f = t) → gs.getD i 0 = 0
theorem chs_le {l : List Arc} (rk : Int → Nat) : ∀ (ws : List Stp) (a b : Int), ChS l a ws b → (∀ x ∈ ws, rk (stF l x) < rk (stT l x)) → rk a ≤ rk b
  | [], a, b, h, _ => by rw [show a = b from h]; exact Nat.le_refl _
  | x :: ws, a, b, h, hr => by
    have h1 := chs_le rk ws (stT l x) b h.2 fun y hy => hr y (List.mem_cons_of_mem _ hy)
    have h2 := hr x List.mem_cons_self
    rw [h.1] at h2
    omega
theorem chs_top {l : List Arc} (rk : Int → Nat) : ∀ (ws : List Stp) (a b : Int), ChS l a ws b → (∀ x ∈ ws, rk (stF l x) < rk (stT l x)) → ∀ x ∈ ws, rk (stT l x) ≤ rk b
  | [], _, _, _, _, x, hx => by cases hx
  | y :: ws, a, b, h, hr, x, hx => by
    rcases List.mem_cons.1 hx with rfl | hx
    · exact chs_le rk ws _ b h.2 fun z hz => hr z (List.mem_cons_of_mem _ hz)
    · exact chs_top rk ws _ b h.2 (fun z hz => hr z (List.mem_cons_of_mem _ hz)) x hx
theorem pushL_off (u : Int) (i : Nat) : ∀ (ws : List Stp) (gs : List Int), (∀ x ∈ ws, x.1 ≠ i) → (pushL u gs ws).getD i 0 = gs.getD i 0
  | [], _, _ => rfl
  | x :: ws, gs, h => by
    show (pushL u (push1 u gs x) ws).getD i 0 = _
    rw [pushL_off u i ws _ fun y hy => h y (List.mem_cons_of_mem _ hy)]
    unfold push1
    simp only [List.getD_eq_getElem?_getD, List.getElem?_set_ne (h x List.mem_cons_self)]
theorem back_z {l : List Arc} {gs : List Int} {s t : Int} {K : List (Int × Stp)} {ws : List Stp} (u : Int) (hz : FlowZ l gs s t) (hK : BfsI l gs s K) (hw : BackW l K s t ws) : FlowZ l (pushL u gs ws) s t := fun i hi hc => by
  have hp : ∀ x ∈ ws, x.1 < l.length ∧ 0 < stR l gs x ∧ rkO s K (stF l x) < rkO s K (stT l x) := fun x hx => by
    obtain ⟨b, hb⟩ := hw.2 x hx
    obtain ⟨h1, h2, _, _, h5⟩ := rk_ent hK hb
    exact ⟨h1, h2, h5⟩
  have h0 := hz i hi hc
  rw [pushL_off u i ws gs fun x hx e => ?_]
  · exact h0
  · obtain ⟨_, h2, h3⟩ := hp x hx
    have h4 := chs_top (rkO s K) ws s t hw.1 (fun y hy => (hp y hy).2.2) x hx
    obtain ⟨i', b⟩ := x
    have e' : i' = i := e
    subst e'
    have hs0 : rkO s K s = 0 := by simp [rkO, keysO]
    cases b with
    | true =>
      have h2' : 0 < gs.getD i' 0 := h2
      omega
    | false =>
      have h3' : rkO s K (l.getD i' z4).f < rkO s K (l.getD i' z4).t := h3
      have h4' : rkO s K (l.getD i' z4).t ≤ rkO s K t := h4
      rcases hc with hc | hc
      · rw [hc, hs0] at h3'
        omega
      · rw [hc] at h3'
        omega
theorem FlowZ.zero (l : List Arc) (m : Nat) (s t : Int) : FlowZ l (List.replicate m 0) s t := fun i _ _ => by
  rw [List.getD_eq_getElem?_getD, List.getElem?_replicate]
  split <;> rfl
end Go.Proofs.Ytjkfogkpacmdlaa

/- What wishes are told to be wrong: the program and the reference compute the one function wishCheck. Conditions: the lists read as lists. -/
namespace Go.Proofs.Ytjkfogkpacmdlaa
open Go.RowKit
attribute [local go_sem ↓] s_and s_or s_but s_and1 s_shr s_shl1
attribute [local go_sem] s_eq0 s_ne0 s_eq1

abbrev rcell (s : Sls Int) : List Value := [s.val]
def badAt (n : Int) (l : List Int) (k : Nat) : Bool := decide (l.getD k 0 < 0) || decide (n ≤ l.getD k 0) || hasB (l.take k) (l.getD k 0)
def listBad (n : Int) (l : List Int) : Bool := (List.range l.length).any (badAt n l)
def sideBad (n : Int) (ls : List (Sls Int)) : Bool := ls.any fun s => listBad n s.l
def wishCheck (L R : List (Sls Int)) : Int :=
  if 8 < L.length ∨ 8 < R.length then 1 else if L.length ≠ R.length then 3 else if sideBad L.length L || sideBad L.length R then 2 else 0
/-- What has been seen of the first k. -/
def seenTo (l : List Int) : Nat → BitVec 32
  | 0 => w0
  | k + 1 => wOr (seenTo l k) (wShl w1 (l.getD k 0).toNat)
theorem seen_bit (l : List Int) : ∀ (k : Nat) (m : Nat), m < 32 → k ≤ l.length → (∀ j, j < k → 0 ≤ l.getD j 0) → (seenTo l k).getLsbD m = hasB (l.take k) m
  | 0, m, _, _, _ => by simp [seenTo, b_0, hasB]
  | k + 1, m, hm, hk, h => by
    unfold hasB
    rw [seenTo, b_or, seen_bit l k m hm (by omega) (fun j hj => h j (by omega)), b_one, any_take_succ _ _ _ (by omega)]
    unfold hasB
    congr 1
    have h0 := h k (by omega)
    rw [← getD_at l k (by omega) 0]
    generalize l.getD k 0 = x at h0
    rw [Bool.eq_iff_iff]
    simp [hm]
    omega
theorem noBad_nonneg {n : Int} {l : List Int} {k : Nat} (h : (List.range k).any (badAt n l) = false) : ∀ j, j < k → 0 ≤ l.getD j 0 := by
  intro j hj
  have := List.any_eq_false.1 h j (List.mem_range.2 hj)
  unfold badAt at this
  generalize l.getD j 0 = x at this
  simp at this
  omega

end Go.Proofs.Ytjkfogkpacmdlaa
