/- No flow comes to the start, none leaves the end: a way pushed on keeps it. Conditions: none. -/
import Derived.Test.YtjkfogkpacmdlaaFeeLeast18
namespace Go.Proofs.Ytjkfogkpacmdlaa
open Go.RowKit

/-- No flow comes to the start, none leaves the end. -/
def FlowZ (l : List Arc) (gs : List Int) (s t : Int) : Prop := ∀ i, i < l.length → ((l.getD i z4).t = s ∨ (l.getD i z4).f = t) → gs.getD i 0 = 0
theorem chs_le {l : List Arc} (rk : Int → Nat) : ∀ (ws : List Stp) (a b : Int), ChS l a ws b → (∀ x ∈ ws, rk (stF l x) < rk (stT l x)) → rk a ≤ rk b
  | [], a, b, h, _ => by rw [show a = b from h]; exact Nat.le_refl _
  | x :: ws, a, b, h, hr => by
    have h1 := chs_le rk ws (stT l x) b h.2 fun y hy => hr y (List.mem_cons_of_mem _ hy)
    have h2 := hr x List.mem_cons_self
    rw [h.1] at h2
    omega
theorem chs_top {l : List Arc} (rk : Int → Nat) : ∀ (ws : List Stp) (a b : Int), ChS l a ws b → (∀ x ∈ ws, rk (stF l x) < rk (stT l x)) → ∀ x ∈ ws, rk (stT l x) ≤ rk b
  | [], _, _, _, _, x, hx => by cases hx
  | y :: ws, a, b, h, hr, x, hx => by
    rcases List.mem_cons.1 hx with rfl | hx
    · exact chs_le rk ws _ b h.2 fun z hz => hr z (List.mem_cons_of_mem _ hz)
    · exact chs_top rk ws _ b h.2 (fun z hz => hr z (List.mem_cons_of_mem _ hz)) x hx
theorem pushL_off (u : Int) (i : Nat) : ∀ (ws : List Stp) (gs : List Int), (∀ x ∈ ws, x.1 ≠ i) → (pushL u gs ws).getD i 0 = gs.getD i 0
  | [], _, _ => rfl
  | x :: ws, gs, h => by
    show (pushL u (push1 u gs x) ws).getD i 0 = _
    rw [pushL_off u i ws _ fun y hy => h y (List.mem_cons_of_mem _ hy)]
    unfold push1
    simp only [List.getD_eq_getElem?_getD, List.getElem?_set_ne (h x List.mem_cons_self)]
theorem back_z {l : List Arc} {gs : List Int} {s t : Int} {K : List (Int × Stp)} {ws : List Stp} (u : Int) (hz : FlowZ l gs s t) (hK : BfsI l gs s K) (hw : BackW l K s t ws) : FlowZ l (pushL u gs ws) s t := fun i hi hc => by
  have hp : ∀ x ∈ ws, x.1 < l.length ∧ 0 < stR l gs x ∧ rkO s K (stF l x) < rkO s K (stT l x) := fun x hx => by
    obtain ⟨b, hb⟩ := hw.2 x hx
    obtain ⟨h1, h2, _, _, h5⟩ := rk_ent hK hb
    exact ⟨h1, h2, h5⟩
  have h0 := hz i hi hc
  rw [pushL_off u i ws gs fun x hx e => ?_]
  · exact h0
  · obtain ⟨_, h2, h3⟩ := hp x hx
    have h4 := chs_top (rkO s K) ws s t hw.1 (fun y hy => (hp y hy).2.2) x hx
    obtain ⟨i', b⟩ := x
    have e' : i' = i := e
    subst e'
    have hs0 : rkO s K s = 0 := by simp [rkO, keysO]
    cases b with
    | true =>
      have h2' : 0 < gs.getD i' 0 := h2
      omega
    | false =>
      have h3' : rkO s K (l.getD i' z4).f < rkO s K (l.getD i' z4).t := h3
      have h4' : rkO s K (l.getD i' z4).t ≤ rkO s K t := h4
      rcases hc with hc | hc
      · rw [hc, hs0] at h3'
        omega
      · rw [hc] at h3'
        omega
theorem FlowZ.zero (l : List Arc) (m : Nat) (s t : Int) : FlowZ l (List.replicate m 0) s t := fun i _ _ => by
  rw [List.getD_eq_getElem?_getD, List.getElem?_replicate]
  split <;> rfl
end Go.Proofs.Ytjkfogkpacmdlaa
