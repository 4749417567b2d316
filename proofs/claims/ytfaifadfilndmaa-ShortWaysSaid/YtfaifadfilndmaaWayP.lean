/- Walks by just so many arcs, from a node to the last one; the first of the shortest. Conditions: none. -/
import Derived.Test.YtfaifadfilndmaaReachP
namespace Go.Proofs.Ytfaifadfilndmaa
open Go.RowKit

def revA (a : Arc) : Arc := ⟨a.t, a.f, a.m, a.e⟩
theorem revA_rev (l : List Arc) : (l.map revA).map revA = l := by
  rw [List.map_map]
  have : (revA ∘ revA) = id := by funext a; rfl
  rw [this, List.map_id]
theorem Wlk.cons {l : List Arc} {a : Arc} (ha : a ∈ l) {k v : Nat} {x : Int} (h : Wlk l a.t.toNat k v x) : Wlk l a.f.toNat (k + 1) v (a.e + x) := by
  generalize hs : a.t.toNat = s at h
  induction h with
  | start =>
    have h := Wlk.step (l := l) (s := a.f.toNat) .start ha rfl
    rw [hs] at h
    simpa [Int.add_comm] using h
  | step _ hb hv ih =>
    have h := Wlk.step ih hb hv
    rwa [Int.add_assoc] at h
theorem Wlk.turn {l : List Arc} {s k v : Nat} {x : Int} (h : Wlk (l.map revA) s k v x) : Wlk l v k s x := by
  induction h with
  | start => exact .start
  | step _ ha hv ih =>
    obtain ⟨b, hb, rfl⟩ := List.mem_map.1 ha
    have hv' : b.t.toNat = _ := hv
    rw [← hv'] at ih
    have h := Wlk.cons hb ih
    rw [Int.add_comm] at h
    exact h
theorem Wlk.turn' {l : List Arc} {s k v : Nat} {x : Int} (h : Wlk l v k s x) : Wlk (l.map revA) s k v x := by
  rw [← revA_rev l] at h
  exact h.turn
theorem good_rev {N : Nat} {l : List Arc} (hg : ∀ a ∈ l, GoodA N a) : ∀ a ∈ l.map revA, GoodA N a := fun a ha => by
  obtain ⟨b, hb, rfl⟩ := List.mem_map.1 ha
  have h := hg b hb
  exact ⟨h.t0, h.t1, h.f0, h.f1, h.e0, h.e1⟩
/-- By just so many arcs. -/
def exO (l : List Arc) (N t : Nat) : Nat → List (Option Int)
  | 0 => startO N t
  | k + 1 => passR (exO l N t k) (List.replicate N none) (l.map revA)
theorem exO_length (l : List Arc) (N t : Nat) : ∀ k, (exO l N t k).length = N
  | 0 => startO_length N t
  | k + 1 => by unfold exO; rw [passR_length, List.length_replicate]
theorem passR_from {N : Nat} {l : List Arc} (hg : ∀ a ∈ l, GoodA N a) (d : List (Option Int)) : ∀ (l' : List Arc) (O : List (Option Int)), (∀ a ∈ l', a ∈ l) → O.length = N → ∀ v x, og (passR d O l') v = some x → og O v = some x ∨ ∃ a ∈ l', ∃ z, og d a.f.toNat = some z ∧ v = a.t.toNat ∧ x = z + a.e
  | [], O, _, _, v, x, h => .inl h
  | a :: l', O, hs, hN, v, x, h => by
    have hN' : (relS d O a).length = N := by rw [relS_length]; exact hN
    rcases passR_from hg d l' (relS d O a) (fun b hb => hs b (List.mem_cons_of_mem _ hb)) hN' v x h with h1 | ⟨b, hb, z, h2⟩
    · cases hi : impS d O a with
      | false =>
        rw [relS_no hi] at h1
        exact .inl h1
      | true =>
        obtain ⟨z, hz, he⟩ := relS_yes hi
        have ha := hg a (hs a (List.mem_cons_self))
        have := ha.t0
        have := ha.t1
        rw [he, og_set _ _ (by omega)] at h1
        split at h1
        · rename_i hv
          injection h1 with h1
          exact .inr ⟨a, List.mem_cons_self, z, hz, hv.symm, h1.symm⟩
        · exact .inl h1
    · exact .inr ⟨b, List.mem_cons_of_mem _ hb, z, h2⟩
theorem og_none (N v : Nat) : og (List.replicate N none) v = none := by
  unfold og
  rw [List.getD_eq_getElem?_getD]
  by_cases h : v < N
  · rw [List.getElem?_replicate, if_pos h]; rfl
  · rw [List.getElem?_eq_none (by simp; omega)]; rfl
theorem exO_from {N : Nat} {l : List Arc} (hg : ∀ a ∈ l, GoodA N a) (t k : Nat) {v : Nat} {x : Int} (h : og (exO l N t (k + 1)) v = some x) : ∃ a ∈ l, ∃ z, og (exO l N t k) a.t.toNat = some z ∧ v = a.f.toNat ∧ x = z + a.e := by
  rcases passR_from (good_rev hg) _ (l.map revA) _ (fun a h => h) (by rw [List.length_replicate]) v x h with h1 | ⟨b, hb, z, h1, h2, h3⟩
  · rw [og_none] at h1; cases h1
  · obtain ⟨a, ha, rfl⟩ := List.mem_map.1 hb
    exact ⟨a, ha, z, h1, h2, h3⟩
theorem exO_walk {N : Nat} {l : List Arc} (hg : ∀ a ∈ l, GoodA N a) {t : Nat} (ht : t < N) : ∀ (k : Nat) {v : Nat} {x : Int}, og (exO l N t k) v = some x → Wlk l v k t x := by
  intro k
  induction k with
  | zero =>
    intro v x h
    have h' : og (startO N t) v = some x := h
    rw [startO_at ht] at h'
    split at h'
    · rename_i e
      injection h' with h'
      subst e h'
      exact .start
    · cases h'
  | succ k ih =>
    intro v x h
    obtain ⟨a, ha, z, h1, rfl, rfl⟩ := exO_from hg t k h
    have h2 := Wlk.cons ha (ih h1)
    rwa [Int.add_comm] at h2
theorem exO_full {N : Nat} {l : List Arc} (hg : ∀ a ∈ l, GoodA N a) {t : Nat} (ht : t < N) : ∀ {k : Nat} {v : Nat} {x : Int}, Wlk (l.map revA) t k v x → ∃ y, og (exO l N t k) v = some y ∧ y ≤ x := by
  intro k v x h
  induction h with
  | start => exact ⟨0, by show og (startO N t) t = _; rw [startO_at ht, if_pos rfl], Int.le_refl _⟩
  | step h1 ha hv ih =>
    obtain ⟨y, hy, hle⟩ := ih
    rename_i k v x a
    obtain ⟨u, hu, hle2⟩ := passR_arc (good_rev hg) (exO l N t k) (l.map revA) (List.replicate N none) (fun a h => h) (by rw [List.length_replicate]) a ha y (by rw [hv]; exact hy)
    exact ⟨u, hu, by omega⟩
theorem exO_bound {N : Nat} {l : List Arc} (hg : ∀ a ∈ l, GoodA N a) {t : Nat} (ht : t < N) {k v : Nat} {x : Int} (h : og (exO l N t k) v = some x) : -(1048576 * k : Int) ≤ x ∧ x ≤ 1048576 * k := (exO_walk hg ht k h).bound hg
/-- The shortest of all is had by few arcs. -/
theorem ex_short {N : Nat} {l : List Arc} (hg : ∀ a ∈ l, GoodA N a) {s t : Nat} (hs : s < N) (ht : t < N) {O : List (Option Int)} (hN : O.length = N) (h : OptO l s O) {x : Int} (hx : og O t = some x) : ∃ k, k < N ∧ og (exO l N t k) s = some x := by
  obtain ⟨j, hj, hw⟩ := opt_short1 hs h (og_node hN) t x hx
  obtain ⟨y, hy, hle⟩ := exO_full hg ht hw.turn'
  obtain ⟨z, hz, hle2⟩ := h.2 j j t y (Nat.le_refl _) (exO_walk hg ht j hy)
  rw [hx] at hz
  injection hz with hz
  subst hz
  have : y = x := by omega
  subst this
  exact ⟨j, hj, hy⟩
/-- Which arc goes on? -/
def wayB (l : List Arc) (N t k at_ : Nat) (a : Arc) : Bool := (a.f.toNat == at_) && (match og (exO l N t k) a.t.toNat with | none => false | some x => og (exO l N t (k + 1)) at_ == some (x + a.e))
def wayF (l : List Arc) (N t : Nat) : Nat → Nat → List Nat
  | 0, _ => []
  | k + 1, at_ => match l.findIdx? (wayB l N t k at_) with
    | none => []
    | some i => i :: wayF l N t k (l.getD i ⟨0, 0, 0, 0⟩).t.toNat
theorem way_step {N : Nat} {l : List Arc} (hg : ∀ a ∈ l, GoodA N a) {t : Nat} {k at_ : Nat} {x : Int} (h : og (exO l N t (k + 1)) at_ = some x) : ∃ i, ∃ hi : i < l.length, wayB l N t k at_ l[i] = true ∧ (∀ j, (hj : j < l.length) → j < i → wayB l N t k at_ l[j] = false) ∧ wayF l N t (k + 1) at_ = i :: wayF l N t k l[i].t.toNat ∧ ∃ y, og (exO l N t k) l[i].t.toNat = some y := by
  obtain ⟨a, ha, z, h1, h2, h3⟩ := exO_from hg t k h
  have hb : wayB l N t k at_ a = true := by
    unfold wayB
    rw [h1, Bool.and_eq_true]
    exact ⟨beq_iff_eq.2 h2.symm, beq_iff_eq.2 (by rw [h, h3])⟩
  cases hf : l.findIdx? (wayB l N t k at_) with
  | none =>
    rw [List.findIdx?_eq_none_iff] at hf
    rw [hf a ha] at hb
    cases hb
  | some i =>
    obtain ⟨hi, hp, hno⟩ := List.findIdx?_eq_some_iff_getElem.1 hf
    refine ⟨i, hi, hp, fun j hj hji => by simpa using hno j hji, ?_, ?_⟩
    · show (match l.findIdx? (wayB l N t k at_) with | none => [] | some i => i :: wayF l N t k (l.getD i ⟨0, 0, 0, 0⟩).t.toNat) = _
      rw [hf]
      show i :: wayF l N t k (l.getD i ⟨0, 0, 0, 0⟩).t.toNat = _
      rw [getD_at l i hi]
    · unfold wayB at hp
      rw [Bool.and_eq_true] at hp
      cases ho : og (exO l N t k) l[i].t.toNat with
      | none => rw [ho] at hp; cases hp.2
      | some y => exact ⟨y, rfl⟩
end Go.Proofs.Ytfaifadfilndmaa
