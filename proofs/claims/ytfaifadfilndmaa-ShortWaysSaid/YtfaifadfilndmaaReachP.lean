/- Shortest walks in plain Lean: relaxing in place and relaxing all at once come to the same, or to no end. Conditions: none. -/
import Derived.Test.YtfaifadfilndmaaNet
namespace Go.Proofs.Ytfaifadfilndmaa
open Go.RowKit

structure GoodA (N : Nat) (a : Arc) : Prop where
  f0 : 0 ≤ a.f
  f1 : a.f < N
  t0 : 0 ≤ a.t
  t1 : a.t < N
  e0 : -1048576 ≤ a.e
  e1 : a.e ≤ 1048576
theorem arcLoop_good {N : Nat} : ∀ l : List Arc, arcLoop N l = 0 → ∀ a ∈ l, GoodA N a
  | [], _, a, ha => by cases ha
  | b :: l, h, a, ha => by
    rw [arcLoop] at h
    split at h
    · omega
    · split at h
      · omega
      · split at h
        · omega
        · rename_i h1 h2 h3
          rcases List.mem_cons.1 ha with rfl | ha
          · exact ⟨by omega, by omega, by omega, by omega, by omega, by omega⟩
          · exact arcLoop_good l h a ha
theorem net_good {N : Int} {l : List Arc} (h : netCheck N l = 0) : ∃ n : Nat, N = n ∧ n ≤ 10 ∧ l.length ≤ 30 ∧ ∀ a ∈ l, GoodA n a := by
  unfold netCheck at h
  split at h
  · omega
  · rename_i hb
    obtain ⟨n, rfl⟩ := Int.eq_ofNat_of_zero_le (show 0 ≤ N by omega)
    exact ⟨n, rfl, by omega, by omega, arcLoop_good l h⟩

/-- A walk from s of so many arcs to a node, and its length. -/
inductive Wlk (l : List Arc) (s : Nat) : Nat → Nat → Int → Prop where
  | start : Wlk l s 0 s 0
  | step {k v : Nat} {x : Int} {a : Arc} : Wlk l s k v x → a ∈ l → a.f.toNat = v → Wlk l s (k + 1) a.t.toNat (x + a.e)
theorem Wlk.bound {N : Nat} {l : List Arc} {s : Nat} (hg : ∀ a ∈ l, GoodA N a) {k v : Nat} {x : Int} (h : Wlk l s k v x) : -(1048576 * k : Int) ≤ x ∧ x ≤ 1048576 * k := by
  induction h with
  | start => omega
  | step _ ha _ ih =>
    have := hg _ ha
    have h0 := this.e0
    have h1 := this.e1
    omega
theorem Wlk.node {N : Nat} {l : List Arc} {s : Nat} (hg : ∀ a ∈ l, GoodA N a) (hs : s < N) {k v : Nat} {x : Int} (h : Wlk l s k v x) : v < N := by
  cases h with
  | start => exact hs
  | step _ ha _ =>
    have := (hg _ ha).t1
    have := (hg _ ha).t0
    omega
theorem Wlk.join {l : List Arc} {s : Nat} {k : Nat} {y : Int} (h : Wlk l s k s y) : ∀ {i v : Nat} {x : Int}, Wlk l s i v x → Wlk l s (k + i) v (y + x) := by
  intro i v x hw
  induction hw with
  | start => simpa using h
  | step _ ha hv ih => rw [← Int.add_assoc, ← Nat.add_assoc]; exact .step ih ha hv

/-- How far each node is, if it is come to. -/
def og (O : List (Option Int)) (v : Nat) : Option Int := O.getD v none
theorem og_set {O : List (Option Int)} {i : Nat} (k : Nat) (x : Option Int) (hi : i < O.length) : og (O.set i x) k = if i = k then x else og O k := by
  unfold og
  by_cases h : i = k
  · subst h; simp [List.getD_eq_getElem?_getD, hi]
  · simp [List.getD_eq_getElem?_getD, List.getElem?_set, h]
def bestO (z : Option Int) (y : Int) : Bool := match z with
  | none => true
  | some z => decide (y < z)
/-- One arc: from what d tells of its beginning. -/
def relS (d O : List (Option Int)) (a : Arc) : List (Option Int) := match og d a.f.toNat with
  | none => O
  | some x => if bestO (og O a.t.toNat) (x + a.e) = true then O.set a.t.toNat (some (x + a.e)) else O
def impS (d O : List (Option Int)) (a : Arc) : Bool := match og d a.f.toNat with
  | none => false
  | some x => bestO (og O a.t.toNat) (x + a.e)
theorem relS_no {d O : List (Option Int)} {a : Arc} (h : impS d O a = false) : relS d O a = O := by
  unfold impS at h
  unfold relS
  split
  · rfl
  · rename_i x hx
    rw [hx] at h
    simp only at h
    rw [if_neg (by rw [h]; simp)]
theorem relS_yes {d O : List (Option Int)} {a : Arc} (h : impS d O a = true) : ∃ x, og d a.f.toNat = some x ∧ relS d O a = O.set a.t.toNat (some (x + a.e)) := by
  unfold impS at h
  unfold relS
  split at h
  · cases h
  · rename_i x hx
    rw [hx]
    refine ⟨x, rfl, ?_⟩
    show (if bestO (og O a.t.toNat) (x + a.e) = true then O.set a.t.toNat (some (x + a.e)) else O) = _
    rw [if_pos h]
theorem relS_length (d O : List (Option Int)) (a : Arc) : (relS d O a).length = O.length := by
  cases h : impS d O a with
  | false => rw [relS_no h]
  | true => obtain ⟨x, _, e⟩ := relS_yes h; rw [e, List.length_set]
/-- In place. -/
def passP (O : List (Option Int)) (l : List Arc) : List (Option Int) := l.foldl (fun O a => relS O O a) O
def chgP : List (Option Int) → List Arc → Bool
  | _, [] => false
  | O, a :: l => impS O O a || chgP (relS O O a) l
/-- All at once. -/
def passR (d O : List (Option Int)) (l : List Arc) : List (Option Int) := l.foldl (relS d) O
theorem passP_snoc (O : List (Option Int)) (l : List Arc) (a : Arc) : passP O (l ++ [a]) = relS (passP O l) (passP O l) a := by unfold passP; rw [List.foldl_append]; rfl
theorem chgP_snoc : ∀ (O : List (Option Int)) (l : List Arc) (a : Arc), chgP O (l ++ [a]) = (chgP O l || impS (passP O l) (passP O l) a)
  | O, [], a => by
    show (impS O O a || false) = (false || impS O O a)
    rw [Bool.or_false, Bool.false_or]
  | O, b :: l, a => by
    show (impS O O b || chgP (relS O O b) (l ++ [a])) = _
    rw [chgP_snoc, chgP, Bool.or_assoc]
    rfl
theorem passR_snoc (d O : List (Option Int)) (l : List Arc) (a : Arc) : passR d O (l ++ [a]) = relS d (passR d O l) a := by simp [passR]
theorem passP_length (l : List Arc) : ∀ O, (passP O l).length = O.length := by
  induction l with
  | nil => intro O; rfl
  | cons a l ih => intro O; show (passP (relS O O a) l).length = _; rw [ih, relS_length]
theorem passR_length (d : List (Option Int)) (l : List Arc) : ∀ O, (passR d O l).length = O.length := by
  induction l with
  | nil => intro O; rfl
  | cons a l ih => intro O; show (passR d (relS d O a) l).length = _; rw [ih, relS_length]
def startO (N s : Nat) : List (Option Int) := (List.replicate N none).set s (some 0)
theorem startO_length (N s : Nat) : (startO N s).length = N := by simp [startO]
theorem startO_at {N s : Nat} (hs : s < N) (v : Nat) : og (startO N s) v = if s = v then some 0 else none := by
  unfold startO
  rw [og_set _ _ (by simpa using hs)]
  split
  · rfl
  · unfold og
    by_cases h : v < N <;> simp [List.getD_eq_getElem?_getD, h]
def progO (l : List Arc) (N s : Nat) : Nat → List (Option Int)
  | 0 => startO N s
  | r + 1 => passP (progO l N s r) l
def refO (l : List Arc) (N s : Nat) : Nat → List (Option Int)
  | 0 => startO N s
  | r + 1 => passR (refO l N s r) (refO l N s r) l
theorem progO_length (l : List Arc) (N s : Nat) : ∀ r, (progO l N s r).length = N
  | 0 => startO_length N s
  | r + 1 => by rw [progO, passP_length, progO_length l N s r]
theorem refO_length (l : List Arc) (N s : Nat) : ∀ r, (refO l N s r).length = N
  | 0 => startO_length N s
  | r + 1 => by rw [refO, passR_length, refO_length l N s r]

/-! What they tell. -/
section
variable {l : List Arc} {N s : Nat}
/-- Each told length is one of a walk of at most m arcs; each walk of at most k arcs is told, or a shorter one. -/
def SoundO (l : List Arc) (s m : Nat) (O : List (Option Int)) : Prop := ∀ v x, og O v = some x → ∃ k, k ≤ m ∧ Wlk l s k v x
def FullO (l : List Arc) (s m : Nat) (O : List (Option Int)) : Prop := ∀ k v x, k ≤ m → Wlk l s k v x → ∃ y, og O v = some y ∧ y ≤ x
theorem SoundO.more {m m' : Nat} {O : List (Option Int)} (h : SoundO l s m O) (hm : m ≤ m') : SoundO l s m' O := fun v x hx => by
  obtain ⟨k, hk, hw⟩ := h v x hx
  exact ⟨k, by omega, hw⟩
theorem sound_rel {m q : Nat} {d O : List (Option Int)} {a : Arc} (hd : SoundO l s m d) (hO : SoundO l s q O) (hmq : m + 1 ≤ q) (ha : a ∈ l) (hN : O.length = N) (hg : ∀ a ∈ l, GoodA N a) : SoundO l s q (relS d O a) := by
  cases h : impS d O a with
  | false => rw [relS_no h]; exact hO
  | true =>
    obtain ⟨x, hx, e⟩ := relS_yes h
    have h1 := (hg a ha).t0
    have h2 := (hg a ha).t1
    intro v y hy
    rw [e, og_set _ _ (by omega)] at hy
    split at hy
    · rename_i hv
      injection hy with hy
      obtain ⟨k, hk, hw⟩ := hd _ _ hx
      rw [← hv, ← hy]
      exact ⟨k + 1, by omega, .step hw ha rfl⟩
    · exact hO v y hy
/-- Told lengths only fall. -/
def LeO (O O' : List (Option Int)) : Prop := ∀ v x, og O v = some x → ∃ y, og O' v = some y ∧ y ≤ x
theorem LeO.refl (O : List (Option Int)) : LeO O O := fun _ x h => ⟨x, h, Int.le_refl _⟩
theorem LeO.trans {A B C : List (Option Int)} (h : LeO A B) (k : LeO B C) : LeO A C := fun v x hx => by
  obtain ⟨y, hy, h1⟩ := h v x hx
  obtain ⟨z, hz, h2⟩ := k v y hy
  exact ⟨z, hz, by omega⟩
theorem rel_le {d O : List (Option Int)} {a : Arc} (hN : O.length = N) (ha : GoodA N a) : LeO O (relS d O a) := by
  cases h : impS d O a with
  | false => rw [relS_no h]; exact LeO.refl _
  | true =>
    obtain ⟨x, hx, e⟩ := relS_yes h
    have h1 := ha.t0
    have h2 := ha.t1
    intro v y hy
    rw [e, og_set _ _ (by omega)]
    split
    · rename_i hv
      refine ⟨_, rfl, ?_⟩
      unfold impS at h
      rw [hx] at h
      simp only at h
      rw [hv, hy] at h
      unfold bestO at h
      simp at h
      omega
    · exact ⟨y, hy, Int.le_refl _⟩
/-- Behind an arc its end is told no more than by it. -/
theorem rel_arc {d O : List (Option Int)} {a : Arc} {x : Int} (hN : O.length = N) (ha : GoodA N a) (hx : og d a.f.toNat = some x) : ∃ y, og (relS d O a) a.t.toNat = some y ∧ y ≤ x + a.e := by
  have h1 := ha.t0
  have h2 := ha.t1
  cases h : impS d O a with
  | false =>
    rw [relS_no h]
    unfold impS at h
    rw [hx] at h
    simp only at h
    cases ho : og O a.t.toNat with
    | none => rw [ho] at h; cases h
    | some z =>
      rw [ho] at h
      unfold bestO at h
      simp at h
      exact ⟨z, rfl, h⟩
  | true =>
    obtain ⟨x', hx', e⟩ := relS_yes h
    rw [hx] at hx'
    injection hx' with hx'
    subst hx'
    rw [e, og_set _ _ (by omega), if_pos rfl]
    exact ⟨_, rfl, Int.le_refl _⟩
theorem passR_le (hg : ∀ a ∈ l, GoodA N a) (d : List (Option Int)) : ∀ (l' : List Arc) (O : List (Option Int)), (∀ a ∈ l', a ∈ l) → O.length = N → LeO O (passR d O l')
  | [], O, _, _ => LeO.refl _
  | a :: l', O, hs, hN => by
    have := passR_le hg d l' (relS d O a) (fun b hb => hs b (by simp [hb])) (by rw [relS_length, hN])
    exact (rel_le hN (hg a (hs a (by simp)))).trans this
theorem passR_arc (hg : ∀ a ∈ l, GoodA N a) (d : List (Option Int)) : ∀ (l' : List Arc) (O : List (Option Int)), (∀ a ∈ l', a ∈ l) → O.length = N → ∀ a ∈ l', ∀ x, og d a.f.toNat = some x → ∃ y, og (passR d O l') a.t.toNat = some y ∧ y ≤ x + a.e
  | b :: l', O, hs, hN, a, ha, x, hx => by
    have hb := hg b (hs b (by simp))
    rcases List.mem_cons.1 ha with rfl | ha
    · obtain ⟨y, hy, h1⟩ := rel_arc (O := O) hN hb hx
      obtain ⟨z, hz, h2⟩ := passR_le hg d l' (relS d O a) (fun c hc => hs c (by simp [hc])) (by rw [relS_length, hN]) _ _ hy
      exact ⟨z, hz, by omega⟩
    · exact passR_arc hg d l' (relS d O b) (fun c hc => hs c (by simp [hc])) (by rw [relS_length, hN]) a ha x hx
theorem passP_le (hg : ∀ a ∈ l, GoodA N a) : ∀ (l' : List Arc) (O : List (Option Int)), (∀ a ∈ l', a ∈ l) → O.length = N → LeO O (passP O l')
  | [], O, _, _ => LeO.refl _
  | a :: l', O, hs, hN => by
    have := passP_le hg l' (relS O O a) (fun b hb => hs b (by simp [hb])) (by rw [relS_length, hN])
    exact (rel_le hN (hg a (hs a (by simp)))).trans this
theorem passP_arc (hg : ∀ a ∈ l, GoodA N a) : ∀ (l' : List Arc) (O : List (Option Int)), (∀ a ∈ l', a ∈ l) → O.length = N → ∀ a ∈ l', ∀ x, og O a.f.toNat = some x → ∃ y, og (passP O l') a.t.toNat = some y ∧ y ≤ x + a.e
  | b :: l', O, hs, hN, a, ha, x, hx => by
    have hb := hg b (hs b (by simp))
    rcases List.mem_cons.1 ha with rfl | ha
    · obtain ⟨y, hy, h1⟩ := rel_arc (O := O) hN hb hx
      obtain ⟨z, hz, h2⟩ := passP_le hg l' (relS O O a) (fun c hc => hs c (by simp [hc])) (by rw [relS_length, hN]) _ _ hy
      exact ⟨z, hz, by omega⟩
    · obtain ⟨x', hx', h1⟩ := rel_le (d := O) hN hb a.f.toNat x hx
      obtain ⟨y, hy, h2⟩ := passP_arc hg l' (relS O O b) (fun c hc => hs c (by simp [hc])) (by rw [relS_length, hN]) a ha x' hx'
      exact ⟨y, hy, by omega⟩
theorem start_sound (hs : s < N) : SoundO l s 0 (startO N s) := fun v x h => by
  rw [startO_at hs] at h
  split at h
  · rename_i hv
    injection h with h
    subst hv
    subst h
    exact ⟨0, Nat.le_refl _, .start⟩
  · cases h
theorem start_full (hs : s < N) : FullO l s 0 (startO N s) := fun k v x hk hw => by
  obtain rfl : k = 0 := by omega
  cases hw with
  | start => exact ⟨0, by rw [startO_at hs, if_pos rfl], Int.le_refl _⟩
theorem passR_sound (hg : ∀ a ∈ l, GoodA N a) {m : Nat} {d : List (Option Int)} (hd : SoundO l s m d) : ∀ (l' : List Arc) (O : List (Option Int)), (∀ a ∈ l', a ∈ l) → O.length = N → SoundO l s (m + 1) O → SoundO l s (m + 1) (passR d O l')
  | [], _, _, _, h => h
  | a :: l', O, hs, hN, h => passR_sound hg hd l' (relS d O a) (fun b hb => hs b (by simp [hb])) (by rw [relS_length, hN]) (sound_rel hd h (Nat.le_refl _) (hs a (by simp)) hN hg)
theorem passP_sound (hg : ∀ a ∈ l, GoodA N a) : ∀ (l' : List Arc) (m : Nat) (O : List (Option Int)), (∀ a ∈ l', a ∈ l) → O.length = N → SoundO l s m O → SoundO l s (m + l'.length) (passP O l')
  | [], _, _, _, _, h => h
  | a :: l', m, O, hs, hN, h => by
    have := passP_sound hg l' (m + 1) (relS O O a) (fun b hb => hs b (by simp [hb])) (by rw [relS_length, hN]) (sound_rel h (h.more (by omega)) (Nat.le_refl _) (hs a (by simp)) hN hg)
    rw [List.length_cons, show m + (l'.length + 1) = m + 1 + l'.length by omega]
    exact this
theorem refO_ok (hg : ∀ a ∈ l, GoodA N a) (hs : s < N) : ∀ r, SoundO l s r (refO l N s r) ∧ FullO l s r (refO l N s r)
  | 0 => ⟨start_sound hs, start_full hs⟩
  | r + 1 => by
    obtain ⟨h1, h2⟩ := refO_ok hg hs r
    have hl := refO_length l N s r
    refine ⟨passR_sound hg h1 l _ (fun a ha => ha) hl (h1.more (by omega)), fun k v x hk hw => ?_⟩
    cases hw with
    | start =>
      obtain ⟨y, hy, hle⟩ := h2 0 s 0 (by omega) .start
      obtain ⟨z, hz, hle2⟩ := passR_le hg (refO l N s r) l _ (fun a ha => ha) hl _ _ hy
      exact ⟨z, hz, by omega⟩
    | step hw ha hv =>
      obtain ⟨y, hy, hle⟩ := h2 _ _ _ (by omega) hw
      rw [← hv] at hy
      obtain ⟨z, hz, hle2⟩ := passR_arc hg (refO l N s r) l _ (fun a ha => ha) hl _ ha y hy
      exact ⟨z, hz, by omega⟩
theorem progO_ok (hg : ∀ a ∈ l, GoodA N a) (hs : s < N) : ∀ r, SoundO l s (r * l.length) (progO l N s r) ∧ FullO l s r (progO l N s r)
  | 0 => ⟨by rw [Nat.zero_mul]; exact start_sound hs, start_full hs⟩
  | r + 1 => by
    obtain ⟨h1, h2⟩ := progO_ok hg hs r
    have hl := progO_length l N s r
    refine ⟨by rw [Nat.succ_mul]; exact passP_sound hg l _ _ (fun a ha => ha) hl h1, fun k v x hk hw => ?_⟩
    cases hw with
    | start =>
      obtain ⟨y, hy, hle⟩ := h2 0 s 0 (by omega) .start
      obtain ⟨z, hz, hle2⟩ := passP_le hg l _ (fun a ha => ha) hl _ _ hy
      exact ⟨z, hz, by omega⟩
    | step hw ha hv =>
      obtain ⟨y, hy, hle⟩ := h2 _ _ _ (by omega) hw
      rw [← hv] at hy
      obtain ⟨z, hz, hle2⟩ := passP_arc hg l _ (fun a ha => ha) hl _ ha y hy
      exact ⟨z, hz, by omega⟩
/-- The least lengths of all walks. -/
def OptO (l : List Arc) (s : Nat) (O : List (Option Int)) : Prop := (∃ m, SoundO l s m O) ∧ ∀ m, FullO l s m O
theorem opt_same {O O' : List (Option Int)} (h : OptO l s O) (h' : OptO l s O') (hN : O.length = N) (hN' : O'.length = N) : O = O' := by
  have key : ∀ A B, OptO l s A → OptO l s B → LeO A B := fun A B hA hB v x hx => by
    obtain ⟨m, hm⟩ := hA.1
    obtain ⟨k, _, hw⟩ := hm v x hx
    exact hB.2 k k v x (Nat.le_refl _) hw
  apply List.ext_getElem (by rw [hN, hN'])
  intro v h1 h2
  have e1 : og O v = O[v] := by unfold og; simp [List.getD_eq_getElem?_getD, h1]
  have e2 : og O' v = O'[v] := by unfold og; simp [List.getD_eq_getElem?_getD, h2]
  have k1 := key O O' h h' v
  have k2 := key O' O h' h v
  rw [e1, e2] at k1 k2
  cases hx : O[v] with
  | none =>
    cases hy : O'[v] with
    | none => rfl
    | some y => obtain ⟨z, hz, _⟩ := k2 y hy; rw [hx] at hz; cases hz
  | some x =>
    obtain ⟨y, hy, hle⟩ := k1 x hx
    obtain ⟨z, hz, hle2⟩ := k2 y hy
    rw [hx] at hz
    injection hz with hz
    rw [hy]
    congr 1
    omega
/-- What no arc makes better is the least. -/
theorem opt_of_still {m : Nat} {O : List (Option Int)} (hs : SoundO l s m O) (h0 : FullO l s 0 O) (hno : ∀ a ∈ l, impS O O a = false) : OptO l s O := by
  have key : ∀ {k v : Nat} {x : Int}, Wlk l s k v x → ∃ y, og O v = some y ∧ y ≤ x := by
    intro k v x hw
    induction hw with
    | start => exact h0 0 s 0 (Nat.le_refl _) .start
    | @step k v x a hw ha hv ih =>
      obtain ⟨y, hy, hle⟩ := ih
      have h := hno a ha
      unfold impS at h
      rw [hv, hy] at h
      simp only at h
      cases ho : og O a.t.toNat with
      | none => rw [ho] at h; cases h
      | some z =>
        rw [ho] at h
        unfold bestO at h
        simp at h
        exact ⟨z, rfl, by omega⟩
  exact ⟨⟨m, hs⟩, fun _ k v x _ hw => key hw⟩
theorem still_of_opt {O : List (Option Int)} (h : OptO l s O) : ∀ a ∈ l, impS O O a = false := fun a ha => by
  unfold impS
  split
  · rfl
  · rename_i x hx
    obtain ⟨m, hm⟩ := h.1
    obtain ⟨k, _, hw⟩ := hm _ _ hx
    obtain ⟨y, hy, hle⟩ := h.2 (k + 1) (k + 1) _ _ (Nat.le_refl _) (.step hw ha rfl)
    rw [hy]
    unfold bestO
    simp
    omega
theorem chg_false : ∀ (l' : List Arc) (O : List (Option Int)), (chgP O l' = false ↔ ∀ a ∈ l', impS O O a = false)
  | [], O => by simp [chgP]
  | a :: l', O => by
    rw [chgP, Bool.or_eq_false_iff]
    constructor
    · rintro ⟨h1, h2⟩ b hb
      rcases List.mem_cons.1 hb with rfl | hb
      · exact h1
      · rw [relS_no h1] at h2
        exact (chg_false l' O).1 h2 b hb
    · intro h
      have h1 := h a (by simp)
      refine ⟨h1, ?_⟩
      rw [relS_no h1]
      exact (chg_false l' O).2 fun b hb => h b (by simp [hb])
theorem passR_still (d : List (Option Int)) : ∀ (l' : List Arc), (∀ a ∈ l', impS d d a = false) → passR d d l' = d
  | [], _ => rfl
  | a :: l', h => by
    show passR d (relS d d a) l' = d
    rw [relS_no (h a (by simp))]
    exact passR_still d l' fun b hb => h b (by simp [hb])
theorem still_of_passR (hg : ∀ a ∈ l, GoodA N a) {d : List (Option Int)} (hN : d.length = N) (h : passR d d l = d) : ∀ a ∈ l, impS d d a = false := fun a ha => by
  unfold impS
  split
  · rfl
  · rename_i x hx
    obtain ⟨y, hy, hle⟩ := passR_arc hg d l d (fun b hb => hb) hN a ha x hx
    rw [h] at hy
    rw [hy]
    unfold bestO
    simp
    omega

/-! If there are least lengths, so many arcs as there are nodes tell them. -/
open Classical in
theorem countP_grow {p q : Nat → Prop} (hpq : ∀ v, p v → q v) {z : Nat} (hq : q z) (hp : ¬ p z) : ∀ n, z < n → (List.range n).countP (fun v => decide (p v)) < (List.range n).countP (fun v => decide (q v))
  | 0, h => by omega
  | n + 1, h => by
    rw [List.range_succ, List.countP_append, List.countP_append, List.countP_singleton, List.countP_singleton]
    have hle : (List.range n).countP (fun v => decide (p v)) ≤ (List.range n).countP (fun v => decide (q v)) := List.countP_mono_left fun v _ hv => by
      rw [decide_eq_true_eq] at hv ⊢
      exact hpq v hv
    by_cases hz : z = n
    · subst hz
      simp only [decide_eq_true_eq, hp, hq, if_true, if_false]
      omega
    · have := countP_grow hpq hq hp n (by omega)
      have h2 : (if decide (p n) = true then 1 else 0) ≤ (if decide (q n) = true then 1 else 0) := by
        by_cases h3 : p n
        · have := hpq n h3
          simp [h3, this]
        · simp [h3]
      omega
def Tig (l : List Arc) (s : Nat) (O : List (Option Int)) (k v : Nat) : Prop := ∃ x, og O v = some x ∧ ∃ j, j ≤ k ∧ Wlk l s j v x
theorem Tig.more {O : List (Option Int)} {k k' v : Nat} (h : Tig l s O k v) (hk : k ≤ k') : Tig l s O k' v := by
  obtain ⟨x, hx, j, hj, hw⟩ := h
  exact ⟨x, hx, j, by omega, hw⟩
theorem opt_start {O : List (Option Int)} (h : OptO l s O) : og O s = some 0 := by
  obtain ⟨y, hy, hle⟩ := h.2 0 0 s 0 (Nat.le_refl _) .start
  obtain ⟨m, hm⟩ := h.1
  obtain ⟨k, _, hw⟩ := hm s y hy
  obtain ⟨z, hz, hle2⟩ := h.2 (k + k) (k + k) s (y + y) (Nat.le_refl _) (hw.join hw)
  rw [hy] at hz
  injection hz with hz
  rw [hy]
  congr 1
  omega
theorem tig_closed {O : List (Option Int)} (h : OptO l s O) {j : Nat} (hc : ∀ v, Tig l s O (j + 1) v → Tig l s O j v) : ∀ {i v : Nat} {x : Int}, Wlk l s i v x → og O v = some x → Tig l s O j v := by
  intro i v x hw
  induction hw with
  | start => exact fun hx => ⟨0, hx, 0, Nat.zero_le _, .start⟩
  | step hw ha hv ih =>
    rename_i k u x' a
    intro hx
    obtain ⟨y, hy, hle⟩ := h.2 k k u x' (Nat.le_refl _) hw
    obtain ⟨m, hm⟩ := h.1
    obtain ⟨q, _, hq⟩ := hm u y hy
    obtain ⟨z, hz, hle2⟩ := h.2 (q + 1) (q + 1) _ _ (Nat.le_refl _) (.step hq ha hv)
    rw [hx] at hz
    injection hz with hz
    have : y = x' := by omega
    subst this
    obtain ⟨x2, hx2, j', hj', hw2⟩ := ih hy
    rw [hy] at hx2
    injection hx2 with hx2
    subst hx2
    exact hc _ ⟨_, hx, j' + 1, by omega, .step hw2 ha hv⟩
open Classical in
theorem opt_short1 (hs : s < N) {O : List (Option Int)} (h : OptO l s O) (hnode : ∀ v x, og O v = some x → v < N) : ∀ v x, og O v = some x → ∃ j, j < N ∧ Wlk l s j v x := by
  have key : ∀ k, (∃ j, j < k ∧ ∀ v, Tig l s O (j + 1) v → Tig l s O j v) ∨ k + 1 ≤ (List.range N).countP (fun v => decide (Tig l s O k v)) := by
    intro k
    induction k with
    | zero =>
      right
      have : 0 < (List.range N).countP (fun v => decide (Tig l s O 0 v)) := List.countP_pos_iff.2 ⟨s, List.mem_range.2 hs, by
        rw [decide_eq_true_eq]
        exact ⟨0, opt_start h, 0, Nat.le_refl _, .start⟩⟩
      omega
    | succ k ih =>
      rcases ih with ⟨j, hj, hc⟩ | ih
      · exact .inl ⟨j, by omega, hc⟩
      · by_cases hc : ∀ v, Tig l s O (k + 1) v → Tig l s O k v
        · exact .inl ⟨k, by omega, hc⟩
        · right
          simp only [not_forall] at hc
          obtain ⟨z, hz, hno⟩ := hc
          have hzN : z < N := by
            obtain ⟨x, hx, _⟩ := hz
            exact hnode z x hx
          have := countP_grow (p := Tig l s O k) (q := Tig l s O (k + 1)) (fun v hv => hv.more (by omega)) hz hno N hzN
          omega
  obtain ⟨j, hj, hc⟩ : ∃ j, j < N ∧ ∀ v, Tig l s O (j + 1) v → Tig l s O j v := by
    rcases key N with h1 | h1
    · exact h1
    · have := List.countP_le_length (p := fun v => decide (Tig l s O N v)) (l := List.range N)
      rw [List.length_range] at this
      omega
  intro v x hx
  obtain ⟨m, hm⟩ := h.1
  obtain ⟨i, _, hw⟩ := hm v x hx
  obtain ⟨x2, hx2, q, hq, hw2⟩ := tig_closed h hc hw hx
  rw [hx] at hx2
  injection hx2 with hx2
  subst hx2
  exact ⟨q, by omega, hw2⟩
theorem opt_short (hs : s < N) {O : List (Option Int)} (h : OptO l s O) (hnode : ∀ v x, og O v = some x → v < N) : ∀ v x, og O v = some x → ∃ j, j ≤ N ∧ Wlk l s j v x := fun v x hx => by
  obtain ⟨j, hj, hw⟩ := opt_short1 hs h hnode v x hx
  exact ⟨j, by omega, hw⟩
theorem og_node {O : List (Option Int)} (hN : O.length = N) : ∀ v x, og O v = some x → v < N := fun v x h => by
  rcases Nat.lt_or_ge v N with h1 | h1
  · exact h1
  · unfold og at h
    simp [List.getD_eq_getElem?_getD, show O.length ≤ v by omega] at h
theorem opt_ref (hg : ∀ a ∈ l, GoodA N a) (hs : s < N) {O : List (Option Int)} (hN : O.length = N) (h : OptO l s O) : refO l N s N = O ∧ refO l N s (N + 1) = refO l N s N := by
  obtain ⟨h1, h2⟩ := refO_ok hg hs N
  have hopt : OptO l s (refO l N s N) := by
    refine ⟨⟨N, h1⟩, fun m k v x hk hw => ?_⟩
    obtain ⟨y, hy, hle⟩ := h.2 m k v x hk hw
    obtain ⟨j, hj, hw2⟩ := opt_short hs h (og_node hN) v y hy
    obtain ⟨z, hz, hle2⟩ := h2 j v y hj hw2
    exact ⟨z, hz, by omega⟩
  exact ⟨opt_same hopt h (refO_length l N s N) hN, passR_still _ _ (still_of_opt hopt)⟩
theorem prog_ref (hg : ∀ a ∈ l, GoodA N a) (hs : s < N) {r : Nat} (h : chgP (progO l N s r) l = false) : progO l N s r = refO l N s N ∧ refO l N s (N + 1) = refO l N s N := by
  obtain ⟨h1, h2⟩ := progO_ok hg hs r
  have hopt := opt_of_still h1 (fun k v x hk hw => h2 k v x (by omega) hw) ((chg_false l _).1 h)
  obtain ⟨e1, e2⟩ := opt_ref hg hs (progO_length l N s r) hopt
  exact ⟨e1.symm, e2⟩
theorem ref_prog (hg : ∀ a ∈ l, GoodA N a) (hs : s < N) (h : refO l N s (N + 1) = refO l N s N) : chgP (progO l N s N) l = false := by
  obtain ⟨h1, h2⟩ := refO_ok hg hs N
  have hl := refO_length l N s N
  have hopt := opt_of_still h1 (fun k v x hk hw => h2 k v x (by omega) hw) (still_of_passR hg hl h)
  obtain ⟨p1, p2⟩ := progO_ok hg hs N
  have hpo : OptO l s (progO l N s N) := by
    refine ⟨⟨_, p1⟩, fun m k v x hk hw => ?_⟩
    obtain ⟨y, hy, hle⟩ := hopt.2 m k v x hk hw
    obtain ⟨j, hj, hw2⟩ := h1 v y hy
    obtain ⟨z, hz, hle2⟩ := p2 j v y hj hw2
    exact ⟨z, hz, by omega⟩
  exact (chg_false l _).2 (still_of_opt hpo)
end
end Go.Proofs.Ytfaifadfilndmaa
