/- Who asks whom, in plain Lean: no one is refused by anyone whom it has in a pairing that holds. Conditions: the wishes are good. -/
import Derived.Test.YtodbhgbgeiailaaAllsP
namespace Go.Proofs.Ytodbhgbgeiailaa
open Go.RowKit

theorem rank_cases (y : Int) (l : List Int) : (0 ≤ idxI y l ∧ rankI y l = idxI y l) ∨ (¬ 0 ≤ idxI y l ∧ rankI y l = 8) := by
  unfold rankI
  by_cases h : 0 ≤ idxI y l
  · exact .inl ⟨h, if_pos h⟩
  · exact .inr ⟨h, if_neg h⟩
theorem rank_ge {y : Int} : ∀ (l : List Int) (m : Nat), (∀ k, k < m → k < l.length → l.getD k 0 ≠ y) → m ≤ 8 → l.length ≤ 8 → (m : Int) ≤ rankI y l
  | [], m, _, hm, _ => by
    have : rankI y [] = 8 := rfl
    omega
  | z :: l, m, h, hm, hl => by
    by_cases hz : y = z
    · subst hz
      have : m = 0 := by
        refine Classical.byContradiction fun hne => ?_
        exact h 0 (by omega) (by simp) rfl
      rw [rank_hit]
      omega
    · rw [rank_skip l hz]
      have ih := rank_ge (y := y) l (m - 1) (fun k hk hkl => by
        have := h (k + 1) (by omega) (by simpa using hkl)
        simpa using this) (by omega) (by simp at hl; omega)
      rcases rank_cases y l with ⟨h1, h2⟩ | ⟨h1, h2⟩
      · rw [if_pos h1]
        omega
      · rw [if_neg h1]
        omega
theorem rank_is : ∀ {l : List Int}, l.Nodup → l.length ≤ 8 → ∀ {k : Nat}, k < l.length → rankI (l.getD k 0) l = k
  | z :: l, hn, hl, 0, _ => rank_hit z l
  | z :: l, hn, hl, k + 1, hk => by
    have hk' : k < l.length := by simpa using hk
    obtain ⟨hz, hn'⟩ := List.nodup_cons.1 hn
    have ih := rank_is hn' (by simp at hl; omega) hk'
    have hne : l.getD k 0 ≠ z := fun e => hz (by rw [← e, getD_at l k hk']; exact List.getElem_mem _)
    show rankI (l.getD k 0) (z :: l) = _
    rw [rank_skip l hne]
    rcases rank_cases (l.getD k 0) l with ⟨h1, h2⟩ | ⟨h1, h2⟩
    · rw [if_pos h1]
      omega
    · simp at hl
      omega
theorem rank_inj {x y : Int} : ∀ {l : List Int}, l.length ≤ 8 → rankI x l = rankI y l → rankI x l < 8 → x = y
  | [], _, _, h => by
    have : rankI x [] = 8 := rfl
    omega
  | z :: l, hl, he, h => by
    by_cases hx : x = z
    · by_cases hy : y = z
      · rw [hx, hy]
      · subst hx
        rw [rank_hit, rank_skip l hy] at he
        rcases rank_cases y l with ⟨h1, _⟩ | ⟨h1, _⟩
        · rw [if_pos h1] at he; omega
        · rw [if_neg h1] at he; omega
    · by_cases hy : y = z
      · subst hy
        rw [rank_hit, rank_skip l hx] at he
        rcases rank_cases x l with ⟨h1, _⟩ | ⟨h1, _⟩
        · rw [if_pos h1] at he; omega
        · rw [if_neg h1] at he; omega
      · rw [rank_skip l hx] at he h
        rw [rank_skip l hy] at he
        have hl' : l.length ≤ 8 := by simp at hl; omega
        have hr := idxI_range x l
        have hs := idxI_range y l
        simp at hl
        rcases rank_cases x l with ⟨h1, h2⟩ | ⟨h1, h2⟩
        · rw [if_pos h1] at he h
          rcases rank_cases y l with ⟨h3, h4⟩ | ⟨h3, h4⟩
          · rw [if_pos h3] at he
            exact rank_inj hl' (by omega) (by omega)
          · rw [if_neg h3] at he
            omega
        · rw [if_neg h1] at h
          omega
/-- A pairing that holds. -/
structure Stab (n : Nat) (L R : List (Sls Int)) (l : List Int) : Prop where
  len : l.length = n
  dist : ∀ a b, a < n → b < n → l.getD a 0 = l.getD b 0 → 0 ≤ l.getD a 0 → a = b
  acc : ∀ a j : Nat, a < n → l.getD a 0 = j → rankI a (ls R j) < 8 ∧ rankI j (ls L a) < 8
  nob : ∀ a j : Nat, a < n → j < n → l.getD a 0 ≠ j → ratherB j (l.getD a 0) (ls L a) = true → ratherB a (idxI j l) (ls R j) = true → False
def upd {α : Type} (f : Nat → α) (i : Nat) (v : α) : Nat → α := fun x => if x = i then v else f x
theorem upd_same {α : Type} (f : Nat → α) (i : Nat) (v : α) : upd f i v i = v := if_pos rfl
theorem upd_other {α : Type} (f : Nat → α) {i x : Nat} (v : α) (h : x ≠ i) : upd f i v x = f x := if_neg h
/-- How far all have come: who has whom, and how many each on the left has asked. -/
structure AskI (n : Nat) (L R : List (Sls Int)) (has : Nat → Int) (nx : Nat → Nat) : Prop where
  own : ∀ j, j < n → has j = -1 ∨ ∃ b : Nat, has j = b ∧ b < n ∧ rankI b (ls R j) < 8 ∧ 1 ≤ nx b ∧ nx b ≤ (ls L b).length ∧ (ls L b).getD (nx b - 1) 0 = j
  nxl : ∀ a, a < n → nx a ≤ (ls L a).length
  best : ∀ a k, a < n → k < nx a → ∀ j : Nat, (ls L a).getD k 0 = j → rankI a (ls R j) < 8 → ∃ b : Nat, has j = b ∧ rankI b (ls R j) ≤ rankI a (ls R j)
  opt : ∀ a k, a < n → k < nx a → ∀ j : Nat, (ls L a).getD k 0 = j → has j ≠ a → ∀ l, Stab n L R l → l.getD a 0 ≠ j
/-- Who has been refused by all ahead of one, and is not with that one, would rather have that one. -/
theorem would_rather {n : Nat} {L : List (Sls Int)} {l : List Int} (hL : GoodL n L) (hnd : ∀ a, (ls L a).Nodup) {a p j : Nat} (hp : p < (ls L a).length) (hj : (ls L a).getD p 0 = j) (hne : l.getD a 0 ≠ j) (hk : ∀ k, k < p → l.getD a 0 ≠ (ls L a).getD k 0) : ratherB j (l.getD a 0) (ls L a) = true := by
  have h8 := hL.l8 a
  have h1 := rank_is (hnd a) h8 hp
  rw [hj] at h1
  have h2 := rank_ge (y := l.getD a 0) (ls L a) (p + 1) (fun k hk1 hk2 => by
    by_cases hkp : k = p
    · subst hkp
      rw [hj]
      exact fun e => hne e.symm
    · exact fun e => hk k (by omega) e.symm) (by omega) h8
  exact (rather_rank (fun e => hne e.symm) h8).2 ⟨by omega, by omega⟩
theorem idx_of {n : Nat} {L R : List (Sls Int)} {l : List Int} (hs : Stab n L R l) {a j : Nat} (ha : a < n) (hj : l.getD a 0 = j) : idxI j l = a := by
  have hla : a < l.length := by rw [hs.len]; exact ha
  have hmem : hasB l j = true := by
    unfold hasB
    rw [List.any_eq_true]
    exact ⟨l[a], List.getElem_mem hla, by rw [← hj, getD_at l a hla]; simp⟩
  have h0 := (idxI_has j l).2 hmem
  obtain ⟨k, hk⟩ : ∃ k : Nat, idxI j l = k := ⟨(idxI j l).toNat, by omega⟩
  have hkr := idxI_range j l
  have hkl : k < l.length := by omega
  have hat : l.getD k 0 = j := by
    unfold idxI idxF at hk
    have hany : l.any (fun y => (j : Int) == y) = true := hmem
    rw [if_pos hany] at hk
    have hk2 : l.findIdx (fun y => (j : Int) == y) = k := by omega
    have := List.findIdx_getElem (p := fun y => (j : Int) == y) (xs := l) (w := by rw [hk2]; exact hkl)
    rw [getD_at l k hkl]
    simp only [hk2] at this
    have h3 := this
    simp at h3
    exact h3.symm
  have := hs.dist k a (by rw [← hs.len]; exact hkl) ha (by rw [hat, hj]) (by rw [hat]; omega)
  rw [hk, this]
theorem at_rg {n : Nat} {L : List (Sls Int)} (hL : GoodL n L) {a k : Nat} (hk : k < (ls L a).length) : ∃ j : Nat, j < n ∧ (ls L a).getD k 0 = j := by
  rw [getD_at _ k hk]
  have := hL.rg a _ (List.getElem_mem hk)
  exact ⟨((ls L a)[k]).toNat, by omega, by omega⟩
theorem nodup_at {l : List Int} (h : l.Nodup) {i k : Nat} (hi : i < l.length) (hk : k < l.length) (he : l.getD i 0 = l.getD k 0) : i = k := by
  rw [getD_at _ i hi, getD_at _ k hk] at he
  rw [List.nodup_iff_pairwise_ne, List.pairwise_iff_getElem] at h
  rcases Nat.lt_trichotomy i k with h1 | h1 | h1
  · exact absurd he (h i k hi hk h1)
  · exact h1
  · exact absurd he.symm (h k i hk hi h1)
/-- Nobody on the right has one. -/
def FreeA (n : Nat) (has : Nat → Int) (a : Nat) : Prop := ∀ j, j < n → has j ≠ a
theorem AskI.gone {n : Nat} {L R : List (Sls Int)} {has : Nat → Int} {nx : Nat → Nat} (h : AskI n L R has nx) (hL : GoodL n L) {a : Nat} (ha : a < n) {m : Nat} (hm : m ≤ nx a) (hf : ∀ k, k < m → ∀ j : Nat, j < n → (ls L a).getD k 0 = j → has j ≠ a) {l : List Int} (hs : Stab n L R l) (k : Nat) (hk : k < m) : l.getD a 0 ≠ (ls L a).getD k 0 := by
  obtain ⟨j, hj, e⟩ := at_rg hL (a := a) (k := k) (by have := h.nxl a ha; omega)
  rw [e]
  exact h.opt a k ha (by omega) j e (hf k hk j hj e) l hs
theorem AskI.take {n : Nat} {L R : List (Sls Int)} {has : Nat → Int} {nx : Nat → Nat} (h : AskI n L R has nx) (hL : GoodL n L) (hR : GoodL n R) (hnd : ∀ a, (ls L a).Nodup) {a j : Nat} (ha : a < n) (hf : FreeA n has a) (hk : nx a < (ls L a).length) (hj : (ls L a).getD (nx a) 0 = j) (hjn : j < n)
    (hr : rankI a (ls R j) < if 0 ≤ has j then rankI (has j) (ls R j) else 8) : AskI n L R (upd has j a) (upd nx a (nx a + 1)) := by
  have hr8 : rankI a (ls R j) < 8 := by
    split at hr
    · have := (rank_bounds (x := has j) (hR.l8 j)).2
      omega
    · exact hr
  have hold : ∀ b : Nat, has j = b → b ≠ a ∧ rankI a (ls R j) < rankI b (ls R j) := fun b hb => by
    refine ⟨fun e => hf j hjn (by rw [hb, e]), ?_⟩
    rw [if_pos (by omega), hb] at hr
    exact hr
  have hnx : ∀ x k, k < upd nx a (nx a + 1) x → (x = a ∧ k = nx a) ∨ k < nx x := fun x k hkx => by
    by_cases hx : x = a
    · subst hx
      rw [upd_same] at hkx
      omega
    · rw [upd_other _ _ hx] at hkx
      exact .inr hkx
  refine ⟨fun j' hj' => ?_, fun x hx => ?_, fun x k hx hkx j' e hrx => ?_, fun x k hx hkx j' e hne l hs => ?_⟩
  · by_cases hjj : j' = j
    · subst hjj
      exact .inr ⟨a, upd_same _ _ _, ha, hr8, by rw [upd_same]; omega, by rw [upd_same]; omega, by rw [upd_same]; exact hj⟩
    · rw [upd_other _ _ hjj]
      rcases h.own j' hj' with h1 | ⟨b, h1, h2, h3, h4, h5, h6⟩
      · exact .inl h1
      · have hba : b ≠ a := fun e => hf j' hj' (by rw [h1, e])
        exact .inr ⟨b, h1, h2, h3, by rw [upd_other _ _ hba]; exact h4, by rw [upd_other _ _ hba]; exact h5, by rw [upd_other _ _ hba]; exact h6⟩
  · by_cases hxa : x = a
    · subst hxa
      rw [upd_same]
      omega
    · rw [upd_other _ _ hxa]
      exact h.nxl x hx
  · rcases hnx x k hkx with ⟨rfl, rfl⟩ | hold2
    · have : j' = j := by omega
      subst this
      exact ⟨x, upd_same _ _ _, Int.le_refl _⟩
    · obtain ⟨b, h1, h2⟩ := h.best x k hx hold2 j' e hrx
      by_cases hjj : j' = j
      · subst hjj
        have := (hold b h1).2
        exact ⟨a, upd_same _ _ _, by omega⟩
      · exact ⟨b, by rw [upd_other _ _ hjj]; exact h1, h2⟩
  · rcases hnx x k hkx with ⟨rfl, rfl⟩ | hold2
    · have : j' = j := by omega
      subst this
      exact absurd (upd_same _ _ _) hne
    · by_cases hjj : j' = j
      · subst hjj
        by_cases hx2 : has j' = x
        · intro hlx
          obtain ⟨hxa, hrx⟩ := hold x hx2
          have hla : l.getD a 0 ≠ j' := fun e2 => hxa (hs.dist x a hx ha (by rw [hlx, e2]) (by omega))
          have hwr := would_rather hL hnd hk hj hla (fun k' hk' => h.gone hL ha (Nat.le_refl _) (fun k2 _ j2 hj2 _ => hf j2 hj2) hs k' hk')
          refine hs.nob a j' ha hjn hla hwr ?_
          rw [idx_of hs hx hlx]
          exact (rather_rank (by omega) (hR.l8 j')).2 ⟨hr8, hrx⟩
        · exact h.opt x k hx hold2 j' e hx2 l hs
      · rw [upd_other _ _ hjj] at hne
        exact h.opt x k hx hold2 j' e hne l hs
theorem AskI.miss {n : Nat} {L R : List (Sls Int)} {has : Nat → Int} {nx : Nat → Nat} (h : AskI n L R has nx) (hL : GoodL n L) (hR : GoodL n R) (hnd : ∀ a, (ls L a).Nodup) {a j : Nat} (ha : a < n) (hf : FreeA n has a) (hk : nx a < (ls L a).length) (hj : (ls L a).getD (nx a) 0 = j) (hjn : j < n)
    (hr : ¬ rankI a (ls R j) < if 0 ≤ has j then rankI (has j) (ls R j) else 8) : AskI n L R has (upd nx a (nx a + 1)) := by
  have hnx : ∀ x k, k < upd nx a (nx a + 1) x → (x = a ∧ k = nx a) ∨ k < nx x := fun x k hkx => by
    by_cases hx : x = a
    · subst hx
      rw [upd_same] at hkx
      omega
    · rw [upd_other _ _ hx] at hkx
      exact .inr hkx
  have hcur : rankI a (ls R j) < 8 → ∃ b : Nat, has j = b ∧ b ≠ a ∧ b < n ∧ rankI b (ls R j) < rankI a (ls R j) ∧ 1 ≤ nx b ∧ nx b ≤ (ls L b).length ∧ (ls L b).getD (nx b - 1) 0 = j := fun h8 => by
    rcases h.own j hjn with h1 | ⟨b, h1, h2, h3, h4, h5, h6⟩
    · rw [h1] at hr
      simp at hr
      omega
    · rw [h1, if_pos (by omega)] at hr
      have hba : b ≠ a := fun e => hf j hjn (by rw [h1, e])
      refine ⟨b, h1, hba, h2, ?_, h4, h5, h6⟩
      have hne : rankI b (ls R j) ≠ rankI a (ls R j) := fun e => hba (by have := rank_inj (hR.l8 j) e h3; omega)
      omega
  refine ⟨fun j' hj' => ?_, fun x hx => ?_, fun x k hx hkx j' e hrx => ?_, fun x k hx hkx j' e hne l hs => ?_⟩
  · rcases h.own j' hj' with h1 | ⟨b, h1, h2, h3, h4, h5, h6⟩
    · exact .inl h1
    · have hba : b ≠ a := fun e => hf j' hj' (by rw [h1, e])
      exact .inr ⟨b, h1, h2, h3, by rw [upd_other _ _ hba]; exact h4, by rw [upd_other _ _ hba]; exact h5, by rw [upd_other _ _ hba]; exact h6⟩
  · by_cases hxa : x = a
    · subst hxa
      rw [upd_same]
      omega
    · rw [upd_other _ _ hxa]
      exact h.nxl x hx
  · rcases hnx x k hkx with ⟨rfl, rfl⟩ | hold2
    · have : j' = j := by omega
      subst this
      obtain ⟨b, h1, h2, h3, h4, _⟩ := hcur hrx
      exact ⟨b, h1, by omega⟩
    · exact h.best x k hx hold2 j' e hrx
  · rcases hnx x k hkx with ⟨rfl, rfl⟩ | hold2
    · have : j' = j := by omega
      subst this
      intro hlx
      have h8 := (hs.acc x j' hx hlx).1
      obtain ⟨b, h1, h2, h3, h4, h5, h6, h7⟩ := hcur h8
      have hq1 : nx b - 1 < (ls L b).length := by omega
      have hlb : l.getD b 0 ≠ j' := fun e2 => h2 (hs.dist b x h3 hx (by rw [hlx, e2]) (by omega))
      have hwr := would_rather hL hnd (p := nx b - 1) (by omega) h7 hlb (fun k' hk' => h.gone hL h3 (m := nx b - 1) (by omega) (fun k2 hk2 j2 hj2 e2 e3 => by
        rcases h.own j2 hj2 with g1 | ⟨c, g1, _, _, _, _, g6⟩
        · omega
        · have : c = b := by omega
          subst this
          have : j2 = j' := by omega
          subst this
          have := nodup_at (hnd c) (i := k2) (k := nx c - 1) (Nat.lt_trans hk2 hq1) hq1 (by rw [e2, g6])
          exact Nat.ne_of_lt hk2 this) hs k' hk')
      refine hs.nob b j' h3 hjn hlb hwr ?_
      rw [idx_of hs hx hlx]
      exact (rather_rank (by omega) (hR.l8 j')).2 ⟨by omega, h4⟩
    · exact h.opt x k hx hold2 j' e hne l hs
end Go.Proofs.Ytodbhgbgeiailaa
