/- Does a pairing hold: what the program asks and what the reference asks come to the same; plain Lean. Conditions: none. -/
import Derived.Test.YtjkfogkpacmdlaaFeeLeast31
import Derived.Test.YtjkfogkpacmdlaaFeeLeast9
namespace Go.Proofs.Ytjkfogkpacmdlaa
open Go.RowKit

def idxI (x : Int) (l : List Int) : Int := idxF (fun y => x == y) l
def rankI (x : Int) (l : List Int) : Int := if 0 ≤ idxI x l then idxI x l else 8
theorem idxI_nil (x : Int) : idxI x [] = -1 := rfl
theorem idxI_hit (x : Int) (l : List Int) : idxI x (x :: l) = 0 := by
  unfold idxI idxF
  simp [List.findIdx_cons]
theorem idxI_skip {x y : Int} (l : List Int) (h : x ≠ y) : idxI x (y :: l) = if 0 ≤ idxI x l then idxI x l + 1 else -1 := by
  have hb : (x == y) = false := by simpa using h
  have e : idxI x (y :: l) = if l.any (fun y => x == y) = true then ((l.findIdx (fun y => x == y) + 1 : Nat) : Int) else -1 := by
    unfold idxI idxF
    simp only [List.any_cons, hb, Bool.false_or, List.findIdx_cons, cond_false]
  have e2 : idxI x l = if l.any (fun y => x == y) = true then (l.findIdx (fun y => x == y) : Int) else -1 := rfl
  rw [e, e2]
  split
  · rename_i h1
    rw [if_pos (by omega)]
    omega
  · rename_i h1
    rw [if_neg (by omega)]
theorem idxI_range (x : Int) : ∀ l : List Int, -1 ≤ idxI x l ∧ idxI x l < l.length
  | [] => by rw [idxI_nil]; simp
  | y :: l => by
    have ih := idxI_range x l
    by_cases h : x = y
    · subst h; rw [idxI_hit]; simp
    · rw [idxI_skip l h]
      simp only [List.length_cons]
      split <;> omega
theorem hasB_cons (x y : Int) (l : List Int) : hasB (y :: l) x = ((x == y) || hasB l x) := rfl
theorem idxI_has (x : Int) : ∀ l : List Int, (0 ≤ idxI x l ↔ hasB l x = true)
  | [] => by rw [idxI_nil]; simp [hasB]
  | y :: l => by
    have ih := idxI_has x l
    rw [hasB_cons]
    by_cases h : x = y
    · subst h; rw [idxI_hit]; simp
    · rw [idxI_skip l h]
      have hb : (x == y) = false := by simpa using h
      rw [hb, Bool.false_or, ← ih]
      split <;> omega
theorem rank8 {x : Int} {l : List Int} (h : l.length ≤ 8) : (rankI x l == 8) = !hasB l x := by
  have h1 := idxI_range x l
  have h2 := idxI_has x l
  unfold rankI
  cases hh : hasB l x with
  | true =>
    have := h2.2 hh
    rw [if_pos this]
    simp
    omega
  | false =>
    have : ¬ 0 ≤ idxI x l := fun h => by rw [h2.1 h] at hh; cases hh
    rw [if_neg this]
    rfl
theorem rank_lt8 {x : Int} {l : List Int} (h : l.length ≤ 8) : decide (rankI x l < 8) = hasB l x := by
  have h1 := idxI_range x l
  have h2 := idxI_has x l
  unfold rankI
  cases hh : hasB l x with
  | true =>
    have := h2.2 hh
    rw [if_pos this]
    simp
    omega
  | false =>
    have : ¬ 0 ≤ idxI x l := fun h => by rw [h2.1 h] at hh; cases hh
    rw [if_neg this]
    rfl
theorem rank_bounds {x : Int} {l : List Int} (h : l.length ≤ 8) : 0 ≤ rankI x l ∧ rankI x l ≤ 8 := by
  have h1 := idxI_range x l
  unfold rankI
  split <;> omega
/-- Would one, by its list, rather have a than b? -/
def ratherB (a b : Int) : List Int → Bool
  | [] => false
  | x :: l => if x = b then false else if x = a then true else ratherB a b l
theorem rather_none {a b : Int} : ∀ {l : List Int}, (∀ x ∈ l, x ≠ b) → ratherB a b l = hasB l a
  | [], _ => rfl
  | x :: l, h => by
    rw [ratherB, if_neg (h x (by simp)), hasB_cons]
    by_cases hx : x = a
    · rw [if_pos hx, hx]; simp
    · rw [if_neg hx, rather_none (fun y hy => h y (by simp [hy]))]
      have : (a == x) = false := by simp; exact fun e => hx e.symm
      rw [this, Bool.false_or]
theorem rank_hit (x : Int) (l : List Int) : rankI x (x :: l) = 0 := by
  unfold rankI
  rw [idxI_hit]
  rfl
theorem rank_skip {x y : Int} (l : List Int) (h : x ≠ y) : rankI x (y :: l) = if 0 ≤ idxI x l then idxI x l + 1 else 8 := by
  unfold rankI
  rw [idxI_skip l h]
  by_cases p : 0 ≤ idxI x l
  · rw [if_pos p, if_pos (by omega)]
    rw [if_pos p]
  · rw [if_neg p, if_neg (by omega)]
    rw [if_neg p]
theorem rather_rank {a b : Int} (hab : a ≠ b) : ∀ {l : List Int}, l.length ≤ 8 → (ratherB a b l = true ↔ rankI a l < 8 ∧ rankI a l < rankI b l)
  | [], _ => by simp [ratherB, rankI, idxI_nil]
  | x :: l, h => by
    have hl : l.length ≤ 8 := by simp at h; omega
    have ih := rather_rank hab (l := l) hl
    have r1 := idxI_range a l
    have r2 := idxI_range b l
    have r3 := rank_bounds (x := a) h
    rw [ratherB]
    by_cases hb : x = b
    · subst hb
      rw [if_pos rfl, rank_hit]
      constructor
      · intro h; cases h
      · intro h; omega
    · rw [if_neg hb]
      have hb' : b ≠ x := fun e => hb e.symm
      by_cases ha : x = a
      · subst ha
        rw [if_pos rfl, rank_hit, rank_skip l hb']
        refine ⟨fun _ => ⟨by omega, ?_⟩, fun _ => rfl⟩
        split <;> omega
      · rw [if_neg ha, ih]
        have ha' : a ≠ x := fun e => ha e.symm
        have hl9 : l.length < 8 := by simp at h; omega
        rw [rank_skip l hb', rank_skip l ha']
        unfold rankI
        by_cases p1 : 0 ≤ idxI a l
        · rw [if_pos p1, if_pos p1]
          by_cases p2 : 0 ≤ idxI b l
          · rw [if_pos p2, if_pos p2]; omega
          · rw [if_neg p2, if_neg p2]; omega
        · rw [if_neg p1, if_neg p1]; omega
/-- On the list, ahead of the one that is had: is there a bad one? -/
def scanB (bad : Int → Bool) (li : Int) : List Int → Bool
  | [] => true
  | x :: r => if x = li then true else if bad x = true then false else scanB bad li r
theorem scan_iff (bad : Int → Bool) (li : Int) : ∀ r : List Int, (scanB bad li r = false ↔ ∃ j ∈ r, j ≠ li ∧ ratherB j li r = true ∧ bad j = true)
  | [] => by simp [scanB]
  | x :: r => by
    have ih := scan_iff bad li r
    rw [scanB]
    by_cases hx : x = li
    · rw [if_pos hx]
      constructor
      · intro h; cases h
      · rintro ⟨j, _, _, h, _⟩
        rw [ratherB, if_pos hx] at h
        cases h
    · rw [if_neg hx]
      by_cases hb : bad x = true
      · rw [if_pos hb]
        refine ⟨fun _ => ⟨x, by simp, hx, ?_, hb⟩, fun _ => rfl⟩
        rw [ratherB, if_neg hx, if_pos rfl]
      · rw [if_neg hb, ih]
        constructor
        · rintro ⟨j, hj, hne, hr, hbj⟩
          refine ⟨j, by simp [hj], hne, ?_, hbj⟩
          rw [ratherB, if_neg hx]
          split
          · rfl
          · exact hr
        · rintro ⟨j, hj, hne, hr, hbj⟩
          have hjx : x ≠ j := fun e => hb (e ▸ hbj)
          rw [ratherB, if_neg hx, if_neg hjx] at hr
          rcases List.mem_cons.1 hj with h | h
          · exact absurd h.symm hjx
          · exact ⟨j, h, hne, hr, hbj⟩
theorem rather_mem {a b : Int} : ∀ {l : List Int}, ratherB a b l = true → a ∈ l
  | [], h => by cases h
  | x :: l, h => by
    rw [ratherB] at h
    by_cases hb : x = b
    · rw [if_pos hb] at h; cases h
    · rw [if_neg hb] at h
      by_cases ha : x = a
      · simp [ha]
      · rw [if_neg ha] at h
        exact List.mem_cons_of_mem _ (rather_mem h)

/-- The list of one on a side. -/
def ls (L : List (Sls Int)) (i : Nat) : List Int := (L.map Sls.l).getD i []
/-- Does the program's test of one of the pairs, of one of those ahead, fail? -/
def lackP (L R : List (Sls Int)) (i : Nat) (j : Int) : Bool := decide (0 ≤ j) && ((rankI j (ls L i) == 8) || (rankI i (ls R j.toNat) == 8))
def badP (R : List (Sls Int)) (l : List Int) (i : Nat) (j : Int) : Bool :=
  decide (rankI i (ls R j.toNat) < 8) && (decide (idxI j l < 0) || decide (rankI i (ls R j.toNat) < rankI (idxI j l) (ls R j.toNat)))
def holdP (L R : List (Sls Int)) (l : List Int) : Bool :=
  !((List.range l.length).any fun i => lackP L R i (l.getD i 0)) && (List.range L.length).all fun i => scanB (badP R l i) (l.getD i 0) (ls L i)
def lackR (L R : List (Sls Int)) (i : Nat) (j : Int) : Bool := decide (0 ≤ j) && (!hasB (ls L i) j || !hasB (ls R j.toNat) i)
def badR (L R : List (Sls Int)) (l : List Int) (i j : Nat) : Bool := (l.getD i 0 != j) && ratherB j (l.getD i 0) (ls L i) && ratherB i (idxI j l) (ls R j)
def holdR (L R : List (Sls Int)) (l : List Int) : Bool :=
  !((List.range l.length).any fun i => lackR L R i (l.getD i 0)) && !((List.range l.length).any fun i => (List.range l.length).any fun j => badR L R l i j)

structure GoodL (n : Nat) (L : List (Sls Int)) : Prop where
  len : L.length = n
  n8 : n ≤ 8
  l8 : ∀ i, (ls L i).length ≤ 8
  rg : ∀ i, ∀ x ∈ ls L i, 0 ≤ x ∧ x < n
theorem nodup_short {n : Nat} : ∀ {l : List Int}, l.Nodup → (∀ x ∈ l, 0 ≤ x ∧ x < n) → l.length ≤ n := by
  induction n with
  | zero =>
    intro l _ h
    cases l with
    | nil => simp
    | cons a l => have := h a (by simp); omega
  | succ n ih =>
    intro l hn h
    by_cases hm : (n : Int) ∈ l
    · have h1 := ih (l := l.erase (n : Int)) (hn.erase _) (fun i hi => by
        have h2 := (List.Nodup.mem_erase_iff hn).1 hi
        have := h i h2.2
        omega)
      have := List.length_erase_of_mem hm
      omega
    · have h2 := ih hn (fun i hi => by
        have h3 := h i hi
        have h4 : i ≠ (n : Int) := fun e => hm (e ▸ hi)
        omega)
      omega
theorem listGood {n : Nat} {l : List Int} (h : listBad n l = false) : l.Nodup ∧ ∀ x ∈ l, 0 ≤ x ∧ x < n := by
  have hk : ∀ k, ∀ hk : k < l.length, 0 ≤ l[k] ∧ l[k] < n ∧ hasB (l.take k) l[k] = false := fun k hk => by
    have := List.any_eq_false.1 h k (List.mem_range.2 hk)
    unfold badAt at this
    rw [getD_at l k hk 0] at this
    simp at this
    refine ⟨by omega, by omega, ?_⟩
    cases hh : hasB (l.take k) l[k] with
    | false => rfl
    | true => rw [hh] at this; simp at this
  refine ⟨?_, fun x hx => ?_⟩
  · rw [List.nodup_iff_pairwise_ne, List.pairwise_iff_getElem]
    intro i j hi hj hij e
    have h3 := (hk j hj).2.2
    have : hasB (l.take j) l[j] = true := by
      unfold hasB
      rw [List.any_eq_true]
      refine ⟨l[i], ?_, by rw [e]; simp⟩
      rw [List.mem_take_iff_getElem]
      exact ⟨i, by omega, rfl⟩
    rw [this] at h3
    cases h3
  · obtain ⟨k, hkl, rfl⟩ := List.getElem_of_mem hx
    exact ⟨(hk k hkl).1, (hk k hkl).2.1⟩
theorem goodL {n : Nat} {L : List (Sls Int)} (hl : L.length = n) (hn : n ≤ 8) (h : sideBad n L = false) : GoodL n L := by
  have hi : ∀ i, (ls L i).Nodup ∧ ∀ x ∈ ls L i, 0 ≤ x ∧ x < n := fun i => by
    unfold ls
    by_cases hi : i < L.length
    · have e : (L.map Sls.l).getD i [] = L[i].l := by simp [List.getD_eq_getElem?_getD, hi]
      rw [e]
      have := List.any_eq_false.1 h L[i] (List.getElem_mem hi)
      exact listGood (by simpa using this)
    · have e : (L.map Sls.l).getD i [] = [] := by simp [List.getD_eq_getElem?_getD, show L.length ≤ i by omega]
      rw [e]
      exact ⟨List.nodup_nil, by simp⟩
  exact ⟨hl, hn, fun i => Nat.le_trans (nodup_short (hi i).1 (hi i).2) hn, fun i => (hi i).2⟩
theorem wish_good {L R : List (Sls Int)} (h : wishCheck L R = 0) : GoodL L.length L ∧ GoodL L.length R := by
  unfold wishCheck at h
  split at h
  · omega
  · split at h
    · omega
    · split at h
      · omega
      · rename_i h1 h2 h3
        have h4 : R.length = L.length := by omega
        rw [Bool.not_eq_true, Bool.or_eq_false_iff] at h3
        exact ⟨goodL rfl (by omega) h3.1, goodL h4 (by omega) h3.2⟩
theorem hold_same {n : Nat} {L R : List (Sls Int)} {l : List Int} (hL : GoodL n L) (hR : GoodL n R) (hl : l.length = n) : holdP L R l = holdR L R l := by
  have e1 : (fun i : Nat => lackP L R i (l.getD i 0)) = fun i => lackR L R i (l.getD i 0) := by
    funext i
    unfold lackP lackR
    rw [rank8 (hL.l8 i), rank8 (hR.l8 _)]
  unfold holdP holdR
  rw [e1, hL.len, hl]
  congr 1
  rw [Bool.eq_iff_iff, Bool.not_eq_true', List.all_eq_true, List.any_eq_false]
  refine forall_congr' fun i => forall_congr' fun hi => ?_
  have hin := List.mem_range.1 hi
  have key : scanB (badP R l i) (l.getD i 0) (ls L i) = false ↔ ((List.range n).any fun j => badR L R l i j) = true := by
    rw [scan_iff, List.any_eq_true]
    have hbad : ∀ j : Nat, (j : Int) ≠ l.getD i 0 → (badP R l i j = true ↔ ratherB i (idxI j l) (ls R j) = true) := fun j hne => by
      have hlen := hR.l8 j
      have hno : idxI j l ≠ i := fun e => by
        have h1 : (0 : Int) ≤ idxI j l := by omega
        have h2 := (idxI_has (j : Int) l).1 h1
        obtain ⟨k, hk, h3, h4, _⟩ : ∃ k, ∃ hk : k < l.length, idxI j l = k ∧ ((j : Int) == l[k]) = true ∧ True := by
          unfold idxI idxF
          unfold hasB at h2
          rw [if_pos h2]
          refine ⟨l.findIdx fun y => (j : Int) == y, List.findIdx_lt_length_of_exists (by simpa using h2), rfl, ?_, trivial⟩
          exact List.findIdx_getElem (p := fun y => (j : Int) == y)
        have hki : k = i := by omega
        subst hki
        rw [getD_at l k hk 0] at hne
        exact hne (by simpa using h4)
      unfold badP
      rw [Int.toNat_natCast]
      by_cases ho : idxI j l < 0
      · have hm1 : idxI j l = -1 := by have := idxI_range j l; omega
        rw [hm1, rather_none (fun x hx => by have := hR.rg j x hx; omega), ← rank_lt8 hlen]
        simp
      · rw [rather_rank (fun e => hno e.symm) hlen]
        have : decide (idxI j l < 0) = false := decide_eq_false ho
        rw [this, Bool.false_or, Bool.and_eq_true, decide_eq_true_eq, decide_eq_true_eq]
    constructor
    · rintro ⟨j, hj, hne, hr, hb⟩
      have hjr := hL.rg i j hj
      obtain ⟨m, rfl⟩ := Int.eq_ofNat_of_zero_le hjr.1
      refine ⟨m, List.mem_range.2 (by omega), ?_⟩
      unfold badR
      rw [hr, (hbad m hne).1 hb]
      simp
      exact fun e => hne e.symm
    · rintro ⟨m, _, hb⟩
      unfold badR at hb
      simp only [Bool.and_eq_true, bne_iff_ne, ne_eq] at hb
      have hne : (m : Int) ≠ l.getD i 0 := fun e => hb.1.1 e.symm
      exact ⟨m, rather_mem hb.1.2, hne, hb.1.2, (hbad m hne).2 hb.2⟩
  constructor
  · intro h1 h2
    rw [key.2 h2] at h1
    cases h1
  · intro h1
    cases h2 : scanB (badP R l i) (l.getD i 0) (ls L i) with
    | true => rfl
    | false => exact absurd (key.1 h2) h1
end Go.Proofs.Ytjkfogkpacmdlaa
