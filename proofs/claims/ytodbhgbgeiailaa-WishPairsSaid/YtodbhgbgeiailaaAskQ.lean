/- The asking's end: the pairing that is best for the left, as the reference picks it out of all. Conditions: the wishes are good. -/
import Derived.Test.YtodbhgbgeiailaaAskP
namespace Go.Proofs.Ytodbhgbgeiailaa
open Go.RowKit

def gAt (has : Nat → Int) (a : Nat) : Nat → Int
  | 0 => -1
  | k + 1 => if has k = a then (k : Int) else gAt has a k
def gF (n : Nat) (has : Nat → Int) : List Int := (List.range n).map fun a => gAt has a n
theorem gAt_cases (has : Nat → Int) (a : Nat) : ∀ k, (gAt has a k = -1 ∧ ∀ j, j < k → has j ≠ a) ∨ ∃ j, j < k ∧ has j = a ∧ gAt has a k = j
  | 0 => .inl ⟨rfl, fun j hj => by omega⟩
  | k + 1 => by
    unfold gAt
    by_cases h : has k = a
    · exact .inr ⟨k, by omega, h, by rw [if_pos h]⟩
    · rw [if_neg h]
      rcases gAt_cases has a k with ⟨h1, h2⟩ | ⟨j, h1, h2, h3⟩
      · refine .inl ⟨h1, fun j hj => ?_⟩
        by_cases hjk : j = k
        · subst hjk; exact h
        · exact h2 j (by omega)
      · exact .inr ⟨j, by omega, h2, h3⟩
theorem gF_at (n : Nat) (has : Nat → Int) {a : Nat} (ha : a < n) : (gF n has).getD a 0 = gAt has a n := by
  unfold gF
  rw [getD_at _ a (by simpa using ha)]
  simp
theorem gF_len (n : Nat) (has : Nat → Int) : (gF n has).length = n := by unfold gF; simp
structure EndI (n : Nat) (L R : List (Sls Int)) (has : Nat → Int) (nx : Nat → Nat) : Prop where
  ask : AskI n L R has nx
  fin : ∀ a, a < n → (∃ j, j < n ∧ has j = a) ∨ nx a = (ls L a).length
theorem AskI.held {n : Nat} {L R : List (Sls Int)} {has : Nat → Int} {nx : Nat → Nat} (h : AskI n L R has nx) {a j : Nat} (hj : j < n) (e : has j = a) : a < n ∧ rankI a (ls R j) < 8 ∧ 1 ≤ nx a ∧ nx a ≤ (ls L a).length ∧ (ls L a).getD (nx a - 1) 0 = j := by
  rcases h.own j hj with h1 | ⟨b, h1, h2, h3, h4, h5, h6⟩
  · omega
  · have : b = a := by omega
    subst this
    exact ⟨h2, h3, h4, h5, h6⟩
theorem EndI.gone {n : Nat} {L R : List (Sls Int)} {has : Nat → Int} {nx : Nat → Nat} (h : EndI n L R has nx) (hL : GoodL n L) (hnd : ∀ a, (ls L a).Nodup) {a : Nat} (ha : a < n) {j : Nat} (hj : rankI j (ls L a) < 8) (hlt : rankI j (ls L a) < rankI (gAt has a n) (ls L a)) : ∃ k, k < nx a ∧ (ls L a).getD k 0 = j := by
  have h8 := hL.l8 a
  have hm : hasB (ls L a) j = true := by rw [← rank_lt8 h8]; exact decide_eq_true hj
  unfold hasB at hm
  rw [List.any_eq_true] at hm
  obtain ⟨y, hy, hyj⟩ := hm
  obtain ⟨k, hk, rfl⟩ := List.getElem_of_mem hy
  have hkj : (ls L a).getD k 0 = j := by
    rw [getD_at _ k hk]
    simpa using (beq_iff_eq.1 hyj).symm
  have hrk := rank_is (hnd a) h8 hk
  rw [hkj] at hrk
  refine ⟨k, ?_, hkj⟩
  rcases gAt_cases has a n with ⟨h1, h2⟩ | ⟨j0, h1, h2, h3⟩
  · rcases h.fin a ha with ⟨j1, g1, g2⟩ | g
    · exact absurd g2 (h2 j1 g1)
    · rw [g]; exact hk
  · obtain ⟨_, _, g3, g4, g5⟩ := h.ask.held h1 h2
    have hr0 := rank_is (hnd a) h8 (k := nx a - 1) (by omega)
    rw [g5] at hr0
    rw [h3, hr0, hrk] at hlt
    omega
theorem g_stab {n : Nat} {L R : List (Sls Int)} {has : Nat → Int} {nx : Nat → Nat} (h : EndI n L R has nx) (hL : GoodL n L) (hR : GoodL n R) (hnd : ∀ a, (ls L a).Nodup) : Stab n L R (gF n has) := by
  have hdist : ∀ a b, a < n → b < n → (gF n has).getD a 0 = (gF n has).getD b 0 → 0 ≤ (gF n has).getD a 0 → a = b := fun a b ha hb e h0 => by
    rw [gF_at n has ha] at e h0
    rw [gF_at n has hb] at e
    rcases gAt_cases has a n with ⟨h1, _⟩ | ⟨j, h1, h2, h3⟩
    · omega
    · rcases gAt_cases has b n with ⟨g1, _⟩ | ⟨j', g1, g2, g3⟩
      · omega
      · have : j = j' := by omega
        subst this
        omega
  have hacc : ∀ a j : Nat, a < n → (gF n has).getD a 0 = j → rankI a (ls R j) < 8 ∧ rankI j (ls L a) < 8 := fun a j ha e => by
    rw [gF_at n has ha] at e
    rcases gAt_cases has a n with ⟨h1, _⟩ | ⟨j', h1, h2, h3⟩
    · omega
    · have : j' = j := by omega
      subst this
      obtain ⟨_, g2, g3, g4, g5⟩ := h.ask.held h1 h2
      have h8 := hL.l8 a
      have hr := rank_is (hnd a) h8 (k := nx a - 1) (by omega)
      rw [g5] at hr
      exact ⟨g2, by omega⟩
  refine ⟨gF_len n has, hdist, hacc, fun a j ha hj hne hra hrb => ?_⟩
  obtain ⟨p1, p2⟩ := (rather_rank (fun e => hne e.symm) (hL.l8 a)).1 hra
  rw [gF_at n has ha] at p2 hne
  obtain ⟨k, hk, hkj⟩ := h.gone hL hnd ha p1 p2
  have hia : (a : Int) ≠ idxI j (gF n has) := fun e => by
    have h0 : 0 ≤ idxI (j : Int) (gF n has) := by omega
    have hm := (idxI_has (j : Int) (gF n has)).1 h0
    have hk2 : idxI (j : Int) (gF n has) = ((gF n has).findIdx (fun y => (j : Int) == y) : Nat) := by
      unfold idxI idxF
      exact if_pos hm
    have hfa : (gF n has).findIdx (fun y => (j : Int) == y) = a := by omega
    have hla : a < (gF n has).length := by rw [gF_len]; exact ha
    have h3 := List.findIdx_getElem (p := fun y => (j : Int) == y) (xs := gF n has) (w := by rw [hfa]; exact hla)
    simp only [hfa] at h3
    have h4 := gF_at n has ha
    rw [getD_at _ a hla] at h4
    rw [h4] at h3
    simp at h3
    exact hne h3.symm
  obtain ⟨q1, q2⟩ := (rather_rank hia (hR.l8 j)).1 hrb
  obtain ⟨b, hb1, hb2⟩ := h.ask.best a k ha hk j hkj q1
  have hbn := (h.ask.held hj hb1).1
  have hgb : (gF n has).getD b 0 = j := by
    rw [gF_at n has hbn]
    rcases gAt_cases has b n with ⟨g1, g2⟩ | ⟨j', g1, g2, g3⟩
    · exact absurd hb1 (g2 j hj)
    · have e1 := (h.ask.held g1 g2).2.2.2.2
      have e2 := (h.ask.held hj hb1).2.2.2.2
      omega
  have hs0 : idxI j (gF n has) = b := by
    have hla : b < (gF n has).length := by rw [gF_len]; exact hbn
    have hmem : hasB (gF n has) j = true := by
      unfold hasB
      rw [List.any_eq_true]
      exact ⟨(gF n has)[b], List.getElem_mem hla, by rw [← hgb, getD_at _ b hla]; simp⟩
    have hk2 : idxI (j : Int) (gF n has) = ((gF n has).findIdx (fun y => (j : Int) == y) : Nat) := by
      unfold idxI idxF
      exact if_pos hmem
    have hr := idxI_range (j : Int) (gF n has)
    rw [gF_len] at hr
    obtain ⟨c, hc⟩ : ∃ c, c = (gF n has).findIdx (fun y => (j : Int) == y) := ⟨_, rfl⟩
    rw [← hc] at hk2
    have hcn : c < n := by omega
    have hlc : c < (gF n has).length := by rw [gF_len]; exact hcn
    have h3 := List.findIdx_getElem (p := fun y => (j : Int) == y) (xs := gF n has) (w := by rw [← hc]; exact hlc)
    simp only [← hc] at h3
    have h4 := getD_at (gF n has) c hlc 0
    simp at h3
    have := hdist c b hcn hbn (by rw [h4, hgb]; exact h3.symm) (by rw [h4, ← h3]; omega)
    rw [hk2, this]
  rw [hs0] at q2
  omega
theorem g_best {n : Nat} {L R : List (Sls Int)} {has : Nat → Int} {nx : Nat → Nat} (h : EndI n L R has nx) (hL : GoodL n L) (hnd : ∀ a, (ls L a).Nodup) {l : List Int} (hs : Stab n L R l) {a j : Nat} (ha : a < n) (e : l.getD a 0 = j) : rankI (gAt has a n) (ls L a) ≤ rankI j (ls L a) := by
  refine Classical.byContradiction fun hlt => ?_
  obtain ⟨k, hk, hkj⟩ := h.gone hL hnd ha (hs.acc a j ha e).2 (by omega)
  by_cases hh : has j = a
  · rcases gAt_cases has a n with ⟨g1, g2⟩ | ⟨j', g1, g2, g3⟩
    · obtain ⟨j2, h2, e2⟩ := at_rg hL (a := a) (k := k) (by have := h.ask.nxl a ha; omega)
      exact absurd hh (g2 j (by omega))
    · have e1 := (h.ask.held g1 g2).2.2.2.2
      obtain ⟨j2, h2, e2⟩ := at_rg hL (a := a) (k := k) (by have := h.ask.nxl a ha; omega)
      have e3 := (h.ask.held (show j < n by omega) hh).2.2.2.2
      have : j' = j := by omega
      subst this
      rw [g3] at hlt
      omega
  · exact h.ask.opt a k ha hk j hkj hh l hs e

/-- The reference's choice. -/
def pickF (L : List (Sls Int)) (i : Nat) (b : Int) (l : List Int) : Int := if ratherB (l.getD i 0) b (ls L i) = true then l.getD i 0 else b
def pairF (L R : List (Sls Int)) (n : Nat) : List Int := (List.range n).map fun i => (refA L R n n []).foldl (pickF L i) (-1)
def Dst (l : List Int) : Prop := l.Pairwise fun x y => 0 ≤ x → x ≠ y
theorem refA_mem {n : Nat} {L R : List (Sls Int)} : ∀ (f : Nat) (l x : List Int), x ∈ refA L R n f l → l.length + f = n → Dst l → (∀ y ∈ l, -1 ≤ y) → x.length = n ∧ Dst x ∧ (∀ y ∈ x, -1 ≤ y) ∧ holdR L R x = true
  | 0, l, x, h, hl, hd, hb => by
    unfold refA at h
    split at h
    · rename_i hh
      rw [List.mem_singleton] at h
      subst h
      exact ⟨by omega, hd, hb, hh⟩
    · cases h
  | f + 1, l, x, h, hl, hd, hb => by
    unfold refA at h
    obtain ⟨q, _, hq⟩ := List.mem_flatMap.1 h
    split at hq
    · cases hq
    · rename_i hj
      refine refA_mem f _ x hq (by simp; omega) ?_ (fun y hy => ?_)
      · unfold Dst
        rw [List.pairwise_append]
        refine ⟨hd, List.pairwise_singleton _ _, fun a ha b hb2 h0 e => ?_⟩
        rw [List.mem_singleton] at hb2
        subst hb2
        apply hj
        unfold refJ
        have : hasB l a = true := by unfold hasB; rw [List.any_eq_true]; exact ⟨a, ha, by simp⟩
        rw [← e, this, decide_eq_true h0]
        rfl
      · rcases List.mem_append.1 hy with h1 | h1
        · exact hb y h1
        · rw [List.mem_singleton] at h1
          omega
theorem refA_of {n : Nat} {L R : List (Sls Int)} (hL : GoodL n L) (hR : GoodL n R) : ∀ (f : Nat) (l y : List Int), y.length = f → l.length + f = n → Dst (l ++ y) → (∀ v ∈ l ++ y, -1 ≤ v ∧ v < n) → holdR L R (l ++ y) = true → l ++ y ∈ refA L R n f l
  | 0, l, y, hy, hl, hd, hb, hh => by
    rw [List.length_eq_zero_iff] at hy
    subst hy
    rw [List.append_nil] at hh ⊢
    unfold refA
    rw [if_pos hh]
    simp
  | f + 1, l, [], hy, _, _, _, _ => by simp at hy
  | f + 1, l, j :: y, hy, hl, hd, hb, hh => by
    have hjb := hb j (by simp)
    have e : l ++ j :: y = (l ++ [j]) ++ y := by simp
    have ih := refA_of hL hR f (l ++ [j]) y (by simpa using hy) (by simp; omega) (by rw [← e]; exact hd) (by rw [← e]; exact hb) (by rw [← e]; exact hh)
    rw [← e] at ih
    unfold refA
    refine List.mem_flatMap.2 ⟨(j + 1).toNat, List.mem_range.2 (by omega), ?_⟩
    have hq : (((j + 1).toNat : Nat) : Int) - 1 = j := by omega
    rw [hq]
    have hJ : refJ L R l j = false := by
      unfold refJ
      by_cases h0 : 0 ≤ j
      · have hln : (l ++ j :: y).length = n := by simp at hy ⊢; omega
        have hat : (l ++ j :: y).getD l.length 0 = j := by simp [List.getD_eq_getElem?_getD]
        obtain ⟨h1, h2⟩ := hold_has hL hR hln (by rw [hold_same hL hR hln]; exact hh) (i := l.length) (by omega) hat h0
        have h3 : hasB l j = false := by
          cases h4 : hasB l j with
          | false => rfl
          | true =>
            unfold hasB at h4
            rw [List.any_eq_true] at h4
            obtain ⟨a, ha, hja⟩ := h4
            have := (List.pairwise_append.1 hd).2.2 a ha j (by simp)
            have hja' := beq_iff_eq.1 hja
            exact absurd hja'.symm (this (by omega))
        rw [h1, h2, h3, decide_eq_true h0]
        rfl
      · rw [decide_eq_false h0]
        rfl
    rw [hJ, if_neg (by simp)]
    exact ih
theorem stab_of {n : Nat} {L R : List (Sls Int)} (hL : GoodL n L) (hR : GoodL n R) {x : List Int} (hx : x.length = n) (hd : Dst x) (hh : holdR L R x = true) : Stab n L R x := by
  refine ⟨hx, fun a b ha hb e h0 => ?_, fun a j ha e => ?_, fun a j ha hj hne h1 h2 => ?_⟩
  · unfold Dst at hd
    rw [List.pairwise_iff_getElem] at hd
    rw [getD_at _ a (by omega), getD_at _ b (by omega)] at e
    rw [getD_at _ a (by omega)] at h0
    rcases Nat.lt_trichotomy a b with h1 | h1 | h1
    · exact absurd e (hd a b (by omega) (by omega) h1 h0)
    · exact h1
    · exact absurd e.symm (hd b a (by omega) (by omega) h1 (by omega))
  · obtain ⟨h1, h2⟩ := hold_has hL hR hx (by rw [hold_same hL hR hx]; exact hh) ha e (by omega)
    rw [Int.toNat_natCast] at h2
    rw [← rank_lt8 (hR.l8 j)] at h2
    rw [← rank_lt8 (hL.l8 a)] at h1
    exact ⟨of_decide_eq_true h2, of_decide_eq_true h1⟩
  · unfold holdR at hh
    rw [Bool.and_eq_true, Bool.not_eq_true', Bool.not_eq_true', List.any_eq_false, List.any_eq_false] at hh
    have h3 := hh.2 a (List.mem_range.2 (by omega))
    rw [List.any_eq_true] at h3
    refine h3 ⟨j, List.mem_range.2 (by omega), ?_⟩
    unfold badR
    rw [h1, h2]
    simpa using hne
theorem hold_of {n : Nat} {L R : List (Sls Int)} (hL : GoodL n L) (hR : GoodL n R) {x : List Int} (hs : Stab n L R x) : holdR L R x = true := by
  unfold holdR
  rw [Bool.and_eq_true, Bool.not_eq_true', Bool.not_eq_true', List.any_eq_false, List.any_eq_false]
  refine ⟨fun i hi => ?_, fun i hi => ?_⟩
  · have hin : i < n := by rw [← hs.len]; exact List.mem_range.1 hi
    unfold lackR
    by_cases h0 : 0 ≤ x.getD i 0
    · obtain ⟨j, hj⟩ : ∃ j : Nat, x.getD i 0 = j := ⟨(x.getD i 0).toNat, by omega⟩
      obtain ⟨h1, h2⟩ := hs.acc i j hin hj
      rw [hj, Int.toNat_natCast, ← rank_lt8 (hR.l8 j), ← rank_lt8 (hL.l8 i), decide_eq_true h1, decide_eq_true h2]
      simp
    · rw [decide_eq_false h0]
      simp
  · have hin : i < n := by rw [← hs.len]; exact List.mem_range.1 hi
    rw [List.any_eq_true]
    rintro ⟨j, hj, hb⟩
    have hjn : j < n := by rw [← hs.len]; exact List.mem_range.1 hj
    unfold badR at hb
    rw [Bool.and_eq_true, Bool.and_eq_true] at hb
    exact hs.nob i j hin hjn (by simpa using hb.1.1) hb.1.2 hb.2
theorem rather_self (a : Int) : ∀ l : List Int, ratherB a a l = false
  | [] => rfl
  | x :: l => by
    rw [ratherB]
    by_cases h : x = a
    · rw [if_pos h]
    · rw [if_neg h, if_neg h, rather_self a l]
theorem pair_best {n : Nat} {L R : List (Sls Int)} {has : Nat → Int} {nx : Nat → Nat} (h : EndI n L R has nx) (hL : GoodL n L) (hR : GoodL n R) (hnd : ∀ a, (ls L a).Nodup) : gF n has = pairF L R n := by
  have hg := g_stab h hL hR hnd
  have hgm : gF n has ∈ refA L R n n [] := by
    have := refA_of (L := L) (R := R) hL hR n [] (gF n has) (gF_len n has) (by simp) (by
      rw [List.nil_append]
      unfold Dst
      rw [List.pairwise_iff_getElem]
      intro i j hi hj hij h0 e
      rw [gF_len] at hi hj
      have := hg.dist i j hi hj (by rw [getD_at _ i (by rw [gF_len]; exact hi), getD_at _ j (by rw [gF_len]; exact hj)]; exact e) (by rw [getD_at _ i (by rw [gF_len]; exact hi)]; exact h0)
      omega) (fun v hv => by
        rw [List.nil_append] at hv
        unfold gF at hv
        obtain ⟨a, ha, rfl⟩ := List.mem_map.1 hv
        rcases gAt_cases has a n with ⟨g1, _⟩ | ⟨j', g1, g2, g3⟩
        · rw [g1]; have := List.mem_range.1 ha; omega
        · rw [g3]; omega) (by rw [List.nil_append]; exact hold_of hL hR hg)
    rwa [List.nil_append] at this
  have hall : ∀ x ∈ refA L R n n [], Stab n L R x ∧ ∀ y ∈ x, -1 ≤ y := fun x hx => by
    obtain ⟨h1, h2, h3, h4⟩ := refA_mem n [] x hx (by simp) List.Pairwise.nil (fun y hy => by cases hy)
    exact ⟨stab_of hL hR h1 h2 h4, h3⟩
  unfold pairF
  unfold gF
  refine List.map_congr_left fun i hi => ?_
  have hin := List.mem_range.1 hi
  obtain ⟨g, hgd⟩ : ∃ g, g = gAt has i n := ⟨_, rfl⟩
  rw [← hgd]
  have hgi : (gF n has).getD i 0 = g := by rw [gF_at n has hin, hgd]
  have hno : ∀ l, Stab n L R l → ratherB (l.getD i 0) g (ls L i) = false := fun l hs => by
    cases hr : ratherB (l.getD i 0) g (ls L i) with
    | false => rfl
    | true =>
      by_cases he : l.getD i 0 = g
      · rw [he, rather_self] at hr
        cases hr
      · have h1 := hL.rg i _ (rather_mem hr)
        obtain ⟨j, hj⟩ : ∃ j : Nat, l.getD i 0 = j := ⟨(l.getD i 0).toNat, by omega⟩
        have h2 := ((rather_rank he (hL.l8 i)).1 hr).2
        have h3 := g_best h hL hnd hs hin hj
        rw [← hgd] at h3
        rw [hj] at h2
        omega
  have hyes : ∀ b, (b = -1 ∨ ∃ l, Stab n L R l ∧ (∀ y ∈ l, -1 ≤ y) ∧ b = l.getD i 0) → b ≠ g → ratherB g b (ls L i) = true := fun b hb hne => by
    have hneg : b = -1 → ratherB g b (ls L i) = true := fun hb => by
      subst hb
      rw [rather_none (fun x hx => by have := hL.rg i x hx; omega)]
      rcases gAt_cases has i n with ⟨g1, _⟩ | ⟨j', g1, g2, g3⟩
      · omega
      · have h4 := (hg.acc i j' hin (by rw [gF_at n has hin, g3])).2
        rw [hgd, g3, ← rank_lt8 (hL.l8 i)]
        exact decide_eq_true h4
    rcases hb with hb | ⟨l, hs, hby, hb⟩
    · exact hneg hb
    · by_cases h0 : 0 ≤ b
      · obtain ⟨j, hj⟩ : ∃ j : Nat, l.getD i 0 = j := ⟨b.toNat, by omega⟩
        have h3 := g_best h hL hnd hs hin hj
        have h4 := (hs.acc i j hin hj).2
        rw [← hgd] at h3
        rw [hb, hj] at hne ⊢
        refine (rather_rank (fun e => hne e.symm) (hL.l8 i)).2 ⟨by omega, ?_⟩
        have : rankI g (ls L i) ≠ rankI j (ls L i) := fun e => hne (rank_inj (hL.l8 i) e (by omega)).symm
        omega
      · have hil : i < l.length := by rw [hs.len]; exact hin
        have := hby (l.getD i 0) (by rw [getD_at _ i hil]; exact List.getElem_mem hil)
        exact hneg (by omega)
  have hA : ∀ xs : List (List Int), (∀ x ∈ xs, Stab n L R x) → xs.foldl (pickF L i) g = g := by
    intro xs
    induction xs with
    | nil => intro _; rfl
    | cons x xs ih =>
      intro hx
      rw [List.foldl_cons]
      have : pickF L i g x = g := by
        unfold pickF
        rw [hno x (hx x (by simp))]
        rfl
      rw [this]
      exact ih fun y hy => hx y (by simp [hy])
  have hB : ∀ (xs : List (List Int)) (b : Int), (∀ x ∈ xs, Stab n L R x ∧ ∀ y ∈ x, -1 ≤ y) → (b = -1 ∨ ∃ l, Stab n L R l ∧ (∀ y ∈ l, -1 ≤ y) ∧ b = l.getD i 0) → gF n has ∈ xs → g = xs.foldl (pickF L i) b := by
    intro xs
    induction xs with
    | nil => intro b _ _ h; cases h
    | cons x xs ih =>
      intro b hx hb hm
      rw [List.foldl_cons]
      by_cases hxg : x = gF n has
      · have : pickF L i b x = g := by
          unfold pickF
          rw [hxg, hgi]
          by_cases hbg : b = g
          · split
            · rfl
            · exact hbg
          · rw [hyes b hb hbg]
            rfl
        rw [this]
        exact (hA xs fun y hy => (hx y (by simp [hy])).1).symm
      · have hm' : gF n has ∈ xs := by
          rcases List.mem_cons.1 hm with h1 | h1
          · exact absurd h1.symm hxg
          · exact h1
        refine ih _ (fun y hy => hx y (by simp [hy])) ?_ hm'
        unfold pickF
        split
        · obtain ⟨h1, h2⟩ := hx x (by simp)
          exact .inr ⟨x, h1, h2, rfl⟩
        · exact hb
  exact hB _ _ hall (.inl rfl) hgm
end Go.Proofs.Ytodbhgbgeiailaa
