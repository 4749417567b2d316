/- Fleury: who may still meet all edges that are left has a next one; in plain Lean. Conditions: the graph may be. -/
import Derived.Test.YtjkfogkpacmdlaaDoorPartsP
import Derived.Test.YtjkfogkpacmdlaaDoorWithout
import Derived.Test.YtjkfogkpacmdlaaDoorSidesP
namespace Go.Proofs.YtjkfogkpacmdlaaDoor
open Go.RowKit

/-- Without the edge of two. -/
def cutE (l : List Ed) (a j : Nat) : List Ed := l.filter fun e => !joins a j e
theorem cut_good {N : Nat} {l : List Ed} (h : GoodG N l) (a j : Nat) : GoodG N (cutE l a j) :=
  ⟨h.n10, Nat.le_trans (List.length_filter_le _ _) h.m45, fun e he => h.ed e (List.mem_filter.1 he).1, h.nd.filter _⟩
theorem joins_iff {i j : Nat} {e : Ed} : joins i j e = true ↔ (e.a = i ∧ e.b = j) ∨ (e.a = j ∧ e.b = i) := by unfold joins; rw [decide_eq_true_eq]
theorem adj_iff {l : List Ed} {i j : Nat} : Adj l i j ↔ ∃ e ∈ l, joins i j e = true := by unfold Adj adj; exact List.any_eq_true
theorem adj_cut {l : List Ed} {a j x y : Nat} : Adj (cutE l a j) x y ↔ Adj l x y ∧ ¬ ((x = a ∧ y = j) ∨ (x = j ∧ y = a)) := by
  rw [adj_iff, adj_iff]
  unfold cutE
  constructor
  · rintro ⟨e, he, hj⟩
    obtain ⟨h1, h2⟩ := List.mem_filter.1 he
    refine ⟨⟨e, h1, hj⟩, fun hk => ?_⟩
    have h3 : ¬ joins a j e = true := by simpa using h2
    refine h3 (joins_iff.2 ?_)
    have := joins_iff.1 hj
    omega
  · rintro ⟨⟨e, he, hj⟩, hk⟩
    refine ⟨e, List.mem_filter.2 ⟨he, ?_⟩, hj⟩
    have h3 : ¬ joins a j e = true := fun h => hk (by
      have h1 := joins_iff.1 h
      have h2 := joins_iff.1 hj
      omega)
    simpa using h3
theorem adj_ne {N : Nat} {l : List Ed} (hg : GoodG N l) {x y : Nat} (h : Adj l x y) : x ≠ y := by
  obtain ⟨e, he, hj⟩ := adj_iff.1 h
  have h1 := (hg.ed e he).ne
  have h2 := joins_iff.1 hj
  omega
theorem erase_cut {a j : Nat} : ∀ {l : List Ed} {k : Nat} (hk : k < l.length), (l.Pairwise fun e f => (e.pair == f.pair) = false) → joins a j l[k] = true → l.eraseIdx k = cutE l a j
  | [], _, h, _, _ => by simp at h
  | e :: l, k, hk, hp, hj => by
    obtain ⟨h1, h2⟩ := List.pairwise_cons.1 hp
    have hpair : ∀ {e f : Ed}, joins a j e = true → joins a j f = true → e.pair = f.pair := fun {e f} h h' => by
      have h3 := joins_iff.1 h
      have h4 := joins_iff.1 h'
      unfold Ed.pair
      refine Prod.ext ?_ ?_ <;> (dsimp only; omega)
    cases k with
    | zero =>
      rw [List.getElem_cons_zero] at hj
      unfold cutE
      rw [List.eraseIdx_cons_zero, List.filter_cons_of_neg (by rw [hj]; simp)]
      refine (List.filter_eq_self.2 fun f hf => ?_).symm
      have h3 := h1 f hf
      have h4 : ¬ joins a j f = true := fun h => by
        rw [hpair hj h] at h3
        simp at h3
      simpa using h4
    | succ k =>
      rw [List.getElem_cons_succ] at hj
      have hk' : k < l.length := by simpa using hk
      have h3 := h1 l[k] (List.getElem_mem _)
      have h4 : ¬ joins a j e = true := fun h => by
        rw [hpair h hj] at h3
        simp at h3
      have ih := erase_cut hk' h2 hj
      unfold cutE at ih ⊢
      rw [List.eraseIdx_cons_succ, List.filter_cons_of_pos (by simpa using h4), ih]
theorem cut_len {N : Nat} {l : List Ed} (hg : GoodG N l) {a j : Nat} (h : Adj l a j) : (cutE l a j).length + 1 = l.length := by
  obtain ⟨e, he, hj⟩ := adj_iff.1 h
  obtain ⟨k, hk, rfl⟩ := List.mem_iff_getElem.1 he
  rw [← erase_cut hk hg.nd hj, List.length_eraseIdx_of_lt hk]
  omega
theorem deg_adj {N : Nat} {l : List Ed} (hg : GoodG N l) (i : Nat) : (List.range 32).countP (fun j => adj l i j) = deg l i := deg_count (N := N) (by have := hg.n10; omega) i l hg.ed hg.nd
theorem deg_cut {N : Nat} {l : List Ed} (hg : GoodG N l) {a j : Nat} (h : Adj l a j) (i : Nat) : deg l i = deg (cutE l a j) i + if i = a ∨ i = j then 1 else 0 := by
  have hlow := adj_low hg a j h
  have hne := adj_ne hg h
  have hn := hg.n10
  rw [← deg_adj hg, ← deg_adj (cut_good hg a j)]
  have key : ∀ o : Nat, o < 32 → Adj l i o → (∀ x, Adj (cutE l a j) i x ↔ Adj l i x ∧ x ≠ o) → (List.range 32).countP (fun x => adj l i x) = (List.range 32).countP (fun x => adj (cutE l a j) i x) + 1 := fun o ho hio hx => by
    have h0 : adj (cutE l a j) i o = false := by
      rw [← Bool.not_eq_true]
      exact fun hh => ((hx o).1 hh).2 rfl
    rw [countP_range_same (q := fun x => decide (x = o) || adj (cutE l a j) i x) 32 (fun x _ => by
      rw [Bool.eq_iff_iff, Bool.or_eq_true, decide_eq_true_eq]
      have := hx x
      unfold Adj at this hio
      constructor
      · intro hh
        by_cases hxo : x = o
        · exact .inl hxo
        · exact .inr (this.2 ⟨hh, hxo⟩)
      · rintro (hh | hh)
        · rw [hh]; exact hio
        · exact (this.1 hh).1), countP_range_or _ o h0, if_pos ho]
  by_cases h1 : i = a
  · subst h1
    rw [if_pos (.inl rfl)]
    refine key j (by omega) h fun x => ?_
    rw [adj_cut]
    constructor
    · rintro ⟨q1, q2⟩; exact ⟨q1, fun e => q2 (.inl ⟨rfl, e⟩)⟩
    · rintro ⟨q1, q2⟩; exact ⟨q1, fun e => by omega⟩
  · by_cases h2 : i = j
    · subst h2
      rw [if_pos (.inr rfl)]
      refine key a (by omega) (adj_sym h) fun x => ?_
      rw [adj_cut]
      constructor
      · rintro ⟨q1, q2⟩; exact ⟨q1, fun e => q2 (.inr ⟨rfl, e⟩)⟩
      · rintro ⟨q1, q2⟩; exact ⟨q1, fun e => by omega⟩
    · rw [if_neg (by omega), Nat.add_zero]
      refine countP_range_same 32 fun x _ => ?_
      have : Adj (cutE l a j) i x ↔ Adj l i x := by
        rw [adj_cut]
        exact ⟨fun q => q.1, fun q => ⟨q, fun e => by omega⟩⟩
      unfold Adj at this
      rw [Bool.eq_iff_iff, this]
theorem deg_pos {N : Nat} {l : List Ed} (hg : GoodG N l) {i : Nat} : 0 < deg l i ↔ ∃ j, Adj l i j := by
  rw [← deg_adj hg, List.countP_pos_iff]
  constructor
  · rintro ⟨j, _, hj⟩; exact ⟨j, hj⟩
  · rintro ⟨j, hj⟩
    have := adj_low hg i j hj
    have := hg.n10
    exact ⟨j, List.mem_range.2 (by omega), hj⟩
/-- All that is left is linked with one. -/
def conn (N : Nat) (l : List Ed) (a : Nat) : Prop := ∀ i, i < N → 0 < deg l i → Rch (Adj l) a i
def par (N : Nat) (l : List Ed) (a s : Nat) : Prop := ∀ i, i < N → (deg l i % 2 = 1 ↔ ¬ (i = a ↔ i = s))
theorem par_cut {N : Nat} {l : List Ed} (hg : GoodG N l) {a j s : Nat} (h : Adj l a j) (hp : par N l a s) : par N (cutE l a j) j s := by
  intro i hi
  have h1 := hp i hi
  have h2 := deg_cut hg h i
  have h3 := adj_ne hg h
  by_cases hia : i = a
  · rw [if_pos (.inl hia)] at h2
    have hij : ¬ i = j := fun e => h3 (hia.symm.trans e)
    by_cases his : i = s
    · have e1 : (i = a ↔ i = s) := ⟨fun _ => his, fun _ => hia⟩
      have e2 : ¬ (i = j ↔ i = s) := fun h => hij (h.2 his)
      have : ¬ deg l i % 2 = 1 := fun h => h1.1 h e1
      exact ⟨fun _ => e2, fun _ => by omega⟩
    · have e1 : ¬ (i = a ↔ i = s) := fun h => his (h.1 hia)
      have e2 : (i = j ↔ i = s) := ⟨fun h => absurd h hij, fun h => absurd h his⟩
      have := h1.2 e1
      exact ⟨fun h => by omega, fun h => absurd e2 h⟩
  · by_cases hij : i = j
    · rw [if_pos (.inr hij)] at h2
      by_cases his : i = s
      · have e1 : ¬ (i = a ↔ i = s) := fun h => hia (h.2 his)
        have e2 : (i = j ↔ i = s) := ⟨fun _ => his, fun _ => hij⟩
        have := h1.2 e1
        exact ⟨fun h => by omega, fun h => absurd e2 h⟩
      · have e1 : (i = a ↔ i = s) := ⟨fun h => absurd h hia, fun h => absurd h his⟩
        have e2 : ¬ (i = j ↔ i = s) := fun h => his (h.1 hij)
        have : ¬ deg l i % 2 = 1 := fun h => h1.1 h e1
        exact ⟨fun _ => e2, fun _ => by omega⟩
    · rw [if_neg (by omega), Nat.add_zero] at h2
      rw [← h2, h1]
      have e : (i = a ↔ i = s) ↔ (i = j ↔ i = s) := ⟨fun h => ⟨fun k => absurd k hij, fun k => absurd (h.2 k) hia⟩, fun h => ⟨fun k => absurd k hia, fun k => absurd (h.2 k) hij⟩⟩
      rw [e]
def sumN (f : Nat → Nat) : Nat → Nat
  | 0 => 0
  | n + 1 => sumN f n + f n
theorem sumN_congr {f g : Nat → Nat} : ∀ n, (∀ i, i < n → f i = g i) → sumN f n = sumN g n
  | 0, _ => rfl
  | n + 1, h => by rw [sumN, sumN, sumN_congr n fun i hi => h i (by omega), h n (by omega)]
theorem sumN_add (f g : Nat → Nat) : ∀ n, sumN (fun i => f i + g i) n = sumN f n + sumN g n
  | 0 => rfl
  | n + 1 => by rw [sumN, sumN, sumN, sumN_add f g n]; omega
theorem sumN_one (v : Nat) (c : Nat) : ∀ n, sumN (fun i => if i = v then c else 0) n = if v < n then c else 0
  | 0 => by simp [sumN]
  | n + 1 => by
    rw [sumN, sumN_one v c n]
    by_cases h : v < n
    · rw [if_pos h, if_neg (by omega), if_pos (by omega)]; omega
    · by_cases h2 : n = v
      · rw [if_neg h, if_pos h2, if_pos (by omega)]; omega
      · rw [if_neg h, if_neg h2, if_neg (by omega)]
theorem sumN_odd {f : Nat → Nat} {v : Nat} : ∀ {n}, v < n → f v % 2 = 1 → (∀ i, i < n → i ≠ v → f i % 2 = 0) → sumN f n % 2 = 1
  | 0, h, _, _ => by omega
  | n + 1, h, h1, h2 => by
    rw [sumN]
    have even : ∀ m, (∀ i, i < m → f i % 2 = 0) → sumN f m % 2 = 0 := fun m => by
      induction m with
      | zero => intro _; rfl
      | succ m ih =>
        intro hm
        rw [sumN]
        have := ih fun i hi => hm i (by omega)
        have := hm m (by omega)
        omega
    by_cases hv : v = n
    · subst hv
      have := even v fun i hi => h2 i (by omega) (by omega)
      omega
    · have := sumN_odd (f := f) (v := v) (n := n) (by omega) h1 fun i hi => h2 i (by omega)
      have := h2 n (by omega) (fun e => hv e.symm)
      omega
theorem hands {N : Nat} (C : Nat → Bool) : ∀ (l : List Ed), (∀ e ∈ l, GoodE N e) → (∀ e ∈ l, C e.a.toNat = C e.b.toNat) → sumN (fun i => if C i = true then deg l i else 0) N % 2 = 0
  | [], _, _ => by
    have : ∀ n, sumN (fun i => if C i = true then deg [] i else 0) n = 0 := fun n => by
      induction n with
      | zero => rfl
      | succ n ih => rw [sumN, ih]; split <;> rfl
    rw [this]
  | e :: l, hl, hc => by
    have ih := hands C l (fun x hx => hl x (List.mem_cons_of_mem _ hx)) (fun x hx => hc x (List.mem_cons_of_mem _ hx))
    obtain ⟨a0, a1, b0, b1, ne, _, _⟩ := hl e (List.mem_cons_self ..)
    have hce := hc e (List.mem_cons_self ..)
    obtain ⟨a, ha⟩ := Int.eq_ofNat_of_zero_le a0
    obtain ⟨b, hb⟩ := Int.eq_ofNat_of_zero_le b0
    rw [ha, hb, Int.toNat_natCast, Int.toNat_natCast] at hce
    have hdeg : ∀ i : Nat, deg (e :: l) i = deg l i + if i = a ∨ i = b then 1 else 0 := fun i => by
      unfold deg
      rw [List.countP_cons]
      congr 1
      have : touches i e = true ↔ (i = a ∨ i = b) := by unfold touches; rw [decide_eq_true_eq]; omega
      by_cases h : i = a ∨ i = b
      · rw [if_pos h, if_pos (this.2 h)]
      · rw [if_neg h, if_neg (fun k => h (this.1 k))]
    have hN : a < N ∧ b < N ∧ a ≠ b := by omega
    rw [sumN_congr (g := fun i => (if C i = true then deg l i else 0) + ((if i = a then (if C a = true then 1 else 0) else 0) + (if i = b then (if C a = true then 1 else 0) else 0))) N (fun i _ => by
      rw [hdeg i]
      by_cases h1 : i = a
      · subst h1
        have h2 : ¬ i = b := hN.2.2
        cases hCv : C i <;> simp [h2]
      · by_cases h2 : i = b
        · subst h2
          rw [hce]
          cases hCv : C i <;> simp [h1]
        · cases hCv : C i <;> simp [h1, h2]), sumN_add, sumN_add, sumN_one, sumN_one, if_pos hN.1, if_pos hN.2.1]
    split <;> omega
theorem rch_cut {l : List Ed} {a j i : Nat} (h : Rch (Adj l) a i) : Rch (Adj (cutE l a j)) a i ∨ Rch (Adj (cutE l a j)) j i := by
  refine rch_closed (fun v => Rch (Adj (cutE l a j)) a v ∨ Rch (Adj (cutE l a j)) j v) (.inl (rch_here _ _)) ?_ h
  intro c v hc hcv
  by_cases hk : (c = a ∧ v = j) ∨ (c = j ∧ v = a)
  · rcases hk with ⟨_, e⟩ | ⟨_, e⟩
    · subst e; exact .inr (rch_here _ _)
    · subst e; exact .inl (rch_here _ _)
  · have h1 : Adj (cutE l a j) c v := adj_cut.2 ⟨hcv, hk⟩
    exact hc.imp (fun h => rch_step h h1) (fun h => rch_step h h1)
/-- Of a bridge: the start lies beyond. -/
theorem start_beyond {N : Nat} {l : List Ed} (hg : GoodG N l) {a j s : Nat} (h : Adj l a j) (hp : par N l a s) (hbr : ¬ Rch (Adj (cutE l a j)) j a) : Rch (Adj (cutE l a j)) j s := by
  refine Classical.byContradiction fun hs => ?_
  have hg' := cut_good hg a j
  have hp' := par_cut hg h hp
  have hj := (adj_low hg a j h).2
  let C : Nat → Bool := fun v => open Classical in decide (Rch (Adj (cutE l a j)) j v)
  have hC : ∀ v, C v = true ↔ Rch (Adj (cutE l a j)) j v := fun v => by simp only [C, decide_eq_true_eq]
  have h1 := hands (N := N) C (cutE l a j) hg'.ed fun e he => by
    obtain ⟨a0, a1, b0, b1, ne, _, _⟩ := hg'.ed e he
    have hadj : Adj (cutE l a j) e.a.toNat e.b.toNat := adj_iff.2 ⟨e, he, joins_iff.2 (by omega)⟩
    rw [Bool.eq_iff_iff, hC, hC]
    exact ⟨fun h => rch_step h hadj, fun h => rch_step h (adj_sym hadj)⟩
  have h2 := sumN_odd (f := fun i => if C i = true then deg (cutE l a j) i else 0) (v := j) (n := N) (by omega) (by
    rw [if_pos ((hC j).2 (rch_here _ _))]
    exact (hp' j (by omega)).2 (fun e => hs (by rw [← e.1 rfl]; exact rch_here _ _))) (fun i hi hij => by
      split
      · rename_i hc
        have hc := (hC i).1 hc
        have his : i ≠ s := fun e => hs (e ▸ hc)
        have : ¬ deg (cutE l a j) i % 2 = 1 := fun h => (hp' i hi).1 h ⟨fun e => absurd e hij, fun e => absurd e his⟩
        omega
      · rfl)
  omega
/-- There is a next one. -/
theorem fleury {N : Nat} {l : List Ed} (hg : GoodG N l) {a s : Nat} (hl : l ≠ []) (hp : par N l a s) (hc : conn N l a) : ∃ j, Adj l a j ∧ conn N (cutE l a j) j := by
  have hex : ∃ j, Adj l a j := Classical.byContradiction fun hno => by
    obtain ⟨e, l', rfl⟩ := List.exists_cons_of_ne_nil hl
    obtain ⟨a0, a1, b0, b1, ne, _, _⟩ := hg.ed e (List.mem_cons_self ..)
    have hadj : Adj (e :: l') e.a.toNat e.b.toNat := adj_iff.2 ⟨e, List.mem_cons_self .., joins_iff.2 (by omega)⟩
    have h1 := hc e.a.toNat (by omega) ((deg_pos hg).2 ⟨_, hadj⟩)
    have h2 : e.a.toNat = a := rch_closed (fun v => v = a) rfl (fun c v hc hcv => absurd ⟨v, hc ▸ hcv⟩ hno) h1
    exact hno ⟨_, h2 ▸ hadj⟩
  by_cases hnb : ∃ j, Adj l a j ∧ Rch (Adj (cutE l a j)) j a
  · obtain ⟨j, hj, hr⟩ := hnb
    refine ⟨j, hj, fun i hi hd => ?_⟩
    have h1 : 0 < deg l i := by have := deg_cut hg hj i; omega
    rcases rch_cut (j := j) (hc i hi h1) with h | h
    · exact rch_trans hr h
    · exact h
  · obtain ⟨j, hj⟩ := hex
    have hbr : ∀ k, Adj l a k → ¬ Rch (Adj (cutE l a k)) k a := fun k hk hr => hnb ⟨k, hk, hr⟩
    by_cases htwo : ∃ k, Adj l a k ∧ k ≠ j
    · obtain ⟨k, hk, hkj⟩ := htwo
      have h1 := start_beyond hg hj hp (hbr j hj)
      have h2 := start_beyond hg hk hp (hbr k hk)
      have h3 : Rch (Adj (cutE l a k)) j s := (rch_closed (fun v => Rch (Adj (cutE l a j)) j v ∧ Rch (Adj (cutE l a k)) j v) ⟨rch_here _ _, rch_here _ _⟩ (fun c v hcc hcv => by
        have h4 := rch_step hcc.1 hcv
        have hca : c ≠ a := fun e => hbr j hj (e ▸ hcc.1)
        have hva : v ≠ a := fun e => hbr j hj (e ▸ h4)
        exact ⟨h4, rch_step hcc.2 (adj_cut.2 ⟨(adj_cut.1 hcv).1, fun e => by omega⟩)⟩) h1).2
      have h5 : Adj (cutE l a k) j a := adj_cut.2 ⟨adj_sym hj, fun e => by omega⟩
      exact absurd (rch_step (rch_trans h2 (rch_sym h3)) h5) (hbr k hk)
    · refine ⟨j, hj, fun i hi hd => ?_⟩
      have h1 : 0 < deg l i := by have := deg_cut hg hj i; omega
      have hnone : ∀ v, ¬ Adj (cutE l a j) a v := fun v hv => by
        obtain ⟨q1, q2⟩ := adj_cut.1 hv
        by_cases hvj : v = j
        · exact q2 (.inl ⟨rfl, hvj⟩)
        · exact htwo ⟨v, q1, hvj⟩
      rcases rch_cut (j := j) (hc i hi h1) with h | h
      · have h2 : i = a := rch_closed (fun v => v = a) rfl (fun c v hc hcv => absurd (hc ▸ hcv) (hnone v)) h
        subst h2
        obtain ⟨v, hv⟩ := (deg_pos (cut_good hg i j)).1 hd
        exact absurd hv (hnone v)
      · exact h
end Go.Proofs.YtjkfogkpacmdlaaDoor
