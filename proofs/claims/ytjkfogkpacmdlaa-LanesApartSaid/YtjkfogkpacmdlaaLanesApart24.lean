/- Menger in plain Lean: as much flows as the smallest wall has members. Conditions: none. -/
import Derived.Test.YtjkfogkpacmdlaaLanesApart23
namespace Go.Proofs.Ytjkfogkpacmdlaa
open Go.RowKit

theorem popTo_or (x y : BitVec 32) : ∀ k, popTo (wOr x y) k ≤ popTo x k + popTo y k
  | 0 => Nat.zero_le _
  | k + 1 => by
    have h := popTo_or x y k
    rw [popTo_succ, popTo_succ, popTo_succ, bitB_nat, bitB_nat, bitB_nat, b_or]
    cases x.getLsbD k <;> cases y.getLsbD k <;> simp <;> omega
theorem pop_or (x y : BitVec 32) : pop (wOr x y) ≤ pop x + pop y := popTo_or x y 32
theorem popTo_one (i : Nat) : ∀ k, popTo (wShl w1 i) k ≤ if i < k then 1 else 0
  | 0 => Nat.zero_le _
  | k + 1 => by
    have h := popTo_one i k
    rw [popTo_succ, bitB_nat, b_one]
    by_cases h1 : k = i
    · subst h1
      rw [if_neg (Nat.lt_irrefl k)] at h
      rw [if_pos (Nat.lt_succ_self k)]
      split <;> omega
    · simp [h1]
      split at h <;> split <;> omega
theorem pop_one (i : Nat) : pop (wShl w1 i) ≤ 1 := by
  have := popTo_one i 32
  unfold pop
  split at this <;> omega
theorem capP_append (p : Int → Bool) : ∀ l k : List Arc, capP p (l ++ k) = capP p l + capP p k
  | [], k => by show capP p k = 0 + capP p k; omega
  | a :: l, k => by
    show (if p a.f && !p a.t then a.m else 0) + capP p (l ++ k) = ((if p a.f && !p a.t then a.m else 0) + capP p l) + capP p k
    rw [capP_append p l k]
    omega
theorem capP_none (p : Int → Bool) : ∀ l : List Arc, (∀ x ∈ l, p x.f = true → p x.t = true) → capP p l = 0
  | [], _ => rfl
  | a :: l, h => by
    unfold capP
    rw [capP_none p l fun x hx => h x (List.mem_cons_of_mem _ hx)]
    have := h a List.mem_cons_self
    cases h1 : p a.f
    · rfl
    · rw [this h1]
      rfl

/-- The one of a node of an arc that a set does not let in. -/
def ndA (N a b : Nat) (x : Arc) : Option Nat := if x.f < N then some x.f.toNat else if x.f = N + b then none else if x.f = N + a then some x.t.toNat else some (x.f - N).toNat
theorem ndA_in {N q : Nat} (a b : Nat) (hq : q < N) : ndA N a b (inA N q) = some q := by
  have : (inA N q).f = (q : Int) := rfl
  unfold ndA
  rw [this, if_pos (by omega)]
  simp
def ndW (o : Option Nat) : BitVec 32 := match o with
  | some i => wShl w1 i
  | none => w0
def wallO (N a b : Nat) (p : Int → Bool) : List Arc → BitVec 32
  | [] => w0
  | x :: l => if p x.f && !p x.t then wOr (ndW (ndA N a b x)) (wallO N a b p l) else wallO N a b p l
theorem pop_ndW (o : Option Nat) : pop (ndW o) ≤ 1 := by
  cases o with
  | none => show pop w0 ≤ 1; rw [pop_w0]; omega
  | some i => exact pop_one i
theorem wallO_pop (N a b : Nat) (p : Int → Bool) : ∀ l : List Arc, (∀ x ∈ l, x.m = 1) → (pop (wallO N a b p l) : Int) ≤ capP p l
  | [], _ => by show (pop w0 : Int) ≤ 0; rw [pop_w0]; omega
  | x :: l, h => by
    have h1 := wallO_pop N a b p l fun y hy => h y (List.mem_cons_of_mem _ hy)
    have h2 := h x List.mem_cons_self
    unfold wallO capP
    by_cases hc : (p x.f && !p x.t) = true
    · rw [if_pos hc, if_pos hc]
      have h3 := pop_or (ndW (ndA N a b x)) (wallO N a b p l)
      have h4 := pop_ndW (ndA N a b x)
      omega
    · rw [if_neg hc, if_neg hc]
      omega
theorem wallO_bit {N a b : Nat} {p : Int → Bool} {i : Nat} (hi : i < 32) : ∀ {l : List Arc}, (wallO N a b p l).getLsbD i = true ↔ ∃ x ∈ l, p x.f = true ∧ p x.t = false ∧ ndA N a b x = some i
  | [] => by
    show w0.getLsbD i = true ↔ _
    rw [b_0]
    simp
  | x :: l => by
    have ih := wallO_bit (N := N) (a := a) (b := b) (p := p) hi (l := l)
    unfold wallO
    have hnd : (ndW (ndA N a b x)).getLsbD i = true ↔ ndA N a b x = some i := by
      cases h : ndA N a b x with
      | none =>
        show w0.getLsbD i = true ↔ _
        rw [b_0]
        simp
      | some k =>
        show (wShl w1 k).getLsbD i = true ↔ _
        rw [b_one]
        simp [hi]
        exact eq_comm
    by_cases hc : (p x.f && !p x.t) = true
    · rw [if_pos hc, b_or, Bool.or_eq_true, hnd, ih]
      rw [Bool.and_eq_true, Bool.not_eq_true'] at hc
      constructor
      · rintro (h | ⟨y, hy, h⟩)
        · exact ⟨x, List.mem_cons_self, hc.1, hc.2, h⟩
        · exact ⟨y, List.mem_cons_of_mem _ hy, h⟩
      · rintro ⟨y, hy, h⟩
        rcases List.mem_cons.1 hy with rfl | hy
        · exact .inl h.2.2
        · exact .inr ⟨y, hy, h⟩
    · rw [if_neg hc, ih]
      rw [Bool.and_eq_true, Bool.not_eq_true'] at hc
      constructor
      · rintro ⟨y, hy, h⟩
        exact ⟨y, List.mem_cons_of_mem _ hy, h⟩
      · rintro ⟨y, hy, h⟩
        rcases List.mem_cons.1 hy with rfl | hy
        · exact absurd ⟨h.1, h.2.1⟩ hc
        · exact ⟨y, hy, h⟩
/-- May a word be a wall? -/
def WallOk (l : List Ed) (a b : Nat) (x : BitVec 32) : Prop := (x.getLsbD a = false ∧ x.getLsbD b = false) ∧ ¬ Rch (Adj (withoutE l x)) a b
/-- The arcs of an edge, both ways. -/
theorem adj_arc {N : Nat} {l : List Ed} {i j : Nat} (h : Adj l i j) : (⟨N + i, j, 1, 0⟩ : Arc) ∈ lnA N l := by
  unfold Adj adj at h
  rw [List.any_eq_true] at h
  obtain ⟨e, he, hj⟩ := h
  rcases of_decide_eq_true hj with ⟨h1, h2⟩ | ⟨h1, h2⟩
  · exact mem_lnA.2 (.inr ⟨e, he, .inl (by rw [h1, h2])⟩)
  · exact mem_lnA.2 (.inr ⟨e, he, .inr (by rw [h1, h2])⟩)
theorem lt_pow_of_bits {x : BitVec 32} {n : Nat} (h : ∀ j, x.getLsbD j = true → j < n) : x.toNat < 2 ^ n := by
  refine Nat.lt_pow_two_of_testBit _ fun i hi => ?_
  have : x.getLsbD i = x.toNat.testBit i := rfl
  rw [← this]
  rcases hb : x.getLsbD i with _ | _
  · rfl
  · have := h i hb
    omega
/-- Of a set that lets go so much: a wall with no more members. -/
theorem wall_of {N : Nat} {l : List Ed} (hg : GoodG N l) {a b : Nat} (ha : a < N) (hb : b < N) (hab : a ≠ b) (hadj : adj l a b = false) {p : Int → Bool} (ps : p ((N + a : Nat) : Int) = true) (pt : p (b : Int) = false) :
    ∃ k, k < 2 ^ N ∧ WallOk l a b (nw k) ∧ (pop (nw k) : Int) ≤ capP p (lnA N l) := by
  have hN := hg.n10
  obtain ⟨x, hx⟩ : ∃ x, x = wallO N a b p (lnA N l) := ⟨_, rfl⟩
  have hbit : ∀ i, i < 32 → (x.getLsbD i = true ↔ ∃ y ∈ lnA N l, p y.f = true ∧ p y.t = false ∧ ndA N a b y = some i) := fun i hi => by rw [hx]; exact wallO_bit hi
  have ps' : p ((N : Int) + a) = true := by rw [show ((N : Int) + a) = ((N + a : Nat) : Int) from by omega]; exact ps
  have hnd : ∀ y ∈ lnA N l, ∀ i, p y.f = true → p y.t = false → ndA N a b y = some i → i < N ∧ i ≠ a ∧ i ≠ b := fun y hy i h1 h2 h3 => by
    rcases mem_lnA.1 hy with ⟨q, hq, rfl⟩ | ⟨e, he, hye⟩
    · have h1' : p (q : Int) = true := h1
      have h2' : p ((N : Int) + q) = false := h2
      rw [ndA_in a b hq] at h3
      have : q = i := by simpa using h3
      subst this
      refine ⟨hq, fun e => ?_, fun e => ?_⟩
      · subst e; rw [ps'] at h2'; cases h2'
      · subst e; rw [pt] at h1'; cases h1'
    · have hE := hg.ed e he
      have g0 := hE.a0; have g1 := hE.a1; have g2 := hE.b0; have g3 := hE.b1
      have main : ∀ u v : Int, 0 ≤ u → u < N → 0 ≤ v → v < N → y = ⟨N + u, v, 1, 0⟩ → Adj l u.toNat v.toNat → u ≠ v → i < N ∧ i ≠ a ∧ i ≠ b := fun u v u0 u1 v0 v1 hy2 huv hne => by
        subst hy2
        have h2' : p v = false := h2
        unfold ndA at h3
        simp only at h3
        rw [if_neg (by omega)] at h3
        by_cases hub : u = b
        · rw [if_pos (by omega)] at h3; cases h3
        · rw [if_neg (by omega)] at h3
          by_cases hua : u = a
          · rw [if_pos (by omega)] at h3
            injection h3 with h3
            refine ⟨by omega, by omega, fun e => ?_⟩
            have e1 : u.toNat = a := by omega
            have e2 : v.toNat = b := by omega
            rw [e1, e2] at huv
            unfold Adj at huv
            rw [hadj] at huv
            cases huv
          · rw [if_neg (by omega)] at h3
            injection h3 with h3
            omega
      have hj1 : Adj l e.a.toNat e.b.toNat := by
        unfold Adj adj
        rw [List.any_eq_true]
        exact ⟨e, he, decide_eq_true (.inl ⟨by omega, by omega⟩)⟩
      rcases hye with hye | hye
      · exact main e.a e.b g0 g1 g2 g3 hye hj1 hE.ne
      · exact main e.b e.a g2 g3 g0 g1 hye (adj_sym hj1) (fun h => hE.ne h.symm)
  have hlow : ∀ i, x.getLsbD i = true → i < N ∧ i ≠ a ∧ i ≠ b := fun i hi => by
    rcases Nat.lt_or_ge i 32 with h | h
    · obtain ⟨y, hy, h1, h2, h3⟩ := (hbit i h).1 hi
      exact hnd y hy i h1 h2 h3
    · rw [b_ge x h] at hi; cases hi
  refine ⟨x.toNat, lt_pow_of_bits fun j hj => (hlow j hj).1, ?_, ?_⟩
  · rw [nw_toNat]
    refine ⟨⟨?_, ?_⟩, fun hr => ?_⟩
    · rcases h : x.getLsbD a with _ | _
      · rfl
      · exact absurd rfl (hlow a h).2.1
    · rcases h : x.getLsbD b with _ | _
      · rfl
      · exact absurd rfl (hlow b h).2.2
    · have := rch_closed (fun j => j ≠ b ∧ p ((N : Int) + j) = true) ⟨hab, ps'⟩ (fun c j hc hs => by
        obtain ⟨hcb, hpc⟩ := hc
        obtain ⟨h1, h2, h3⟩ := (adj_without l x c j).1 hs
        obtain ⟨hcN, hjN⟩ := adj_low hg c j h1
        have hpj : p (j : Int) = true := by
          rcases hpj : p (j : Int) with _ | _
          · exfalso
            by_cases hca : c = a
            · have := (hbit j (by omega)).2 ⟨_, adj_arc h1, hpc, hpj, by
                unfold ndA
                simp only
                rw [if_neg (by omega), if_neg (by omega), if_pos (by omega)]
                simp⟩
              rw [h3] at this; cases this
            · have := (hbit c (by omega)).2 ⟨_, adj_arc h1, hpc, hpj, by
                unfold ndA
                simp only
                rw [if_neg (by omega), if_neg (by omega), if_neg (by omega)]
                congr 1
                omega⟩
              rw [h2] at this; cases this
          · rfl
        refine ⟨fun e => by (rw [e, pt] at hpj; cases hpj), ?_⟩
        rcases hpj2 : p ((N : Int) + j) with _ | _
        · exfalso
          have := (hbit j (by omega)).2 ⟨inA N j, mem_lnA.2 (.inl ⟨j, hjN, rfl⟩), hpj, hpj2, ndA_in a b hjN⟩
          rw [h3] at this; cases this
        · rfl) hr
      exact this.1 rfl
  · rw [nw_toNat, hx]
    exact wallO_pop N a b p _ lnA_m
theorem cap_ins (N : Nat) (p : Int → Bool) (x : BitVec 32) (h : ∀ i : Nat, i < N → p (i : Int) = true → p ((N : Int) + i) = false → x.getLsbD i = true) : ∀ k, k ≤ N → capP p ((List.range k).map (inA N)) ≤ (popTo x k : Int)
  | 0, _ => by simp [capP]
  | k + 1, hk => by
    have ih := cap_ins N p x h k (by omega)
    rw [List.range_succ, List.map_append, capP_append, popTo_succ, bitB_nat]
    have e : capP p ([k].map (inA N)) = if p (k : Int) && !p ((N : Int) + k) then 1 else 0 := by
      show (if p (k : Int) && !p ((N : Int) + k) then 1 else 0) + 0 = _
      omega
    rw [e]
    have := h k (by omega)
    cases h1 : p (k : Int) <;> cases h2 : p ((N : Int) + k)
    · simp; omega
    · simp; omega
    · rw [this h1 h2]; simp; omega
    · simp; omega
theorem popTo_mono {x : BitVec 32} : ∀ {a b : Nat}, a ≤ b → popTo x a ≤ popTo x b
  | a, 0, h => by rw [Nat.le_zero.1 h]; exact Nat.le_refl _
  | a, b + 1, h => by
    rcases Nat.lt_or_ge a (b + 1) with h1 | h1
    · have := popTo_mono (x := x) (a := a) (b := b) (by omega)
      rw [popTo_succ]
      omega
    · rw [Nat.le_antisymm h h1]
      exact Nat.le_refl _
/-- No more goes than a wall has members. -/
theorem flow_wall {N : Nat} {l : List Ed} (hg : GoodG N l) {a b : Nat} (ha : a < N) (hb : b < N) {gs : List Int} {v : Int} (hf : FlowV (2 * N) (lnA N l) gs (N + a) b v) {x : BitVec 32} (hx : WallOk l a b x) : v ≤ (pop x : Int) := by
  have hN := hg.n10
  obtain ⟨⟨xa, xb⟩, hno⟩ := hx
  obtain ⟨r, hr⟩ := bool_of (fun i => Rch (Adj (withoutE l x)) a i)
  obtain ⟨p, hp⟩ : ∃ p : Int → Bool, p = fun i : Int => if i < N then (r i.toNat || x.getLsbD i.toNat) else r (i - N).toNat := ⟨_, rfl⟩
  have hp1 : ∀ i : Nat, i < N → p (i : Int) = (r i || x.getLsbD i) := fun i hi => by rw [hp]; simp only; rw [if_pos (by omega)]; simp
  have hp2 : ∀ i : Nat, p ((N : Int) + i) = r i := fun i => by
    rw [hp]
    simp only
    rw [if_neg (by omega)]
    congr 1
    omega
  have h1 := hf.weak (lnA_inN hg) (by omega) (p := p) (by
    rw [show (((N + a : Nat)) : Int) = (N : Int) + a from by omega, hp2]
    exact (hr a).2 (rch_here _ _)) (by
    rw [hp1 b hb, xb, Bool.or_false]
    rcases h : r b with _ | _
    · rfl
    · exact absurd ((hr b).1 h) hno)
  refine Int.le_trans h1 ?_
  unfold lnA
  rw [capP_append, capP_none p (l.flatMap (edA N)) fun y hy hpy => ?_]
  · have h2 := cap_ins N p x (fun i hi h3 h4 => by
      rw [hp1 i hi] at h3
      rw [hp2] at h4
      rw [h4] at h3
      simpa using h3) N (Nat.le_refl _)
    have h3 : popTo x N ≤ pop x := popTo_mono (by omega)
    omega
  · obtain ⟨e, he, hye⟩ := List.mem_flatMap.1 hy
    have hE := hg.ed e he
    have g0 := hE.a0; have g1 := hE.a1; have g2 := hE.b0; have g3 := hE.b1
    have main : ∀ u v : Nat, u < N → v < N → Adj l u v → p ((N : Int) + u) = true → p (v : Int) = true := fun u v hu hv huv hpu => by
      rw [hp2] at hpu
      rw [hp1 v hv]
      rcases hxv : x.getLsbD v with _ | _
      · rcases hxu : x.getLsbD u with _ | _
        · rw [(hr v).2 (rch_step ((hr u).1 hpu) ((adj_without l x u v).2 ⟨huv, hxu, hxv⟩))]
          rfl
        · exfalso
          have := rch_closed (fun j => j = a ∨ x.getLsbD j = false) (.inl rfl) (fun c j _ hs => .inr ((adj_without l x c j).1 hs).2.2) ((hr u).1 hpu)
          rcases this with h | h
          · rw [h, xa] at hxu; cases hxu
          · rw [h] at hxu; cases hxu
      · simp
    have hj1 : Adj l e.a.toNat e.b.toNat := by
      unfold Adj adj
      rw [List.any_eq_true]
      exact ⟨e, he, decide_eq_true (.inl ⟨by omega, by omega⟩)⟩
    unfold edA at hye
    simp only [List.mem_cons, List.not_mem_nil, or_false] at hye
    have ea : ((e.a.toNat : Nat) : Int) = e.a := by omega
    have eb : ((e.b.toNat : Nat) : Int) = e.b := by omega
    rcases hye with rfl | rfl
    · have := main _ _ (by omega) (by omega) hj1
      rw [ea, eb] at this
      exact this hpy
    · have := main _ _ (by omega) (by omega) (adj_sym hj1)
      rw [ea, eb] at this
      exact this hpy
theorem laneR_least (ok : Nat → Bool) : ∀ k, (∀ i, i < k → ok i = true → (laneR ok k).2 = true ∧ pop (laneR ok k).1 ≤ pop (nw i)) ∧ ((laneR ok k).2 = true → ∃ i, i < k ∧ ok i = true ∧ (laneR ok k).1 = nw i)
  | 0 => ⟨fun i h => by omega, fun h => by cases h⟩
  | k + 1 => by
    obtain ⟨h1, h2⟩ := laneR_least ok k
    by_cases hc : ok k = true ∧ ((laneR ok k).2 = false ∨ pop (nw k) < pop (laneR ok k).1)
    · rw [laneR_take hc.1 hc.2]
      refine ⟨fun i hi ho => ⟨rfl, ?_⟩, fun _ => ⟨k, by omega, hc.1, rfl⟩⟩
      show pop (nw k) ≤ pop (nw i)
      rcases Nat.lt_succ_iff_lt_or_eq.1 hi with hi | rfl
      · obtain ⟨h3, h4⟩ := h1 i hi ho
        rcases hc.2 with h5 | h5
        · rw [h3] at h5; cases h5
        · omega
      · exact Nat.le_refl _
    · have e : laneR ok (k + 1) = laneR ok k := by rw [laneR, if_neg hc]
      rw [e]
      refine ⟨fun i hi ho => ?_, fun h => ?_⟩
      · rcases Nat.lt_succ_iff_lt_or_eq.1 hi with hi | rfl
        · exact h1 i hi ho
        · rcases hf : (laneR ok i).2 with _ | _
          · exact absurd ⟨ho, .inl hf⟩ hc
          · refine ⟨rfl, ?_⟩
            rcases Nat.lt_or_ge (pop (nw i)) (pop (laneR ok i).1) with h | h
            · exact absurd ⟨ho, .inr h⟩ hc
            · exact h
      · obtain ⟨i, hi, h3⟩ := h2 h
        exact ⟨i, by omega, h3⟩
/-- MENGER: what flows is as much as the smallest wall has members. -/
theorem men_same {N : Nat} {l : List Ed} (hg : GoodG N l) {a b : Nat} (ha : a < N) (hb : b < N) (hab : a ≠ b) (hadj : adj l a b = false) {gs : List Int} {v : Int} (hf : FlowV (2 * N) (lnA N l) gs (N + a) b v) {p : Int → Bool} (ps : p ((N + a : Nat) : Int) = true) (pt : p (b : Int) = false) (hc : capP p (lnA N l) = v)
    {ok : Nat → Bool} (hok : ∀ k, ok k = true ↔ WallOk l a b (nw k)) : (pop (laneR ok (2 ^ N)).1 : Int) = v := by
  obtain ⟨k, hk, h1, h2⟩ := wall_of hg ha hb hab hadj ps pt
  obtain ⟨h3, h4⟩ := laneR_least ok (2 ^ N)
  obtain ⟨h5, h6⟩ := h3 k hk ((hok k).2 h1)
  obtain ⟨i, _, h7, h8⟩ := h4 h5
  have h9 := flow_wall hg ha hb hf ((hok i).1 h7)
  rw [h8] at h6 ⊢
  omega
end Go.Proofs.Ytjkfogkpacmdlaa
