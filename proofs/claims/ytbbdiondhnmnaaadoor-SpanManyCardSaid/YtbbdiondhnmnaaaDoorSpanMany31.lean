/- Two sides, in plain Lean. Conditions: none. -/
import Derived.Test.YtbbdiondhnmnaaaDoorSpanMany29
import Derived.Test.YtbbdiondhnmnaaaDoorSpanMany14
namespace Go.Proofs.YtbbdiondhnmnaaaDoor
open Go.RowKit

theorem adj_sym {l : List Ed} {i j : Nat} (h : Adj l i j) : Adj l j i := by
  unfold Adj at h ⊢
  rw [adj_symm]
  exact h
theorem wn_front {R : Nat → Nat → Prop} {a i : Nat} (h : R a i) : ∀ {m j : Nat}, Wn R i m j → Wn R a (m + 1) j
  | _, _, .start => .step .start h
  | _, _, .step h1 h2 => .step (wn_front h h1) h2
theorem wn_back {R : Nat → Nat → Prop} (hs : ∀ a b, R a b → R b a) {i : Nat} : ∀ {m j : Nat}, Wn R i m j → Wn R j m i
  | _, _, .start => .start
  | _, _, .step h1 h2 => wn_front (hs _ _ h2) (wn_back hs h1)
theorem rch_sym {l : List Ed} {i j : Nat} (h : Rch (Adj l) i j) : Rch (Adj l) j i := by
  obtain ⟨m, hm⟩ := h
  exact ⟨m, wn_back (fun _ _ => adj_sym) hm⟩
/-- On which side one is. -/
def SideIs (l : List Ed) (i : Nat) (v : Int) : Prop := ∃ (p : Nat) (x : Int), IsPart l i p ∧ DistIs (Adj l) p i x ∧ v = x.tmod 2
theorem SideIs.same {l : List Ed} {i : Nat} {v v' : Int} (h : SideIs l i v) (h' : SideIs l i v') : v = v' := by
  obtain ⟨p, x, h1, h2, h3⟩ := h
  obtain ⟨p', x', k1, k2, k3⟩ := h'
  obtain rfl := h1.same k1
  obtain rfl := h2.same k2
  rw [h3, k3]
def SidesL (l : List Ed) (L : List Int) : Prop := ∀ i, i < L.length → SideIs l i (L.getD i 0)
theorem SidesL.nil (l : List Ed) : SidesL l [] := fun i h => absurd h (by simp)
theorem SidesL.snoc {l : List Ed} {L : List Int} {v : Int} (h : SidesL l L) (hv : SideIs l L.length v) : SidesL l (L ++ [v]) := fun i hi => by
  rw [List.length_append, List.length_singleton] at hi
  by_cases hlt : i < L.length
  · have := h i hlt
    rwa [show (L ++ [v]).getD i 0 = L.getD i 0 from by simp [List.getD_eq_getElem?_getD, List.getElem?_append_left hlt]]
  · obtain rfl : i = L.length := by omega
    rwa [show (L ++ [v]).getD L.length 0 = v from by simp [List.getD_eq_getElem?_getD]]
theorem SidesL.same {l : List Ed} {L L' : List Int} (h : SidesL l L) (h' : SidesL l L') (hl : L.length = L'.length) : L = L' := by
  apply List.ext_getElem hl
  intro i h1 h2
  have e := h i h1
  have e' := h' i h2
  rw [getD_at L i h1] at e
  rw [getD_at L' i h2] at e'
  exact e.same e'
/-- Does an edge lie on one side? -/
def flatE (L : List Int) (e : Ed) : Bool := L.getD e.a.toNat 0 == L.getD e.b.toNat 0
def clash (l : List Ed) (L : List Int) : Bool := l.any (flatE L)
end Go.Proofs.YtbbdiondhnmnaaaDoor

/- A graph without some nodes, in plain Lean: the part that wants no walk. Conditions: none. -/
namespace Go.Proofs.YtbbdiondhnmnaaaDoor
open Go.RowKit

/-- Does an edge lie outside of a set? -/
def outE (x : BitVec 32) (e : Ed) : Bool := !bitB x e.a && !bitB x e.b
def withoutE (l : List Ed) (x : BitVec 32) : List Ed := l.filter (outE x)
theorem without_le (l : List Ed) (x : BitVec 32) : (withoutE l x).length ≤ l.length := List.length_filter_le _ _
theorem without_good {N : Nat} {l : List Ed} (h : GoodG N l) (x : BitVec 32) : GoodG N (withoutE l x) :=
  ⟨h.n10, Nat.le_trans (without_le l x) h.m45, fun e he => h.ed e (List.mem_filter.1 he).1, h.nd.filter _⟩
theorem without_snoc (l : List Ed) (x : BitVec 32) (k : Nat) (hk : k < l.length) : withoutE (l.take (k + 1)) x = withoutE (l.take k) x ++ if outE x l[k] = true then [l[k]] else [] := by
  unfold withoutE
  rw [List.take_succ_eq_append_getElem hk, List.filter_append]
  congr 1
  by_cases h : outE x l[k] = true <;> simp [h]
theorem adj_without (l : List Ed) (x : BitVec 32) (i j : Nat) : Adj (withoutE l x) i j ↔ Adj l i j ∧ x.getLsbD i = false ∧ x.getLsbD j = false := by
  unfold Adj adj withoutE
  rw [List.any_eq_true, List.any_eq_true]
  constructor
  · rintro ⟨e, he, hj⟩
    obtain ⟨h1, h2⟩ := List.mem_filter.1 he
    refine ⟨⟨e, h1, hj⟩, ?_⟩
    unfold outE at h2
    unfold joins at hj
    have hj := of_decide_eq_true hj
    rw [Bool.and_eq_true, Bool.not_eq_true', Bool.not_eq_true'] at h2
    rcases hj with ⟨a, b⟩ | ⟨a, b⟩
    · rw [a, b, bitB_nat, bitB_nat] at h2; exact h2
    · rw [a, b, bitB_nat, bitB_nat] at h2; exact ⟨h2.2, h2.1⟩
  · rintro ⟨⟨e, he, hj⟩, h1, h2⟩
    refine ⟨e, List.mem_filter.2 ⟨he, ?_⟩, hj⟩
    unfold outE
    unfold joins at hj
    have hj := of_decide_eq_true hj
    rcases hj with ⟨a, b⟩ | ⟨a, b⟩
    · rw [a, b, bitB_nat, bitB_nat, h1, h2]; rfl
    · rw [a, b, bitB_nat, bitB_nat, h1, h2]; rfl
theorem rch_trans {R : Nat → Nat → Prop} {a b c : Nat} (h : Rch R a b) (k : Rch R b c) : Rch R a c := by
  obtain ⟨m, hm⟩ := h
  obtain ⟨n, hn⟩ := k
  exact ⟨_, hm.cat hn⟩
theorem rch_here (R : Nat → Nat → Prop) (a : Nat) : Rch R a a := ⟨0, .start⟩
theorem rch_step {R : Nat → Nat → Prop} {a b c : Nat} (h : Rch R a b) (k : R b c) : Rch R a c := by
  obtain ⟨m, hm⟩ := h
  exact ⟨_, hm.step k⟩
/-- Two nodes lie in one part. -/
theorem part_iff {l : List Ed} {i j p q : Nat} (hi : IsPart l i p) (hj : IsPart l j q) : p = q ↔ Rch (Adj l) i j := by
  constructor
  · intro h
    subst h
    exact rch_trans hi.1 (rch_sym hj.1)
  · intro h
    rcases Nat.lt_trichotomy p q with e | e | e
    · exact (hj.2 p e (rch_trans (rch_sym h) hi.1)).elim
    · exact e
    · exact (hi.2 q e (rch_trans h hj.1)).elim
theorem part_le {l : List Ed} {i p : Nat} (h : IsPart l i p) : p ≤ i := by
  rcases Nat.lt_or_ge i p with e | e
  · exact (h.2 i e (rch_here _ _)).elim
  · exact e
theorem part_self {l : List Ed} {i p q : Nat} (h : IsPart l i p) (h' : IsPart l p q) : q = p := ((part_iff h' h).2 (rch_sym h.1))

/-- How many of a part are left; how many of the first parts have an odd number. -/
def cntP (p : Nat → Nat) (x : BitVec 32) (N i : Nat) : Nat := (List.range N).countP fun j => decide (p j = i) && !x.getLsbD j
def oddP (p : Nat → Nat) (x : BitVec 32) (N : Nat) : Nat → Nat
  | 0 => 0
  | k + 1 => oddP p x N k + cntP p x N k % 2
theorem oddP_le (p : Nat → Nat) (x : BitVec 32) (N : Nat) : ∀ k, oddP p x N k ≤ k
  | 0 => Nat.le_refl _
  | k + 1 => by
    have := oddP_le p x N k
    have h2 : cntP p x N k % 2 < 2 := Nat.mod_lt _ (by omega)
    rw [oddP]
    omega
theorem oddP_skip {p : Nat → Nat} {x : BitVec 32} {N k : Nat} : ∀ {m : Nat}, k ≤ m → (∀ c, k ≤ c → c < m → ∀ j, j < N → x.getLsbD j = false → p j ≠ c) → oddP p x N m = oddP p x N k
  | 0, hk, _ => by
    obtain rfl : k = 0 := by omega
    rfl
  | m + 1, hk, h => by
    by_cases he : k = m + 1
    · rw [he]
    · rw [oddP, oddP_skip (show k ≤ m by omega) (fun c h1 h2 => h c h1 (by omega))]
      have : cntP p x N m = 0 := by
        unfold cntP
        rw [List.countP_eq_zero]
        intro j hj
        rcases hx : x.getLsbD j with _ | _
        · have := h m (by omega) (by omega) j (List.mem_range.1 hj) hx
          simp [this]
        · simp
      rw [this]
      rfl
theorem pop_range {x : BitVec 32} {N : Nat} (hN : N ≤ 32) (h : ∀ j, x.getLsbD j = true → j < N) : pop x = (List.range N).countP fun j => x.getLsbD j := by
  unfold pop popTo
  have e : List.range 32 = List.range (N + (32 - N)) := by congr 1; omega
  rw [e, List.range_add, List.countP_append, List.countP_map]
  have : List.countP ((fun i => x.getLsbD i) ∘ fun y => N + y) (List.range (32 - N)) = 0 := by
    rw [List.countP_eq_zero]
    intro a _ ha
    have : N + a < N := h _ ha
    omega
  rw [this, Nat.add_zero]
end Go.Proofs.YtbbdiondhnmnaaaDoor
