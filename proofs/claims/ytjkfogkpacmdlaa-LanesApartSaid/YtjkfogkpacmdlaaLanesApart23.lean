/- Menger in plain Lean: a flow in the net of two halves a node, what goes out and what comes in, the next ones of each node. Conditions: none. -/
import Derived.Test.YtjkfogkpacmdlaaLanesApart14
import Derived.Test.YtjkfogkpacmdlaaLanesApart15
import Derived.Test.YtjkfogkpacmdlaaLanesApart22
namespace Go.Proofs.Ytjkfogkpacmdlaa
open Go.RowKit

/-- Where a node's flow goes, and where it comes from. -/
def outsA : List Arc → List Int → Int → List Int
  | a :: l, g :: gs, j => if a.f = j ∧ 0 < g then a.t :: outsA l gs j else outsA l gs j
  | _, _, _ => []
def insA : List Arc → List Int → Int → List Int
  | a :: l, g :: gs, j => if a.t = j ∧ 0 < g then a.f :: insA l gs j else insA l gs j
  | _, _, _ => []
theorem net_io : ∀ {l : List Arc} {gs : List Int}, CapOk l gs → (∀ a ∈ l, a.m = 1) → ∀ j, netO l gs j = ((outsA l gs j).length : Int) - ((insA l gs j).length : Int)
  | [], [], _, _, _ => rfl
  | a :: l, g :: gs, h, hm, j => by
    have h1 := net_io h.2 (fun b hb => hm b (List.mem_cons_of_mem _ hb)) j
    have h2 := h.1
    rw [hm a List.mem_cons_self] at h2
    unfold netO outsA insA
    rw [h1]
    by_cases hg : 0 < g
    · have : g = 1 := by omega
      subst this
      split <;> split <;> simp_all <;> omega
    · have : g = 0 := by omega
      subst this
      simp
  | [], g :: gs, h, _, _ => h.elim
  | a :: l, [], h, _, _ => h.elim
theorem count_io (x j : Int) : ∀ (l : List Arc) (gs : List Int), (outsA l gs j).count x = (insA l gs x).count j
  | [], [] => rfl
  | [], g :: gs => rfl
  | a :: l, [] => rfl
  | a :: l, g :: gs => by
    have h := count_io x j l gs
    unfold outsA insA
    by_cases hg : 0 < g
    · by_cases hf : a.f = j <;> by_cases ht : a.t = x <;> simp [hf, ht, hg, h, List.count_cons]
    · simp [hg, h]
theorem mem_outs {x j : Int} : ∀ {l : List Arc} {gs : List Int}, x ∈ outsA l gs j → ∃ (i : Nat), i < l.length ∧ (l.getD i z4).f = j ∧ (l.getD i z4).t = x ∧ 0 < gs.getD i 0
  | a :: l, g :: gs, h => by
    unfold outsA at h
    by_cases hc : a.f = j ∧ 0 < g
    · rw [if_pos hc] at h
      rcases List.mem_cons.1 h with rfl | h
      · exact ⟨0, by simp, hc.1, rfl, hc.2⟩
      · obtain ⟨i, h1, h2⟩ := mem_outs h
        exact ⟨i + 1, by simpa using h1, by simpa using h2⟩
    · rw [if_neg hc] at h
      obtain ⟨i, h1, h2⟩ := mem_outs h
      exact ⟨i + 1, by simpa using h1, by simpa using h2⟩
theorem outs_none {j : Int} : ∀ {l : List Arc} {gs : List Int}, (∀ i, i < l.length → (l.getD i z4).f = j → gs.getD i 0 ≤ 0) → outsA l gs j = [] := fun {l gs} h => by
  rcases hx : outsA l gs j with _ | ⟨x, r⟩
  · rfl
  · exfalso
    obtain ⟨i, h1, h2, _, h4⟩ := mem_outs (x := x) (by rw [hx]; exact List.mem_cons_self)
    have := h i h1 h2
    omega
theorem mem_io {l : List Arc} {gs : List Int} {x j : Int} : x ∈ outsA l gs j ↔ j ∈ insA l gs x := by
  rw [← List.count_pos_iff, ← List.count_pos_iff, count_io]
theorem ins_none {j : Int} {l : List Arc} {gs : List Int} (h : ∀ i, i < l.length → (l.getD i z4).t = j → gs.getD i 0 ≤ 0) : insA l gs j = [] := by
  rcases hx : insA l gs j with _ | ⟨x, r⟩
  · rfl
  · exfalso
    have hm : j ∈ outsA l gs x := mem_io.2 (by rw [hx]; exact List.mem_cons_self)
    obtain ⟨i, h1, _, h3, h4⟩ := mem_outs hm
    have := h i h1 h3
    omega
/-- As many of one arc alone. -/
theorem outs_one {j : Int} : ∀ {l : List Arc} {gs : List Int}, (∀ i k, i < l.length → k < l.length → (l.getD i z4).f = j → (l.getD k z4).f = j → i = k) → (outsA l gs j).length ≤ 1
  | [], [], _ => by simp [outsA]
  | [], g :: gs, _ => by simp [outsA]
  | a :: l, [], _ => by simp [outsA]
  | a :: l, g :: gs, h => by
    unfold outsA
    have h1 := outs_one (l := l) (gs := gs) (j := j) fun i k hi hk e1 e2 => by
      have := h (i + 1) (k + 1) (by simpa using hi) (by simpa using hk) (by simpa using e1) (by simpa using e2)
      omega
    by_cases hc : a.f = j ∧ 0 < g
    · rw [if_pos hc, outs_none (l := l) fun i hi e => by
        have := h 0 (i + 1) (by simp) (by simpa using hi) hc.1 (by simpa using e)
        omega]
      simp
    · rw [if_neg hc]
      exact h1
theorem ins_one {j : Int} : ∀ {l : List Arc} {gs : List Int}, (∀ i k, i < l.length → k < l.length → (l.getD i z4).t = j → (l.getD k z4).t = j → i = k) → (insA l gs j).length ≤ 1
  | [], [], _ => by simp [insA]
  | [], g :: gs, _ => by simp [insA]
  | a :: l, [], _ => by simp [insA]
  | a :: l, g :: gs, h => by
    unfold insA
    have h1 := ins_one (l := l) (gs := gs) (j := j) fun i k hi hk e1 e2 => by
      have := h (i + 1) (k + 1) (by simpa using hi) (by simpa using hk) (by simpa using e1) (by simpa using e2)
      omega
    by_cases hc : a.t = j ∧ 0 < g
    · rw [if_pos hc, ins_none (l := l) fun i hi e => by
        have := h 0 (i + 1) (by simp) (by simpa using hi) hc.1 (by simpa using e)
        omega]
      simp
    · rw [if_neg hc]
      exact h1

/-- The net: each node is two. -/
def inA (N : Nat) (i : Nat) : Arc := ⟨i, N + i, 1, 0⟩
def edA (N : Nat) (e : Ed) : List Arc := [⟨N + e.a, e.b, 1, 0⟩, ⟨N + e.b, e.a, 1, 0⟩]
def lnA (N : Nat) (l : List Ed) : List Arc := (List.range N).map (inA N) ++ l.flatMap (edA N)
theorem edsA_length (N : Nat) : ∀ l : List Ed, (l.flatMap (edA N)).length = 2 * l.length
  | [] => rfl
  | e :: l => by
    rw [List.flatMap_cons, List.length_append, edsA_length N l, List.length_cons]
    show 2 + _ = _
    omega
theorem lnA_length (N : Nat) (l : List Ed) : (lnA N l).length = N + 2 * l.length := by
  unfold lnA
  rw [List.length_append, List.length_map, List.length_range, edsA_length]
theorem mem_lnA {N : Nat} {l : List Ed} {x : Arc} : x ∈ lnA N l ↔ (∃ i, i < N ∧ x = inA N i) ∨ ∃ e ∈ l, x = ⟨N + e.a, e.b, 1, 0⟩ ∨ x = ⟨N + e.b, e.a, 1, 0⟩ := by
  unfold lnA
  rw [List.mem_append, List.mem_map, List.mem_flatMap]
  constructor
  · rintro (⟨i, hi, rfl⟩ | ⟨e, he, hx⟩)
    · exact .inl ⟨i, List.mem_range.1 hi, rfl⟩
    · unfold edA at hx
      simp only [List.mem_cons, List.not_mem_nil, or_false] at hx
      exact .inr ⟨e, he, hx⟩
  · rintro (⟨i, hi, rfl⟩ | ⟨e, he, hx⟩)
    · exact .inl ⟨i, List.mem_range.2 hi, rfl⟩
    · refine .inr ⟨e, he, ?_⟩
      unfold edA
      simp only [List.mem_cons, List.not_mem_nil, or_false]
      exact hx
theorem lnA_in {N : Nat} {l : List Ed} (i : Nat) (hi : i < N) : (lnA N l).getD i z4 = inA N i := by
  unfold lnA
  rw [List.getD_eq_getElem?_getD, List.getElem?_append_left (by simpa using hi), List.getElem?_map, List.getElem?_range hi]
  rfl
theorem lnA_ed {N : Nat} {l : List Ed} (i : Nat) (h0 : N ≤ i) (hi : i < (lnA N l).length) : ∃ e ∈ l, (lnA N l).getD i z4 = ⟨N + e.a, e.b, 1, 0⟩ ∨ (lnA N l).getD i z4 = ⟨N + e.b, e.a, 1, 0⟩ := by
  have hm : (lnA N l)[i] ∈ l.flatMap (edA N) := by
    have e : (lnA N l)[i]? = (l.flatMap (edA N))[i - N]? := by
      unfold lnA
      rw [List.getElem?_append_right (by simpa using h0)]
      simp
    rw [List.getElem?_eq_getElem hi] at e
    exact List.mem_of_getElem? e.symm
  rw [getD_at _ i hi]
  obtain ⟨e, he, hx⟩ := List.mem_flatMap.1 hm
  unfold edA at hx
  simp only [List.mem_cons, List.not_mem_nil, or_false] at hx
  exact ⟨e, he, hx⟩
theorem lnA_m {N : Nat} {l : List Ed} : ∀ a ∈ lnA N l, a.m = 1 := fun a ha => by
  rcases mem_lnA.1 ha with ⟨i, _, rfl⟩ | ⟨e, _, rfl | rfl⟩ <;> rfl
theorem lnA_inN {N : Nat} {l : List Ed} (hg : GoodG N l) : InN (2 * N) (lnA N l) := fun a ha => by
  rcases mem_lnA.1 ha with ⟨i, hi, rfl⟩ | ⟨e, he, rfl | rfl⟩
  · show 0 ≤ (i : Int) ∧ (i : Int) < _ ∧ 0 ≤ (N + i : Int) ∧ (N + i : Int) < _ ∧ (i : Int) ≠ N + i
    omega
  · have := hg.ed e he
    have h1 := this.a0; have h2 := this.a1; have h3 := this.b0; have h4 := this.b1; have h5 := this.ne
    show 0 ≤ (N + e.a : Int) ∧ (N + e.a : Int) < _ ∧ 0 ≤ (e.b : Int) ∧ (e.b : Int) < _ ∧ (N + e.a : Int) ≠ e.b
    omega
  · have := hg.ed e he
    have h1 := this.a0; have h2 := this.a1; have h3 := this.b0; have h4 := this.b1; have h5 := this.ne
    show 0 ≤ (N + e.b : Int) ∧ (N + e.b : Int) < _ ∧ 0 ≤ (e.a : Int) ∧ (e.a : Int) < _ ∧ (N + e.b : Int) ≠ e.a
    omega
/-- The next ones of each node, as the flow tells. -/
def nxA (N : Nat) (l : List Ed) (gs : List Int) (j : Int) : List Int := outsA (lnA N l) gs (N + j)
structure NxI (N : Nat) (l : List Ed) (a b : Nat) (v : Int) (nx : Int → List Int) : Prop where
  low : ∀ j x : Int, 0 ≤ j → j < N → x ∈ nx j → 0 ≤ x ∧ x < N ∧ Adj l j.toNat x.toNat ∧ x ≠ a
  one : ∀ j k x : Int, x ≠ b → x ∈ nx j → x ∈ nx k → j = k
  cnt : ∀ j x : Int, x ≠ b → 0 ≤ x → x < N → (nx j).count x ≤ 1
  go : ∀ j x : Int, 0 ≤ j → j < N → x ∈ nx j → x ≠ b → ∃ y, nx x = [y]
  src : ((nx a).length : Int) = v
theorem nx_ok {N : Nat} {l : List Ed} (hg : GoodG N l) {a b : Nat} (ha : a < N) (hb : b < N) (hab : a ≠ b) {gs : List Int} {v : Int} (hf : FlowV (2 * N) (lnA N l) gs (N + a) b v) (hz : FlowZ (lnA N l) gs ((N + a : Nat) : Int) (b : Int)) : NxI N l a b v (nxA N l gs) := by
  have hio := net_io hf.cap lnA_m
  have hlen := lnA_length N l
  have hmid : ∀ j : Nat, j < N → j ≠ b → ((outsA (lnA N l) gs j).length : Int) = (insA (lnA N l) gs j).length := fun j hj hne => by
    have := hio j
    rw [hf.mid j (by omega) (by omega) hne] at this
    omega
  have hout : ∀ j : Nat, j < N → j ≠ a → ((outsA (lnA N l) gs (N + j)).length : Int) = (insA (lnA N l) gs (N + j)).length := fun j hj hne => by
    have := hio ((N + j : Nat) : Int)
    rw [hf.mid (N + j) (by omega) (by omega) (by omega)] at this
    rw [show ((N + j : Nat) : Int) = (N : Int) + j from by omega] at this
    omega
  have hin1 : ∀ j : Nat, j < N → ∀ i, i < (lnA N l).length → ((lnA N l).getD i z4).t = (N : Int) + j → i = j := fun j hj i hi ht => by
    rcases Nat.lt_or_ge i N with h | h
    · rw [lnA_in i h] at ht
      have : (N + i : Int) = N + j := ht
      omega
    · obtain ⟨e, he, hx | hx⟩ := lnA_ed i h hi <;> rw [hx] at ht
      · have h1 := (hg.ed e he).b1
        have : e.b = (N : Int) + j := ht
        omega
      · have h1 := (hg.ed e he).a1
        have : e.a = (N : Int) + j := ht
        omega
  have hout1 : ∀ j : Nat, j < N → ∀ i, i < (lnA N l).length → ((lnA N l).getD i z4).f = (j : Int) → i = j := fun j hj i hi ht => by
    rcases Nat.lt_or_ge i N with h | h
    · rw [lnA_in i h] at ht
      have : (i : Int) = j := ht
      omega
    · obtain ⟨e, he, hx | hx⟩ := lnA_ed i h hi <;> rw [hx] at ht
      · have h1 := (hg.ed e he).a0
        have : (N : Int) + e.a = j := ht
        omega
      · have h1 := (hg.ed e he).b0
        have : (N : Int) + e.b = j := ht
        omega
  have hle : ∀ j : Nat, j < N → (outsA (lnA N l) gs j).length ≤ 1 := fun j hj => outs_one fun i k hi hk e1 e2 => by rw [hout1 j hj i hi e1, hout1 j hj k hk e2]
  have hle2 : ∀ j : Nat, j < N → (insA (lnA N l) gs (N + j)).length ≤ 1 := fun j hj => ins_one fun i k hi hk e1 e2 => by rw [hin1 j hj i hi e1, hin1 j hj k hk e2]
  have ha0 : insA (lnA N l) gs ((N : Int) + a) = [] := ins_none fun i hi e => by
    rw [hz i hi (.inl (by rw [e]; omega))]
    exact Int.le_refl _
  have hga : gs.getD a 0 = 0 := hz a (by omega) (.inl (by rw [lnA_in a ha]; show (N : Int) + a = _; omega))
  have hao : outsA (lnA N l) gs a = [] := outs_none fun i hi e => by
    rw [hout1 a ha i hi e, hga]
    exact Int.le_refl _
  have hai : insA (lnA N l) gs a = [] := by
    have := hmid a ha hab
    rw [hao] at this
    exact List.length_eq_zero_iff.1 (by simpa using this.symm)
  have hlow : ∀ j x : Int, 0 ≤ j → j < N → x ∈ nxA N l gs j → 0 ≤ x ∧ x < N ∧ Adj l j.toNat x.toNat ∧ x ≠ a := fun j x h0 h1 hx => by
    have hx' := hx
    obtain ⟨i, hi, e1, e2, e3⟩ := mem_outs hx
    have hne : x ≠ a := fun e => by
      have := mem_io.1 hx'
      rw [e, hai] at this
      cases this
    rcases Nat.lt_or_ge i N with h | h
    · rw [lnA_in i h] at e1
      have : (i : Int) = N + j := e1
      omega
    · obtain ⟨e, he, hx | hx⟩ := lnA_ed i h hi <;> rw [hx] at e1 e2
      · have g1 := (hg.ed e he).b0
        have g2 := (hg.ed e he).b1
        have e1' : (N : Int) + e.a = N + j := e1
        have e2' : e.b = x := e2
        refine ⟨by omega, by omega, ?_, hne⟩
        unfold Adj adj
        rw [List.any_eq_true]
        exact ⟨e, he, decide_eq_true (.inl ⟨by omega, by omega⟩)⟩
      · have g1 := (hg.ed e he).a0
        have g2 := (hg.ed e he).a1
        have e1' : (N : Int) + e.b = N + j := e1
        have e2' : e.a = x := e2
        refine ⟨by omega, by omega, ?_, hne⟩
        unfold Adj adj
        rw [List.any_eq_true]
        exact ⟨e, he, decide_eq_true (.inr ⟨by omega, by omega⟩)⟩
  have hins : ∀ x : Int, 0 ≤ x → x < N → x ≠ b → (insA (lnA N l) gs x).length ≤ 1 := fun x h0 h1 hne => by
    obtain ⟨k, rfl⟩ : ∃ k : Nat, x = k := ⟨x.toNat, by omega⟩
    have := hmid k (by omega) (by omega)
    have := hle k (by omega)
    omega
  refine ⟨hlow, fun j k x hne hj hk => ?_, fun j x hne h0 h1 => ?_, fun j x h0 h1 hx hne => ?_, ?_⟩
  · obtain ⟨i, hi, e1, e2, e3⟩ := mem_outs hj
    have hx0 : 0 ≤ x ∧ x < 2 * N := by
      have := lnA_inN hg _ (by rw [getD_at _ i hi]; exact List.getElem_mem hi : (lnA N l).getD i z4 ∈ lnA N l)
      rw [e2] at this
      omega
    have m1 := mem_io.1 hj
    have m2 := mem_io.1 hk
    have hl1 : (insA (lnA N l) gs x).length ≤ 1 := by
      rcases Int.lt_or_le x N with h | h
      · exact hins x hx0.1 h hne
      · obtain ⟨q, rfl⟩ : ∃ q : Nat, x = (N : Int) + q := ⟨(x - N).toNat, by omega⟩
        exact hle2 q (by omega)
    have : (N : Int) + j = N + k := by
      rcases hL : insA (lnA N l) gs x with _ | ⟨y, r⟩
      · rw [hL] at m1; cases m1
      · rw [hL] at hl1 m1 m2
        have : r = [] := List.length_eq_zero_iff.1 (by simp at hl1; simp [hl1])
        subst this
        rw [List.mem_singleton] at m1 m2
        rw [m1, m2]
    omega
  · show (outsA _ _ _).count x ≤ 1
    rw [count_io]
    exact Nat.le_trans List.count_le_length (hins x h0 h1 hne)
  · obtain ⟨g0, g1, _, g3⟩ := hlow j x h0 h1 hx
    obtain ⟨k, rfl⟩ : ∃ k : Nat, x = k := ⟨x.toNat, by omega⟩
    have m1 := mem_io.1 hx
    have e1 := hmid k (by omega) (by omega)
    have e2 := hout k (by omega) (by omega)
    have e3 := hle2 k (by omega)
    have p1 : 0 < (insA (lnA N l) gs k).length := List.length_pos_of_mem m1
    obtain ⟨y, hy⟩ : ∃ y, y ∈ outsA (lnA N l) gs k := by
      rcases hL : outsA (lnA N l) gs k with _ | ⟨y, r⟩
      · rw [hL] at e1; simp at e1; omega
      · exact ⟨y, List.mem_cons_self⟩
    obtain ⟨i, hi, f1, f2, f3⟩ := mem_outs hy
    have hik := hout1 k (by omega) i hi f1
    subst hik
    rw [lnA_in i (by omega)] at f2
    have hm2 : (i : Int) ∈ insA (lnA N l) gs (N + i) := by
      have f2' : (N : Int) + i = y := f2
      rw [f2']
      exact mem_io.1 hy
    have p2 := List.length_pos_of_mem hm2
    show ∃ y, outsA _ _ _ = [y]
    exact List.length_eq_one_iff.1 (by omega)
  · have := hio ((N + a : Nat) : Int)
    rw [hf.src, show ((N + a : Nat) : Int) = (N : Int) + a from by omega, ha0] at this
    show ((outsA _ _ _).length : Int) = v
    simp at this
    omega

/-- What has been met so far. -/
structure MetI (N a b : Nat) (nx : Int → List Int) (S : List Int) (k : Nat) : Prop where
  nd : S.Nodup
  low : ∀ x ∈ S, 0 ≤ x ∧ x < N ∧ x ≠ a ∧ x ≠ b
  pre : ∀ (q : Nat) (x : Int), S[q]? = some x → x ∈ (nx a).take k ∨ ∃ (p : Nat) (y : Int), q = p + 1 ∧ S[p]? = some y ∧ x ∈ nx y
theorem MetI.nil (N a b : Nat) (nx : Int → List Int) : MetI N a b nx [] 0 := ⟨List.nodup_nil, fun x hx => (by cases hx), fun q x hq => by simp at hq⟩
theorem MetI.fresh {N : Nat} {l : List Ed} {a b : Nat} {v : Int} {nx : Int → List Int} (h : NxI N l a b v nx) {S : List Int} {k : Nat} (hm : MetI N a b nx S k) (ha : a < N) (hab : adj l a b = false) (hne : a ≠ b) {x : Int} (hx : (nx a)[k]? = some x) : x ∉ S ∧ 0 ≤ x ∧ x < N ∧ x ≠ a ∧ x ≠ b ∧ Adj l a x.toNat := by
  have hxm := List.mem_of_getElem? hx
  obtain ⟨h1, h2, h3, h4⟩ := h.low a x (by omega) (by omega) hxm
  have h3' : Adj l a x.toNat := by simpa using h3
  have hxb : x ≠ b := fun e => by
    rw [e] at h3'
    unfold Adj at h3'
    simp [hab] at h3'
  refine ⟨fun hs => ?_, h1, h2, h4, hxb, h3'⟩
  obtain ⟨q, hq⟩ := List.getElem?_of_mem hs
  rcases hm.pre q x hq with hp | ⟨p, y, _, hp, hy⟩
  · have hc := h.cnt a x hxb h1 h2
    have hlt : k < (nx a).length := (List.getElem?_eq_some_iff.1 hx).1
    have e : nx a = (nx a).take k ++ x :: (nx a).drop (k + 1) := by
      conv => lhs; rw [← List.take_append_drop k (nx a), List.drop_eq_getElem_cons hlt]
      rw [(List.getElem?_eq_some_iff.1 hx).2]
    rw [e, List.count_append, List.count_cons_self] at hc
    have := List.count_pos_iff.2 hp
    omega
  · have := h.one a y x hxb hxm hy
    have hym := (hm.low y (List.mem_of_getElem? hp)).2.2.1
    exact hym this.symm
theorem MetI.start {N : Nat} {l : List Ed} {a b : Nat} {v : Int} {nx : Int → List Int} (h : NxI N l a b v nx) {S : List Int} {k : Nat} (hm : MetI N a b nx S k) (ha : a < N) (hab : adj l a b = false) (hne : a ≠ b) {x : Int} (hx : (nx a)[k]? = some x) : MetI N a b nx (S ++ [x]) (k + 1) := by
  obtain ⟨h0, h1, h2, h3, h4, _⟩ := hm.fresh h ha hab hne hx
  refine ⟨List.nodup_append.2 ⟨hm.nd, by simp, fun c hc d hd => by rw [List.mem_singleton] at hd; subst hd; exact fun e => h0 (e ▸ hc)⟩, fun y hy => ?_, fun q y hq => ?_⟩
  · rcases List.mem_append.1 hy with hy | hy
    · exact hm.low y hy
    · rw [List.mem_singleton] at hy; subst hy; exact ⟨h1, h2, h3, h4⟩
  · rcases Nat.lt_or_ge q S.length with hl | hl
    · rw [List.getElem?_append_left hl] at hq
      rcases hm.pre q y hq with hp | ⟨p, z, rfl, hp, hz⟩
      · exact .inl (List.IsPrefix.subset (List.take_prefix_take_left (by omega)) hp)
      · exact .inr ⟨p, z, rfl, by rw [List.getElem?_append_left (by omega)]; exact hp, hz⟩
    · rw [List.getElem?_append_right hl] at hq
      have hq0 : q - S.length = 0 := by
        rcases Nat.eq_zero_or_pos (q - S.length) with h | h
        · exact h
        · rw [List.getElem?_eq_none (by simp; omega)] at hq; cases hq
      rw [hq0] at hq
      simp at hq
      subst hq
      refine .inl ?_
      rw [List.take_add_one, hx]
      simp
/-- One further on a way. -/
theorem MetI.step {N : Nat} {l : List Ed} {a b : Nat} {v : Int} {nx : Int → List Int} (h : NxI N l a b v nx) {S : List Int} {k : Nat} {j x : Int} (hm : MetI N a b nx (S ++ [j]) k) (hx : nx j = [x]) (hxb : x ≠ b) : MetI N a b nx (S ++ [j] ++ [x]) k := by
  obtain ⟨j0, j1, j2, j3⟩ := hm.low j (by simp)
  have hxj : x ∈ nx j := by rw [hx]; exact List.mem_cons_self
  obtain ⟨x0, x1, _, x3⟩ := h.low j x j0 j1 hxj
  have hfresh : x ∉ S ++ [j] := fun hs => by
    obtain ⟨q, hq⟩ := List.getElem?_of_mem hs
    rcases hm.pre q x hq with hp | ⟨p, y, rfl, hp, hy⟩
    · have := h.one j a x hxb hxj (List.mem_of_mem_take hp)
      exact j2 this
    · have hjy := h.one j y x hxb hxj hy
      subst hjy
      have hql := (List.getElem?_eq_some_iff.1 hq).1
      simp at hql
      have hlast : (S ++ [j])[S.length]? = some j := by simp
      have hpl := (List.getElem?_eq_some_iff.1 hp).1
      have := (List.getElem?_inj hpl hm.nd).1 (hp.trans hlast.symm)
      omega
  refine ⟨List.nodup_append.2 ⟨hm.nd, by simp, fun c hc d hd => by rw [List.mem_singleton] at hd; subst hd; exact fun e => hfresh (e ▸ hc)⟩, fun y hy => ?_, fun q y hq => ?_⟩
  · rcases List.mem_append.1 hy with hy | hy
    · exact hm.low y hy
    · rw [List.mem_singleton] at hy; subst hy; exact ⟨x0, x1, x3, hxb⟩
  · rcases Nat.lt_or_ge q (S ++ [j]).length with hl | hl
    · rw [List.getElem?_append_left hl] at hq
      rcases hm.pre q y hq with hp | ⟨p, z, rfl, hp, hz⟩
      · exact .inl hp
      · exact .inr ⟨p, z, rfl, by rw [List.getElem?_append_left (by omega)]; exact hp, hz⟩
    · rw [List.getElem?_append_right hl] at hq
      have hq0 : q - (S ++ [j]).length = 0 := by
        rcases Nat.eq_zero_or_pos (q - (S ++ [j]).length) with h | h
        · exact h
        · rw [List.getElem?_eq_none (by simp at h ⊢; omega)] at hq; cases hq
      rw [hq0] at hq
      simp at hq
      subst hq
      have hql : q = S.length + 1 := by simp at hq0 hl; omega
      exact .inr ⟨S.length, j, hql, by simp, hxj⟩
theorem MetI.short {N a b : Nat} {nx : Int → List Int} {S : List Int} {k : Nat} (hm : MetI N a b nx S k) : S.length ≤ N := nodup_short hm.nd fun x hx => ⟨(hm.low x hx).1, (hm.low x hx).2.1⟩
end Go.Proofs.Ytjkfogkpacmdlaa
