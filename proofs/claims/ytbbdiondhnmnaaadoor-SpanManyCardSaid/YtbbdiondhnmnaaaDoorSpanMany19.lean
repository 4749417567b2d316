/- Good graphs in plain Lean: what the check lets through, neighbours as words, degrees. Conditions: none. -/
import Derived.Test.YtbbdiondhnmnaaaDoorSpanMany18
import Derived.Test.YtbbdiondhnmnaaaDoorSpanMany14
import Derived.Test.YtbbdiondhnmnaaaDoorSpanMany6
namespace Go.Proofs.YtbbdiondhnmnaaaDoor
open Go.RowKit

structure GoodE (N : Nat) (e : Ed) : Prop where
  a0 : 0 ≤ e.a
  a1 : e.a < N
  b0 : 0 ≤ e.b
  b1 : e.b < N
  ne : e.a ≠ e.b
  w0 : -1048576 ≤ e.w
  w1 : e.w ≤ 1048576
structure GoodG (N : Nat) (l : List Ed) : Prop where
  n10 : N ≤ 10
  m45 : l.length ≤ 45
  ed : ∀ e ∈ l, GoodE N e
  nd : l.Pairwise fun e f => (e.pair == f.pair) = false
theorem graphFrom_good {N : Nat} : ∀ (l pre : List Ed), graphFrom N pre l = 0 → (∀ e ∈ l, GoodE N e) ∧ (∀ e ∈ l, ∀ f ∈ pre, (f.pair == e.pair) = false) ∧ l.Pairwise fun e f => (e.pair == f.pair) = false
  | [], pre, _ => ⟨by simp, by simp, .nil⟩
  | e :: l, pre, h => by
    rw [graphFrom] at h
    split at h
    · rename_i h0
      obtain ⟨h1, h2, h3⟩ := graphFrom_good l _ h
      unfold edgeCode at h0
      split at h0
      · omega
      · split at h0
        · omega
        · split at h0
          · omega
          · split at h0
            · omega
            · rename_i q1 q2 q3 q4
              have hpre : ∀ f ∈ pre, (f.pair == e.pair) = false := fun f hf => by
                have := List.any_eq_false.1 (by simpa using q3 : pre.any (fun f => f.pair == e.pair) = false) f hf
                simpa using this
              refine ⟨fun x hx => ?_, fun x hx f hf => ?_, ?_⟩
              · rcases List.mem_cons.1 hx with rfl | hx
                · exact ⟨by omega, by omega, by omega, by omega, q2, by omega, by omega⟩
                · exact h1 x hx
              · rcases List.mem_cons.1 hx with rfl | hx
                · exact hpre f hf
                · exact h2 x hx f (List.mem_append_left _ hf)
              · exact .cons (fun x hx => h2 x hx e (by simp)) h3
    · rename_i h0; exact absurd h h0
theorem graph_good {N : Int} {l : List Ed} (h : graphCheck N l = 0) : ∃ n : Nat, N = n ∧ GoodG n l := by
  unfold graphCheck at h
  split at h
  · omega
  · rename_i hb
    obtain ⟨n, rfl⟩ := Int.eq_ofNat_of_zero_le (show 0 ≤ N by omega)
    obtain ⟨h1, _, h3⟩ := graphFrom_good l [] h
    exact ⟨n, rfl, by omega, by omega, h1, h3⟩

/-- Have two nodes an edge? -/
def joins (i j : Nat) (e : Ed) : Bool := decide ((e.a = i ∧ e.b = j) ∨ (e.a = j ∧ e.b = i))
def adj (l : List Ed) (i j : Nat) : Bool := l.any (joins i j)
theorem adj_symm (l : List Ed) (i j : Nat) : adj l i j = adj l j i := by
  unfold adj
  congr 1
  funext e
  unfold joins
  rw [decide_eq_decide]
  omega
def nearStep (t : List (BitVec 32)) (e : Ed) : List (BitVec 32) := (t.set e.a.toNat (wOr (lw t e.a.toNat) (wShl w1 e.b.toNat))).set e.b.toNat (wOr (lw t e.b.toNat) (wShl w1 e.a.toNat))
theorem nearStep_length (t : List (BitVec 32)) (e : Ed) : (nearStep t e).length = t.length := by simp [nearStep]
def nearL (N : Nat) (l : List Ed) : List (BitVec 32) := l.foldl nearStep (List.replicate N w0)
theorem foldl_near_length (l : List Ed) : ∀ t, (l.foldl nearStep t).length = t.length := by
  induction l with
  | nil => intro t; rfl
  | cons e l ih => intro t; rw [List.foldl_cons, ih, nearStep_length]
theorem nearL_length (N : Nat) (l : List Ed) : (nearL N l).length = N := by unfold nearL; rw [foldl_near_length]; simp
theorem nearL_snoc (N : Nat) (l : List Ed) (e : Ed) : nearL N (l ++ [e]) = nearStep (nearL N l) e := by simp [nearL, List.foldl_append]
theorem nearStep_bit {N : Nat} {t : List (BitVec 32)} {e : Ed} (ht : t.length = N) (he : GoodE N e) (hN : N ≤ 32) (i j : Nat) (hi : i < N) : (lw (nearStep t e) i).getLsbD j = ((lw t i).getLsbD j || joins i j e) := by
  obtain ⟨a0, a1, b0, b1, ne, _, _⟩ := he
  unfold nearStep joins
  obtain ⟨a, ha⟩ := Int.eq_ofNat_of_zero_le a0
  obtain ⟨b, hb⟩ := Int.eq_ofNat_of_zero_le b0
  rw [ha] at a1 ne
  rw [hb] at b1 ne
  rw [ha, hb]
  clear ha hb a0 b0
  simp only [Int.toNat_natCast]
  rw [lw_set _ _ (by rw [List.length_set]; omega), lw_set _ _ (by omega)]
  by_cases h1 : b = i
  · subst h1
    rw [if_pos rfl, b_or, b_one]
    congr 1
    rw [Bool.eq_iff_iff]
    simp
    omega
  · rw [if_neg h1]
    by_cases h2 : a = i
    · subst h2
      rw [if_pos rfl, b_or, b_one]
      congr 1
      rw [Bool.eq_iff_iff]
      simp
      omega
    · rw [if_neg h2]
      have : decide (((a : Int) = i ∧ (b : Int) = j) ∨ ((a : Int) = j ∧ (b : Int) = i)) = false := by simp; omega
      rw [this, Bool.or_false]
theorem foldl_near_bit {N : Nat} (hN : N ≤ 32) (i j : Nat) (hi : i < N) : ∀ (l : List Ed) (t : List (BitVec 32)), t.length = N → (∀ e ∈ l, GoodE N e) → (lw (l.foldl nearStep t) i).getLsbD j = ((lw t i).getLsbD j || adj l i j)
  | [], t, _, _ => by simp [adj]
  | e :: l, t, ht, hl => by
    rw [List.foldl_cons, foldl_near_bit hN i j hi l _ (by rw [nearStep_length, ht]) (fun x hx => hl x (List.mem_cons_of_mem _ hx)), nearStep_bit ht (hl e (by simp)) hN i j hi]
    simp [adj, Bool.or_assoc]
theorem near_bit {N : Nat} {l : List Ed} (h : GoodG N l) {i : Nat} (hi : i < N) (j : Nat) : (lw (nearL N l) i).getLsbD j = adj l i j := by
  unfold nearL
  rw [foldl_near_bit (by have := h.n10; omega) i j hi l _ (by simp) h.ed, lw_rep, b_0, Bool.false_or]

/-- How many edges a node has. -/
def touches (i : Int) (e : Ed) : Bool := decide (e.a = i ∨ e.b = i)
def deg (l : List Ed) (i : Int) : Nat := l.countP (touches i)
theorem countP_range_or (q : Nat → Bool) (o : Nat) (hq : q o = false) : ∀ n, (List.range n).countP (fun j => decide (j = o) || q j) = (List.range n).countP q + if o < n then 1 else 0
  | 0 => by simp
  | n + 1 => by
    rw [List.range_succ, List.countP_append, List.countP_append, countP_range_or q o hq n]
    simp only [List.countP_cons, List.countP_nil]
    by_cases h : n = o
    · subst h; simp [hq]
    · have : (o < n + 1) = (o < n) := by simp only [eq_iff_iff]; omega
      simp only [h, this, decide_false, Bool.false_or]
      omega
theorem countP_range_same {p q : Nat → Bool} (n : Nat) (h : ∀ j, j < n → p j = q j) : (List.range n).countP p = (List.range n).countP q := by
  refine List.countP_congr fun j hj => ?_
  rw [h j (List.mem_range.1 hj)]
theorem deg_count {N : Nat} (hN : N ≤ 32) (i : Nat) : ∀ (l : List Ed), (∀ e ∈ l, GoodE N e) → (l.Pairwise fun e f => (e.pair == f.pair) = false) → (List.range 32).countP (fun j => adj l i j) = deg l i
  | [], _, _ => by simp [adj, deg]
  | e :: l, hl, hp => by
    obtain ⟨h1, h2⟩ := List.pairwise_cons.1 hp
    have ih := deg_count hN i l (fun x hx => hl x (List.mem_cons_of_mem _ hx)) h2
    have he := hl e (by simp)
    unfold deg at ih ⊢
    rw [List.countP_cons, ← ih]
    have key : ∀ o : Nat, o < 32 → (∀ j, joins i j e = decide (j = o)) → touches i e = true → (List.range 32).countP (fun j => adj (e :: l) i j) = (List.range 32).countP (fun j => adj l i j) + if touches i e = true then 1 else 0 := by
      intro o ho hj ht
      have hno : adj l i o = false := by
        unfold adj
        rw [List.any_eq_false]
        intro f hf hfo
        have hpf := h1 f hf
        have hje := hj o
        simp only [decide_true] at hje
        unfold joins at hje hfo
        unfold Ed.pair at hpf
        rw [beq_eq_false_iff_ne, ne_eq, Prod.mk.injEq] at hpf
        simp only [decide_eq_true_eq] at hje hfo
        omega
      rw [if_pos ht, countP_range_same (q := fun j => decide (j = o) || adj l i j) 32 (fun j _ => by show (joins i j e || adj l i j) = _; rw [hj]), countP_range_or _ o hno, if_pos ho]
    obtain ⟨a, ha⟩ := Int.eq_ofNat_of_zero_le he.a0
    obtain ⟨b, hb⟩ := Int.eq_ofNat_of_zero_le he.b0
    have ha1 := he.a1
    have hb1 := he.b1
    have hne := he.ne
    by_cases h3 : a = i
    · exact key b (by omega) (fun j => by unfold joins; rw [decide_eq_decide]; omega) (by unfold touches; simp; omega)
    · by_cases h4 : b = i
      · exact key a (by omega) (fun j => by unfold joins; rw [decide_eq_decide]; omega) (by unfold touches; simp; omega)
      · have ht : touches i e = false := by unfold touches; simp; omega
        rw [ht]
        simp only [Bool.false_eq_true, if_false, Nat.add_zero]
        refine countP_range_same 32 fun j _ => ?_
        show (joins i j e || adj l i j) = _
        have : joins i j e = false := by unfold joins; simp; omega
        rw [this, Bool.false_or]
theorem pop_near {N : Nat} {l : List Ed} (h : GoodG N l) {i : Nat} (hi : i < N) : pop (lw (nearL N l) i) = deg l i := by
  have hN := h.n10
  rw [← deg_count (N := N) (by omega) i l h.ed h.nd]
  exact countP_range_same 32 fun j _ => near_bit h hi j
theorem deg_take_succ (l : List Ed) (i : Int) (k : Nat) (hk : k < l.length) : deg (l.take (k + 1)) i = deg (l.take k) i + if touches i l[k] = true then 1 else 0 := by
  unfold deg
  rw [List.take_succ_eq_append_getElem hk, List.countP_append]
  simp [List.countP_cons]
theorem deg_le (l : List Ed) (i : Int) : deg l i ≤ l.length := List.countP_le_length
end Go.Proofs.YtbbdiondhnmnaaaDoor
