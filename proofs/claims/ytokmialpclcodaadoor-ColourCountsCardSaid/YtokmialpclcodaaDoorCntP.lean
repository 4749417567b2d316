/- Colourings by so many colours, counted class by class; in plain Lean. Conditions: none. -/
import Derived.Test.YtokmialpclcodaaDoorStanP
import Derived.Test.YtokmialpclcodaaDoorTurnP
import Derived.Test.YtokmialpclcodaaDoorHueP
namespace Go.Proofs.YtokmialpclcodaaDoor
open Go.RowKit

section
variable {n : Nat} {A : BitVec 32 → Bool}
theorem prt_off {w s : BitVec 32} {x : Nat} (hn : n ≤ 32) (hx : x < n) (hs : Prt n (wBut w (wShl w1 x)) s) : s.getLsbD x = false := by
  cases hb : s.getLsbD x with
  | false => rfl
  | true =>
    have := (hs x hb).2
    rw [b_but, one_bit (by omega)] at this
    simp at this
/-- The first set may be the set of any. -/
theorem PW_x (hn : n ≤ 32) (hA0 : A w0 = true) {x : Nat} (hx : x < n) : ∀ (K : Nat) {w : BitVec 32}, InW n w → w.getLsbD x = true → PW n A w K = K * QW n A w x K
  | 0, w, hw, h1 => by
    rw [show ((0 : Nat) : Int) = 0 from rfl, PW_zero hn hw (ne_zero_of h1), Int.zero_mul]
  | K + 1, w, hw, h1 => by
    have ih := fun {w : BitVec 32} => PW_x hn hA0 hx K (w := w)
    have hk : ((K + 1 : Nat) : Int) - 1 = (K : Int) := by omega
    rw [PW_last hn hA0 (popTo w n) (Nat.le_refl _) hw, SW_ins hn hx h1]
    have hq : SW n (wBut w (wShl w1 x)) (fun t => if A (wOr t (wShl w1 x)) = true then PW n A (wBut w (wOr t (wShl w1 x))) (((K + 1 : Nat) : Int) - 1) else 0) = QW n A w x ((K + 1 : Nat) : Int) := rfl
    rw [hq]
    have hfirst : SW n (wBut w (wShl w1 x)) (fun s => if A s = true then PW n A (wBut w s) (((K + 1 : Nat) : Int) - 1) else 0) = (K : Int) * QW n A w x ((K + 1 : Nat) : Int) := by
      rw [hk]
      have e1 : SW n (wBut w (wShl w1 x)) (fun s => if A s = true then PW n A (wBut w s) (K : Int) else 0) = SW n (wBut w (wShl w1 x)) (fun s => SW n (wBut (wBut w (wShl w1 x)) s) (fun t => if A s = true ∧ A (wOr t (wShl w1 x)) = true then (K : Int) * PW n A (wBut (wBut w (wOr t (wShl w1 x))) s) ((K : Int) - 1) else 0)) := SW_congr hn fun s hs => by
        have hsx := prt_off hn hx hs
        have hwx : (wBut w s).getLsbD x = true := by rw [b_but, h1, hsx]; rfl
        by_cases hAs : A s = true
        · rw [if_pos hAs, ih (in_but hw s) hwx]
          unfold QW
          rw [← SW_mul, but_swap w s]
          refine SW_congr hn fun t _ => ?_
          by_cases hAt : A (wOr t (wShl w1 x)) = true
          · rw [if_pos hAt, if_pos ⟨hAs, hAt⟩, but_swap w s]
          · rw [if_neg hAt, if_neg (fun h => hAt h.2), Int.mul_zero]
        · rw [if_neg hAs]
          rw [SW_congr (g := fun _ => 0) hn fun t _ => if_neg (fun h => hAs h.1), SW_zero]
      rw [e1, SW_swap _ hn]
      unfold QW
      rw [← SW_mul]
      refine SW_congr hn fun t ht => ?_
      by_cases hAt : A (wOr t (wShl w1 x)) = true
      · rw [if_pos hAt, hk]
        rw [PW_last hn hA0 _ (Nat.le_refl _) (in_but hw (wOr t (wShl w1 x))) (K : Int), ← SW_mul, but_or]
        refine SW_congr hn fun s _ => ?_
        by_cases hAs : A s = true
        · rw [if_pos ⟨hAs, hAt⟩, if_pos hAs]
        · rw [if_neg (fun h => hAs h.1), if_neg hAs, Int.mul_zero]
      · rw [if_neg hAt, Int.mul_zero]
        rw [SW_congr (g := fun _ => 0) hn fun s _ => if_neg (fun h => hAt h.2), SW_zero]
    rw [hfirst, show ((K + 1 : Nat) : Int) = (K : Int) + 1 by omega, Int.add_mul, Int.one_mul]
/-- In how many ways w can be coloured by K new colours and those of some classes. -/
def Z (n : Nat) (A : BitVec 32 → Bool) : List (BitVec 32) → BitVec 32 → Int → Int
  | [], w, K => PW n A w K
  | C :: Cs, w, K => SW n w (fun s => if A (wOr C s) = true then Z n A Cs (wBut w s) K else 0)
theorem or_comm' (a b : BitVec 32) : wOr a b = wOr b a := w_ext fun j _ => by rw [b_or, b_or, Bool.or_comm]
theorem or_or (a b c : BitVec 32) : wOr a (wOr b c) = wOr (wOr a c) b := w_ext fun j _ => by rw [b_or, b_or, b_or, b_or]; cases a.getLsbD j <;> cases b.getLsbD j <;> cases c.getLsbD j <;> rfl
theorem Z_step (hn : n ≤ 32) (hA0 : A w0 = true) {x : Nat} (hx : x < n) (K : Nat) : ∀ (Cs : List (BitVec 32)) {w : BitVec 32}, InW n w → w.getLsbD x = true →
    Z n A Cs w K = sm (fun c => Z n A (Cs.set c (wOr (lw Cs c) (wShl w1 x))) (wBut w (wShl w1 x)) K) Cs.length + K * Z n A (Cs ++ [wShl w1 x]) (wBut w (wShl w1 x)) ((K : Int) - 1)
  | [], w, hw, h1 => by
    rw [Z, PW_x hn hA0 hx K hw h1]
    have : Z n A ([] ++ [wShl w1 x]) (wBut w (wShl w1 x)) ((K : Int) - 1) = QW n A w x K := by
      rw [List.nil_append, Z]
      unfold QW
      refine SW_congr hn fun t _ => ?_
      rw [or_comm' (wShl w1 x) t, Z, but_or]
    rw [this]
    show _ = 0 + _
    omega
  | C :: Cs, w, hw, h1 => by
    have ih := fun {w : BitVec 32} => Z_step hn hA0 hx K Cs (w := w)
    rw [Z, SW_ins hn hx h1]
    have e2 : SW n (wBut w (wShl w1 x)) (fun t => if A (wOr C (wOr t (wShl w1 x))) = true then Z n A Cs (wBut w (wOr t (wShl w1 x))) K else 0) = Z n A (wOr C (wShl w1 x) :: Cs) (wBut w (wShl w1 x)) K := by
      rw [Z]
      refine SW_congr hn fun t _ => ?_
      rw [or_or C t, but_or]
    rw [e2]
    have e1 : SW n (wBut w (wShl w1 x)) (fun s => if A (wOr C s) = true then Z n A Cs (wBut w s) K else 0) = sm (fun c => Z n A (C :: Cs.set c (wOr (lw Cs c) (wShl w1 x))) (wBut w (wShl w1 x)) K) Cs.length + K * Z n A (C :: (Cs ++ [wShl w1 x])) (wBut w (wShl w1 x)) ((K : Int) - 1) := by
      have e3 : SW n (wBut w (wShl w1 x)) (fun s => if A (wOr C s) = true then Z n A Cs (wBut w s) K else 0) = SW n (wBut w (wShl w1 x)) (fun s => sm (fun c => if A (wOr C s) = true then Z n A (Cs.set c (wOr (lw Cs c) (wShl w1 x))) (wBut (wBut w (wShl w1 x)) s) K else 0) Cs.length + K * (if A (wOr C s) = true then Z n A (Cs ++ [wShl w1 x]) (wBut (wBut w (wShl w1 x)) s) ((K : Int) - 1) else 0)) := SW_congr hn fun s hs => by
        have hsx := prt_off hn hx hs
        have hwx : (wBut w s).getLsbD x = true := by rw [b_but, h1, hsx]; rfl
        by_cases hA : A (wOr C s) = true
        · simp only [if_pos hA]
          rw [ih (in_but hw s) hwx, but_swap w s]
        · simp only [if_neg hA]
          rw [sm_zero, Int.mul_zero]
          rfl
      rw [e3, SW_add, SW_sm, SW_mul]
      rfl
    rw [e1, List.length_cons, sm_shift]
    have e4 : Z n A ((C :: Cs).set 0 (wOr (lw (C :: Cs) 0) (wShl w1 x))) (wBut w (wShl w1 x)) K = Z n A (wOr C (wShl w1 x) :: Cs) (wBut w (wShl w1 x)) K := rfl
    rw [e4]
    have e5 : sm (fun k => Z n A ((C :: Cs).set (k + 1) (wOr (lw (C :: Cs) (k + 1)) (wShl w1 x))) (wBut w (wShl w1 x)) K) Cs.length = sm (fun c => Z n A (C :: Cs.set c (wOr (lw Cs c) (wShl w1 x))) (wBut w (wShl w1 x)) K) Cs.length := sm_congr _ fun k _ => rfl
    rw [e5]
    rw [List.cons_append]
    omega
theorem Z_bad (hn : n ≤ 32) {K : Int} : ∀ (Cs : List (BitVec 32)) (c : Nat) {w : BitVec 32}, c < Cs.length → (∀ s, A (wOr (lw Cs c) s) = false) → Z n A Cs w K = 0
  | [], c, w, h, _ => absurd h (by simp)
  | C :: Cs, 0, w, _, h => by
    rw [Z, SW_congr (g := fun _ => 0) hn fun s _ => ?_, SW_zero]
    have : A (wOr C s) = false := h s
    rw [this]
    rfl
  | C :: Cs, c + 1, w, hc, h => by
    rw [Z, SW_congr (g := fun _ => 0) hn fun s _ => ?_, SW_zero]
    split
    · exact Z_bad hn Cs c (by simpa using hc) h
    · rfl
theorem Z_word0 {K : Int} : ∀ (Cs : List (BitVec 32)), (∀ C ∈ Cs, A C = true) → Z n A Cs w0 K = 1
  | [], _ => PW_0 K
  | C :: Cs, h => by
    have e : wOr C w0 = C := w_ext fun j _ => by rw [b_or, b_0, Bool.or_false]
    rw [Z, SW_word0, e, if_pos (h C (by simp)), but_0]
    exact Z_word0 Cs fun C' h' => h C' (by simp [h'])
end
/-! The program's count. -/
def tmC (es : List Ed) (K : Nat) (rec : List Nat → Nat → Int) (l : List Nat) (u c : Nat) : Int := if c = u then ((K : Int) - u) * rec (l ++ [c]) (u + 1) else rec (l ++ [c]) u
def cntF (es : List Ed) (K : Nat) : Nat → List Nat → Nat → Int
  | 0, _, _ => 1
  | f + 1, l, u => sm (fun c => if okC es l c = true then tmC es K (cntF es K f) l u c else 0) (min (u + 1) K)
theorem sm_cap {f : Nat → Int} {B : Int} : ∀ t, (∀ c, c < t → f c ≤ B) → sm f t ≤ t * B
  | 0, _ => by simp [sm]
  | t + 1, h => by
    rw [sm_succ, show ((t + 1 : Nat) : Int) = (t : Int) + 1 by omega, Int.add_mul, Int.one_mul]
    have := sm_cap t fun c hc => h c (by omega)
    have := h t (by omega)
    omega
theorem cntF_b (es : List Ed) (K : Nat) : ∀ (f : Nat) (l : List Nat) (u : Nat), u ≤ K → 0 ≤ cntF es K f l u ∧ cntF es K f l u ≤ (K : Int) ^ f
  | 0, l, u, _ => ⟨by rw [cntF]; decide, by rw [cntF]; exact Int.le_refl _⟩
  | f + 1, l, u, hu => by
    have ih := cntF_b es K f
    have hB : 0 ≤ (K : Int) ^ f := Int.pow_nonneg (by omega)
    have hlow : ∀ c, c < u → 0 ≤ (if okC es l c = true then tmC es K (cntF es K f) l u c else 0) ∧ (if okC es l c = true then tmC es K (cntF es K f) l u c else 0) ≤ (K : Int) ^ f := fun c hc => by
      split
      · unfold tmC
        rw [if_neg (by omega)]
        exact ih _ _ hu
      · exact ⟨Int.le_refl _, hB⟩
    have hs0 := sm_nn u fun c hc => (hlow c hc).1
    have hs1 := sm_cap u fun c hc => (hlow c hc).2
    rw [cntF, Int.pow_succ, Int.mul_comm]
    by_cases h : u < K
    · rw [show min (u + 1) K = u + 1 by omega, sm_succ]
      have ht : 0 ≤ (if okC es l u = true then tmC es K (cntF es K f) l u u else 0) ∧ (if okC es l u = true then tmC es K (cntF es K f) l u u else 0) ≤ ((K : Int) - u) * (K : Int) ^ f := by
        split
        · unfold tmC
          rw [if_pos rfl]
          have := ih (l ++ [u]) (u + 1) (by omega)
          exact ⟨Int.mul_nonneg (by omega) this.1, Int.mul_le_mul_of_nonneg_left this.2 (by omega)⟩
        · exact ⟨Int.le_refl _, Int.mul_nonneg (by omega) hB⟩
      have hd : ((K : Int) - u) * (K : Int) ^ f = (K : Int) * (K : Int) ^ f - (u : Int) * (K : Int) ^ f := Int.sub_mul ..
      omega
    · obtain rfl : u = K := by omega
      rw [show min (u + 1) u = u by omega]
      exact ⟨hs0, hs1⟩
theorem getD_app (l : List Nat) (c j : Nat) : (l ++ [c]).getD j 0 = if j < l.length then l.getD j 0 else if j = l.length then c else 0 := by
  simp only [List.getD_eq_getElem?_getD, List.getElem?_append]
  by_cases h : j < l.length
  · rw [if_pos h, if_pos h]
  · rw [if_neg h, if_neg h]
    by_cases h2 : j = l.length
    · rw [if_pos h2, h2, Nat.sub_self]; rfl
    · rw [if_neg h2]
      obtain ⟨d, hd⟩ : ∃ d, j - l.length = d + 1 := ⟨j - l.length - 1, by omega⟩
      rw [hd]; rfl
theorem lwD_set (t : List (BitVec 32)) (c : Nat) (y : BitVec 32) (i : Nat) (hc : c < t.length) : lw (t.set c y) i = if c = i then y else lw t i := by
  unfold lw
  rw [List.getD_eq_getElem?_getD, List.getElem?_set]
  by_cases h : c = i
  · rw [if_pos h, if_pos h, if_pos (by omega)]; rfl
  · rw [if_neg h, if_neg h, List.getD_eq_getElem?_getD]
theorem lwD_app (t : List (BitVec 32)) (y : BitVec 32) (i : Nat) (hi : i ≤ t.length) : lw (t ++ [y]) i = if i < t.length then lw t i else y := by
  unfold lw
  simp only [List.getD_eq_getElem?_getD, List.getElem?_append]
  by_cases h : i < t.length
  · rw [if_pos h, if_pos h]
  · rw [if_neg h, if_neg h, show i - t.length = 0 by omega]; rfl
theorem okC_iff {es : List Ed} {l : List Nat} {c : Nat} : okC es l c = true ↔ ∀ j, j < l.length → l.getD j 0 = c → adj es j l.length = false := by
  unfold okC
  simp only [List.all_eq_true, List.mem_range, Bool.or_eq_true, bne_iff_ne, ne_eq, Bool.not_eq_true']
  constructor
  · intro h j hj e
    rcases h j hj with h1 | h1
    · exact absurd e h1
    · exact h1
  · intro h j hj
    by_cases e : l.getD j 0 = c
    · exact .inr (h j hj e)
    · exact .inl e
theorem loose_up {N : Nat} {es : List Ed} (hg : GoodG N es) {y s : BitVec 32} (h : looseB es (wOr y s) = true) : looseB es y = true :=
  (loose_iff hg y).2 fun i j hi hj => (loose_iff hg (wOr y s)).1 h i j (by rw [b_or, hi]; rfl) (by rw [b_or, hj]; rfl)
theorem class_ok {N : Nat} {es : List Ed} (hg : GoodG N es) {l : List Nat} {c : Nat} {C : BitVec 32} (hl : l.length < N) (hC : ∀ j, C.getLsbD j = decide (j < l.length ∧ l.getD j 0 = c)) (h : looseB es C = true) : looseB es (wOr C (wShl w1 l.length)) = okC es l c := by
  have hN := hg.n10
  have hbit : ∀ j, (wOr C (wShl w1 l.length)).getLsbD j = true ↔ C.getLsbD j = true ∨ j = l.length := fun j => by rw [or_bit (by omega), Bool.or_eq_true, decide_eq_true_iff]
  rw [Bool.eq_iff_iff, loose_iff hg, okC_iff]
  constructor
  · intro h1 j hj e
    exact h1 j l.length ((hbit j).2 (.inl (by rw [hC]; exact decide_eq_true ⟨hj, e⟩))) ((hbit _).2 (.inr rfl))
  · intro h1 i j hi hj
    have hCi : ∀ i, C.getLsbD i = true → adj es i l.length = false := fun i hi => by
      rw [hC] at hi
      have := of_decide_eq_true hi
      exact h1 i this.1 this.2
    have hself : adj es l.length l.length = false := by
      have := (loose_iff hg (wShl w1 l.length)).1 ?_ l.length l.length (by rw [one_bit (by omega)]; simp) (by rw [one_bit (by omega)]; simp)
      · exact this
      · have e : wOr w0 (wShl w1 l.length) = wShl w1 l.length := w_ext fun j _ => by rw [b_or, b_0, Bool.false_or]
        rw [← e, loose_ins hg w0 l.length hl (b_0 _), loose_0 es hg]
        have e2 : wAnd w0 (lw (nearL N es) l.length) = w0 := w_ext fun j _ => by rw [b_and, b_0, Bool.false_and]
        rw [e2]
        rfl
    rcases (hbit i).1 hi with hi | rfl
    · rcases (hbit j).1 hj with hj | rfl
      · exact (loose_iff hg C).1 h i j hi hj
      · exact hCi i hi
    · rcases (hbit j).1 hj with hj | rfl
      · rw [adj_symm]; exact hCi j hj
      · exact hself
theorem cnt_Z {N : Nat} {es : List Ed} (hg : GoodG N es) (K : Nat) : ∀ (f : Nat) (l : List Nat) (u : Nat) (Cs : List (BitVec 32)) (w : BitVec 32), l.length + f = N → (∀ j, j < l.length → l.getD j 0 < u) → u ≤ K → Cs.length = u →
    (∀ c j, c < u → (lw Cs c).getLsbD j = decide (j < l.length ∧ l.getD j 0 = c)) → (∀ c, c < u → looseB es (lw Cs c) = true) → (∀ j, w.getLsbD j = (decide (l.length ≤ j) && decide (j < N))) → cntF es K f l u = Z N (looseB es) Cs w ((K - u : Nat) : Int)
  | 0, l, u, Cs, w, hlN, hlu, huK, hCu, hC, hL, hw => by
    have hw0 : w = w0 := w_ext fun j _ => by
      rw [hw, b_0]
      by_cases h : l.length ≤ j
      · rw [decide_eq_false (p := j < N) (by omega), Bool.and_false]
      · rw [decide_eq_false h, Bool.false_and]
    rw [hw0, cntF, Z_word0]
    intro C hmem
    obtain ⟨c, hc, rfl⟩ := List.getElem_of_mem hmem
    have := hL c (by omega)
    rwa [show lw Cs c = Cs[c] from getD_at Cs c hc _] at this
  | f + 1, l, u, Cs, w, hlN, hlu, huK, hCu, hC, hL, hw => by
    have hN := hg.n10
    have hx : l.length < N := by omega
    have hin : InW N w := fun j hj => by
      rw [hw, Bool.and_eq_true] at hj
      exact of_decide_eq_true hj.2
    have h1 : w.getLsbD l.length = true := by rw [hw, decide_eq_true (Nat.le_refl _), decide_eq_true hx]; rfl
    have hw' : ∀ (c j : Nat), (wBut w (wShl w1 l.length)).getLsbD j = (decide ((l ++ [c]).length ≤ j) && decide (j < N)) := fun c j => by
      rw [b_but, hw, one_bit (by omega), List.length_append, List.length_singleton, Bool.eq_iff_iff]
      simp only [Bool.and_eq_true, decide_eq_true_eq, Bool.not_eq_true', decide_eq_false_iff_not]
      omega
    have hlen : ∀ c : Nat, (l ++ [c]).length = l.length + 1 := fun c => by rw [List.length_append, List.length_singleton]
    have hlow : ∀ c, c < u → (if okC es l c = true then tmC es K (cntF es K f) l u c else 0) = Z N (looseB es) (Cs.set c (wOr (lw Cs c) (wShl w1 l.length))) (wBut w (wShl w1 l.length)) ((K - u : Nat) : Int) := fun c hc => by
      have hok := class_ok hg hx (fun j => hC c j hc) (hL c hc)
      by_cases h : okC es l c = true
      · rw [if_pos h]
        unfold tmC
        rw [if_neg (by omega)]
        refine cnt_Z hg K f (l ++ [c]) u _ _ (by rw [hlen]; omega) (fun j hj => ?_) huK (by rw [List.length_set]; exact hCu) (fun c' j hc' => ?_) (fun c' hc' => ?_) (hw' c)
        · rw [getD_app]
          by_cases hjl : j < l.length
          · rw [if_pos hjl]; exact hlu j hjl
          · rw [hlen] at hj
            rw [if_neg hjl, if_pos (by omega)]; exact hc
        · rw [lwD_set _ _ _ _ (by omega), hlen, getD_app]
          by_cases e : c = c'
          · subst e
            rw [if_pos rfl, or_bit (by omega), hC c j hc, Bool.eq_iff_iff]
            simp only [Bool.or_eq_true, decide_eq_true_eq]
            by_cases hjl : j < l.length
            · rw [if_pos hjl]; omega
            · rw [if_neg hjl]
              by_cases hj2 : j = l.length
              · rw [if_pos hj2]; omega
              · omega
          · rw [if_neg e, hC c' j hc', Bool.eq_iff_iff]
            simp only [decide_eq_true_eq]
            by_cases hjl : j < l.length
            · rw [if_pos hjl]; omega
            · rw [if_neg hjl]
              by_cases hj2 : j = l.length
              · rw [if_pos hj2]; omega
              · omega
        · rw [lwD_set _ _ _ _ (by omega)]
          by_cases e : c = c'
          · rw [if_pos e, hok, h]
          · rw [if_neg e]; exact hL c' hc'
      · rw [if_neg h, Z_bad (by omega) _ c (by rw [List.length_set]; omega)]
        intro s
        rw [lwD_set _ _ _ _ (by omega), if_pos rfl]
        cases hb : looseB es (wOr (wOr (lw Cs c) (wShl w1 l.length)) s) with
        | false => rfl
        | true => exact absurd (hok ▸ loose_up hg hb) h
    rw [cntF, Z_step (by omega) (loose_0 es hg) hx (K - u) Cs hin h1, hCu, ← sm_congr u hlow]
    by_cases huk : u < K
    · rw [show min (u + 1) K = u + 1 by omega, sm_succ]
      have hoku : okC es l u = true := okC_iff.2 fun j hj e => by have := hlu j hj; omega
      rw [if_pos hoku]
      unfold tmC
      rw [if_pos rfl]
      have hsingle : looseB es (wShl w1 l.length) = true := by
        have e : wOr w0 (wShl w1 l.length) = wShl w1 l.length := w_ext fun j _ => by rw [b_or, b_0, Bool.false_or]
        rw [← e, loose_ins hg w0 l.length hx (b_0 _), loose_0 es hg]
        have e2 : wAnd w0 (lw (nearL N es) l.length) = w0 := w_ext fun j _ => by rw [b_and, b_0, Bool.false_and]
        rw [e2]
        rfl
      have hih := cnt_Z hg K f (l ++ [u]) (u + 1) (Cs ++ [wShl w1 l.length]) (wBut w (wShl w1 l.length)) (by rw [hlen]; omega) (fun j hj => by
        rw [getD_app]
        by_cases hjl : j < l.length
        · rw [if_pos hjl]; have := hlu j hjl; omega
        · rw [hlen] at hj
          rw [if_neg hjl, if_pos (by omega)]; omega) (by omega) (by rw [List.length_append, List.length_singleton, hCu]) (fun c' j hc' => by
        rw [lwD_app _ _ _ (by omega), hlen, getD_app]
        by_cases e : c' < Cs.length
        · rw [if_pos e, hC c' j (by omega), Bool.eq_iff_iff]
          simp only [decide_eq_true_eq]
          by_cases hjl : j < l.length
          · rw [if_pos hjl]; omega
          · rw [if_neg hjl]
            by_cases hj2 : j = l.length
            · rw [if_pos hj2]; omega
            · omega
        · rw [if_neg e, one_bit (by omega), Bool.eq_iff_iff]
          simp only [decide_eq_true_eq]
          by_cases hjl : j < l.length
          · rw [if_pos hjl]; have := hlu j hjl; omega
          · rw [if_neg hjl]
            by_cases hj2 : j = l.length
            · rw [if_pos hj2]; omega
            · omega) (fun c' hc' => by
        rw [lwD_app _ _ _ (by omega)]
        by_cases e : c' < Cs.length
        · rw [if_pos e]; exact hL c' (by omega)
        · rw [if_neg e]; exact hsingle) (hw' u)
      rw [hih, show ((K - u : Nat) : Int) = (K : Int) - u by omega, show ((K - (u + 1) : Nat) : Int) = (K : Int) - u - 1 by omega]
    · obtain rfl : u = K := by omega
      rw [show min (u + 1) u = u by omega, show ((u - u : Nat) : Int) = 0 by omega, Int.zero_mul, Int.add_zero]
/-- The program's count is the reference's. -/
theorem cnt_PW {N : Nat} {es : List Ed} (hg : GoodG N es) (K : Nat) : cntF es K N [] 0 = PW N (looseB es) (maskW N) K := by
  have hN := hg.n10
  have h := cnt_Z hg K N [] 0 [] (maskW N) (by simp) (fun j hj => absurd hj (by simp)) (by omega) rfl (fun c j hc => absurd hc (by omega)) (fun c hc => absurd hc (by omega)) (fun j => by
    rw [BitVec.getLsbD, toNat_mask (by omega), Nat.testBit_two_pow_sub_one]
    simp)
  rw [h, Z]
  rfl
end Go.Proofs.YtokmialpclcodaaDoor
