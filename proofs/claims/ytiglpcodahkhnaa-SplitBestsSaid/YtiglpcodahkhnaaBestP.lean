/- How early all can be done, in plain Lean: hand by hand over all sets, and by all ways to give. Conditions: none. -/
import Derived.Test.YtiglpcodahkhnaaSplitP
import Derived.Test.YtiglpcodahkhnaaSubP
namespace Go.Proofs.Ytiglpcodahkhnaa

/-- What the works of a set take together, of the first k. -/
def sumW (sz : List Int) (w : Nat) : Nat → Int
  | 0 => 0
  | i + 1 => sumW sz w i + if w.testBit i then sz.getD i 0 else 0
/-- What hand k has of a set, of the first i. -/
def ldW (sz : List Int) (w : Nat) (R : Nat → Nat) (k : Nat) : Nat → Int
  | 0 => 0
  | i + 1 => ldW sz w R k i + if w.testBit i ∧ R i = k then sz.getD i 0 else 0
theorem sumW_bounds {sz : List Int} (hb : ∀ i, 0 ≤ sz.getD i 0 ∧ sz.getD i 0 ≤ 1048576) (w : Nat) : ∀ k, 0 ≤ sumW sz w k ∧ sumW sz w k ≤ 1048576 * k
  | 0 => by simp [sumW]
  | k + 1 => by
    have h1 := sumW_bounds hb w k
    have h2 := hb k
    rw [sumW]
    split <;> omega
def bestW (sz : List Int) : Nat → Nat → Int
  | 0, w => sumW sz w sz.length
  | h + 1, w => dn (fun s => max (sumW sz s sz.length) (bestW sz h (w ^^^ s))) w w (bestW sz h w)
theorem bestW_0 (sz : List Int) (w : Nat) : bestW sz 0 w = sumW sz w sz.length := rfl
theorem bestW_s (sz : List Int) (h w : Nat) : bestW sz (h + 1) w = dn (fun s => max (sumW sz s sz.length) (bestW sz h (w ^^^ s))) w w (bestW sz h w) := rfl
theorem mxF_ge (f : Nat → Int) : ∀ k j, j < k → f j ≤ mxF f k
  | 0, j, h => by omega
  | k + 1, j, h => by
    rw [mxF]
    by_cases hj : j = k
    · subst hj; split <;> omega
    · have := mxF_ge f k j (by omega)
      split <;> omega
theorem mxF_le' {f : Nat → Int} {M : Int} (hM : 0 ≤ M) : ∀ k, (∀ j, j < k → f j ≤ M) → mxF f k ≤ M
  | 0, _ => hM
  | k + 1, h => by
    rw [mxF]
    split
    · exact h k (by omega)
    · exact mxF_le' hM k fun j hj => h j (by omega)
theorem ldW_all (sz : List Int) (w : Nat) (R : Nat → Nat) (k : Nat) (h : ∀ i, R i = k) : ∀ n, ldW sz w R k n = sumW sz w n
  | 0 => rfl
  | n + 1 => by
    rw [ldW, sumW, ldW_all sz w R k h n]
    simp [h n]
theorem ldW_none (sz : List Int) (w : Nat) (R : Nat → Nat) (k : Nat) (h : ∀ i, w.testBit i = true → R i ≠ k) : ∀ n, ldW sz w R k n = 0
  | 0 => rfl
  | n + 1 => by
    rw [ldW, ldW_none sz w R k h n, if_neg (fun hh => h n hh.1 hh.2)]
    rfl
theorem ldW_congr (sz : List Int) (w w' : Nat) (R R' : Nat → Nat) (k k' : Nat) : ∀ n, (∀ i, i < n → ((w.testBit i = true ∧ R i = k) ↔ (w'.testBit i = true ∧ R' i = k'))) → ldW sz w R k n = ldW sz w' R' k' n
  | 0, _ => rfl
  | n + 1, h => by
    rw [ldW, ldW, ldW_congr sz w w' R R' k k' n fun i hi => h i (by omega)]
    congr 1
    have := h n (by omega)
    by_cases h1 : w.testBit n = true ∧ R n = k
    · rw [if_pos h1, if_pos (this.1 h1)]
    · rw [if_neg h1, if_neg (fun hh => h1 (this.2 hh))]
theorem ldW_sum (sz : List Int) (w s : Nat) (R : Nat → Nat) (k : Nat) : ∀ n, (∀ i, i < n → ((w.testBit i = true ∧ R i = k) ↔ s.testBit i = true)) → ldW sz w R k n = sumW sz s n
  | 0, _ => rfl
  | n + 1, h => by
    rw [ldW, sumW, ldW_sum sz w s R k n fun i hi => h i (by omega)]
    congr 1
    have := h n (by omega)
    by_cases h1 : w.testBit n = true ∧ R n = k
    · rw [if_pos h1, if_pos (this.1 h1)]
    · rw [if_neg h1, if_neg (fun hh => h1 (this.2 hh))]
/-- No way to give a set to h + 1 hands is done earlier. -/
theorem bestW_le {sz : List Int} (hb : ∀ i, 0 ≤ sz.getD i 0 ∧ sz.getD i 0 ≤ 1048576) : ∀ (h w : Nat) (R : Nat → Nat), (∀ i, R i ≤ h) → bestW sz h w ≤ mxF (fun k => ldW sz w R k sz.length) (h + 1)
  | 0, w, R, hR => by
    have h1 := ldW_all sz w R 0 (fun i => by have := hR i; omega) sz.length
    have h2 := mxF_ge (fun k => ldW sz w R k sz.length) 1 0 (by omega)
    rw [bestW_0, ← h1]
    exact h2
  | h + 1, w, R, hR => by
    let s := mkS (fun i => w.testBit i && R i == h + 1) sz.length
    let R' : Nat → Nat := fun i => if R i = h + 1 then 0 else R i
    have hsb : ∀ i, s.testBit i = (decide (i < sz.length) && (w.testBit i && R i == h + 1)) := mkS_bit _ sz.length
    have hsub : s &&& w = s := sub_of_bits fun i hi => by
      rw [hsb] at hi
      simp at hi
      exact hi.2.1
    have hR' : ∀ i, R' i ≤ h := fun i => by
      have := hR i
      show (if R i = h + 1 then 0 else R i) ≤ h
      split <;> omega
    have e1 : ldW sz w R (h + 1) sz.length = sumW sz s sz.length := ldW_sum sz w s R (h + 1) sz.length fun i hi => by
      rw [hsb]
      simp [hi]
    have hx : ∀ i, i < sz.length → (w ^^^ s).testBit i = (w.testBit i && !(R i == h + 1)) := fun i hi => by
      rw [Nat.testBit_xor, hsb, decide_eq_true hi]
      cases w.testBit i <;> cases (R i == h + 1) <;> rfl
    have e2 : ∀ k, k ≤ h → ldW sz (w ^^^ s) R' k sz.length = ldW sz w R k sz.length := fun k hk => ldW_congr sz _ w R' R k k sz.length fun i hi => by
      rw [hx i hi]
      show ((w.testBit i && !(R i == h + 1)) = true ∧ (if R i = h + 1 then 0 else R i) = k) ↔ (w.testBit i = true ∧ R i = k)
      by_cases hr : R i = h + 1
      · simp [hr]; omega
      · simp [hr]
    have ih := bestW_le hb h (w ^^^ s) R' hR'
    have hm : mxF (fun k => ldW sz (w ^^^ s) R' k sz.length) (h + 1) ≤ mxF (fun k => ldW sz w R k sz.length) (h + 2) :=
      mxF_le' (mxF_nonneg _ _) _ fun k hk => by
        rw [e2 k (by omega)]
        exact mxF_ge (fun k => ldW sz w R k sz.length) (h + 2) k (by omega)
    have hl : ldW sz w R (h + 1) sz.length ≤ mxF (fun k => ldW sz w R k sz.length) (h + 2) := mxF_ge (fun k => ldW sz w R k sz.length) (h + 2) (h + 1) (by omega)
    show dn _ w w _ ≤ mxF (fun k => ldW sz w R k sz.length) (h + 2)
    obtain ⟨d1, d2⟩ := dn_le (fun s => max (sumW sz s sz.length) (bestW sz h (w ^^^ s))) w w (bestW sz h w) (Nat.and_self w)
    rcases Nat.eq_zero_or_pos s with hs0 | hsp
    · rw [hs0, Nat.xor_zero] at ih hm
      omega
    · have := d2 s hsub hsp (sub_le hsub)
      omega
/-- Some way to give it is done by then. -/
theorem bestW_at {sz : List Int} (hb : ∀ i, 0 ≤ sz.getD i 0 ∧ sz.getD i 0 ≤ 1048576) : ∀ (h w : Nat), 0 ≤ bestW sz h w ∧ ∃ R : Nat → Nat, (∀ i, R i ≤ h) ∧ mxF (fun k => ldW sz w R k sz.length) (h + 1) ≤ bestW sz h w
  | 0, w => by
    have h0 := (sumW_bounds hb w sz.length).1
    refine ⟨h0, fun _ => 0, fun _ => Nat.le_refl _, mxF_le' h0 _ fun j hj => ?_⟩
    obtain rfl : j = 0 := by omega
    rw [ldW_all sz w _ 0 (fun _ => rfl)]
    exact Int.le_refl _
  | h + 1, w => by
    rw [bestW_s]
    obtain ⟨hn, R, hR, hm⟩ := bestW_at hb h w
    rcases dn_mem (fun s => max (sumW sz s sz.length) (bestW sz h (w ^^^ s))) w w (bestW sz h w) (Nat.and_self w) with e | ⟨t, ht, _, _, e⟩
    · rw [e]
      refine ⟨hn, R, fun i => by have := hR i; omega, mxF_le' hn _ fun j hj => ?_⟩
      by_cases hj' : j = h + 1
      · rw [ldW_none sz w R j (fun i _ => by have := hR i; omega)]
        exact hn
      · exact Int.le_trans (mxF_ge (fun k => ldW sz w R k sz.length) (h + 1) j (by omega)) hm
    · rw [e]
      obtain ⟨hn', R', hR', hm'⟩ := bestW_at hb h (w ^^^ t)
      have h0 := (sumW_bounds hb t sz.length).1
      have hM : 0 ≤ max (sumW sz t sz.length) (bestW sz h (w ^^^ t)) := by omega
      have hx : ∀ i, (w ^^^ t).testBit i = (w.testBit i && !t.testBit i) := fun i => by
        have := @bit_sub w t ht i
        rw [Nat.testBit_xor]
        revert this
        cases w.testBit i <;> cases t.testBit i <;> simp
      refine ⟨hM, fun i => if t.testBit i then h + 1 else R' i, fun i => ?_, mxF_le' hM _ fun j hj => ?_⟩
      · show (if t.testBit i = true then h + 1 else R' i) ≤ h + 1
        have := hR' i
        split <;> omega
      · by_cases hj' : j = h + 1
        · subst hj'
          have : ldW sz w (fun i => if t.testBit i then h + 1 else R' i) (h + 1) sz.length = sumW sz t sz.length := ldW_sum sz w t _ _ _ fun i hi => by
            have h1 := @bit_sub w t ht i
            have h2 := hR' i
            cases hti : t.testBit i
            · simp; omega
            · simp [h1 hti]
          rw [this]
          omega
        · have : ldW sz w (fun i => if t.testBit i then h + 1 else R' i) j sz.length = ldW sz (w ^^^ t) R' j sz.length := ldW_congr sz _ _ _ _ _ _ _ fun i hi => by
            rw [hx]
            cases hti : t.testBit i
            · simp
            · simp; omega
          rw [this]
          have h3 := mxF_ge (fun k => ldW sz (w ^^^ t) R' k sz.length) (h + 1) j (by omega)
          omega

/-! ### By all ways to give -/
theorem inTo_congr (sz R R' : List Int) (j j' : Int) : ∀ k, (∀ i, i < k → (R.getD i 0 = j ↔ R'.getD i 0 = j')) → inTo sz R j k = inTo sz R' j' k
  | 0, _ => rfl
  | k + 1, h => by
    rw [inTo, inTo, inTo_congr sz R R' j j' k fun i hi => h i (by omega)]
    congr 1
    have := h k (by omega)
    by_cases h1 : R.getD k 0 = j
    · rw [if_pos h1, if_pos (this.1 h1)]
    · rw [if_neg h1, if_neg (fun hh => h1 (this.2 hh))]
def endL (sz : List Int) (H : Nat) (l : List Int) : Int := mxF (fun h => inB sz l h) H
theorem endL_nonneg (sz : List Int) (H : Nat) (l : List Int) : 0 ≤ endL sz H l := mxF_nonneg _ _
/-- The values are below H. -/
def HandsOk (H : Nat) (l : List Int) : Prop := ∀ x ∈ l, 0 ≤ x ∧ x < H
inductive Canon : List Int → Nat → Prop
  | nil : Canon [] 0
  | old {l : List Int} {u x : Nat} (h : Canon l u) (hx : x < u) : Canon (l ++ [(x : Int)]) u
  | new {l : List Int} {u : Nat} (h : Canon l u) : Canon (l ++ [(u : Int)]) (u + 1)
theorem Canon.mem {l : List Int} {u : Nat} (h : Canon l u) : ∀ x, x ∈ l ↔ 0 ≤ x ∧ x < u := by
  induction h with
  | nil =>
    intro x
    constructor
    · intro h; cases h
    · intro h; omega
  | old h hx ih =>
    intro y
    rw [List.mem_append, List.mem_singleton, ih y]
    omega
  | new h ih =>
    intro y
    rw [List.mem_append, List.mem_singleton, ih y]
    omega
/-- How many unlike ones there are among the first k. -/
def unlT (l : List Int) : Nat → Nat
  | 0 => 0
  | k + 1 => unlT l k + if (l.take k).any (fun y => l.getD k 0 == y) then 0 else 1
theorem unlT_le (l : List Int) : ∀ k, unlT l k ≤ k
  | 0 => Nat.le_refl _
  | k + 1 => by
    have := unlT_le l k
    rw [unlT]
    split <;> omega
theorem unlT_app (l m : List Int) : ∀ k, k ≤ l.length → unlT (l ++ m) k = unlT l k
  | 0, _ => rfl
  | k + 1, h => by
    rw [unlT, unlT, unlT_app l m k (by omega), List.take_append_of_le_length (by omega)]
    have : (l ++ m).getD k 0 = l.getD k 0 := by
      rw [List.getD_eq_getElem?_getD, List.getD_eq_getElem?_getD, List.getElem?_append_left (by omega)]
    rw [this]
theorem Canon.unl {l : List Int} {u : Nat} (h : Canon l u) : unlT l l.length = u := by
  have last : ∀ (l : List Int) (x : Int), unlT (l ++ [x]) (l ++ [x]).length = unlT l l.length + if l.any (fun y => x == y) then 0 else 1 := fun l x => by
    rw [List.length_append, List.length_singleton, unlT, unlT_app l [x] _ (Nat.le_refl _), List.take_append_of_le_length (Nat.le_refl _), List.take_length]
    have : (l ++ [x]).getD l.length 0 = x := by simp [List.getD_eq_getElem?_getD]
    rw [this]
  induction h with
  | nil => rfl
  | @old l u x h hx ih =>
    rw [last, ih, if_pos]
    · rfl
    · rw [List.any_eq_true]
      exact ⟨x, (h.mem _).2 (by omega), by simp⟩
  | @new l u h ih =>
    rw [last, ih, if_neg]
    rw [List.any_eq_true]
    rintro ⟨y, hy, he⟩
    have h1 := (h.mem _).1 hy
    have : (u : Int) = y := by simpa using he
    omega
/-- 'BestEnd': with r works still to be given, when u hands have something; the best of the first k. -/
def beV (sz : List Int) (H : Nat) : Nat → List Int → Nat → Int
  | 0, l, _ => endL sz H l
  | r + 1, l, u => (List.range (min (u + 1) H)).foldl (fun (b : Int) (h : Nat) => if b < 0 ∨ beV sz H r (l ++ [(h : Int)]) (if h < u then u else u + 1) < b then beV sz H r (l ++ [(h : Int)]) (if h < u then u else u + 1) else b) (-1)
def bestTo (g : Nat → Int) : Nat → Int
  | 0 => -1
  | k + 1 => if bestTo g k < 0 ∨ g k < bestTo g k then g k else bestTo g k
theorem foldl_bestTo (g : Nat → Int) : ∀ k, (List.range k).foldl (fun b h => if b < 0 ∨ g h < b then g h else b) (-1) = bestTo g k
  | 0 => rfl
  | k + 1 => by rw [List.range_succ, List.foldl_append, foldl_bestTo g k]; rfl
def nxU (u h : Nat) : Nat := if h < u then u else u + 1
theorem beV_s (sz : List Int) (H r : Nat) (l : List Int) (u : Nat) : beV sz H (r + 1) l u = bestTo (fun h => beV sz H r (l ++ [(h : Int)]) (nxU u h)) (min (u + 1) H) := by
  rw [beV]
  exact foldl_bestTo (fun h => beV sz H r (l ++ [(h : Int)]) (nxU u h)) _
theorem bestTo_spec (g : Nat → Int) : ∀ k, (∀ j, j < k → 0 ≤ g j) → 0 < k → (0 ≤ bestTo g k ∧ (∃ j, j < k ∧ bestTo g k = g j) ∧ ∀ j, j < k → bestTo g k ≤ g j)
  | 0, _, h => by omega
  | 1, h, _ => by
    have h0 := h 0 (by omega)
    have e : bestTo g 1 = g 0 := by
      show (if (-1 : Int) < 0 ∨ g 0 < -1 then g 0 else -1) = g 0
      rw [if_pos (.inl (by omega))]
    rw [e]
    exact ⟨h0, ⟨0, by omega, rfl⟩, fun j hj => by
      obtain rfl : j = 0 := by omega
      exact Int.le_refl _⟩
  | k + 2, h, _ => by
    obtain ⟨h1, ⟨j0, h2, h3⟩, h4⟩ := bestTo_spec g (k + 1) (fun j hj => h j (by omega)) (by omega)
    have h5 := h (k + 1) (by omega)
    rw [bestTo]
    split
    · rename_i hc
      refine ⟨h5, ⟨k + 1, by omega, rfl⟩, fun j hj => ?_⟩
      by_cases hjk : j = k + 1
      · rw [hjk]; exact Int.le_refl _
      · have := h4 j (by omega); omega
    · rename_i hc
      refine ⟨h1, ⟨j0, by omega, h3⟩, fun j hj => ?_⟩
      by_cases hjk : j = k + 1
      · rw [hjk]; omega
      · exact h4 j (by omega)
theorem beV_at {sz : List Int} {H : Nat} (hH : 1 ≤ H) : ∀ (r : Nat) (l : List Int) (u : Nat), Canon l u → u ≤ H → 0 ≤ beV sz H r l u ∧ ∃ m, HandsOk H (l ++ m) ∧ m.length = r ∧ beV sz H r l u = endL sz H (l ++ m)
  | 0, l, u, hc, hu => by
    refine ⟨endL_nonneg _ _ _, [], ?_, rfl, by rw [List.append_nil]; rfl⟩
    rw [List.append_nil]
    intro x hx
    have := (hc.mem x).1 hx
    omega
  | r + 1, l, u, hc, hu => by
    have hstep : ∀ h, h < min (u + 1) H → Canon (l ++ [(h : Int)]) (nxU u h) ∧ nxU u h ≤ H := fun h hh => by
      unfold nxU
      split
      · exact ⟨.old hc (by omega), by omega⟩
      · obtain rfl : h = u := by omega
        exact ⟨.new hc, by omega⟩
    have hpos : ∀ h, h < min (u + 1) H → 0 ≤ beV sz H r (l ++ [(h : Int)]) (nxU u h) := fun h hh => (beV_at hH r _ _ (hstep h hh).1 (hstep h hh).2).1
    obtain ⟨h1, ⟨j, hj, h2⟩, h3⟩ := bestTo_spec (fun h => beV sz H r (l ++ [(h : Int)]) (nxU u h)) (min (u + 1) H) hpos (by omega)
    rw [beV_s]
    refine ⟨h1, ?_⟩
    obtain ⟨_, m, m1, m2, m3⟩ := beV_at (sz := sz) hH r _ _ (hstep j hj).1 (hstep j hj).2
    rw [List.append_assoc] at m1 m3
    exact ⟨[(j : Int)] ++ m, m1, by simp [m2], by rw [h2]; exact m3⟩
def swp (a b x : Int) : Int := if x = a then b else if x = b then a else x
theorem endL_swap (sz : List Int) (H : Nat) (a b : Nat) (ha : a < H) (hb : b < H) (l : List Int) : endL sz H (l.map (swp a b)) ≤ endL sz H l := by
  unfold endL
  refine mxF_le' (mxF_nonneg _ _) _ fun j hj => ?_
  have key : ∀ j' : Nat, j' < H → (∀ x : Int, x ∈ l → (swp a b x = (j : Int) ↔ x = (j' : Int))) → inB sz (l.map (swp a b)) j ≤ mxF (fun h => inB sz l h) H := fun j' hj' hx => by
    have : inB sz (l.map (swp a b)) j = inB sz l j' := by
      unfold inB
      rw [List.length_map]
      refine inTo_congr sz _ _ _ _ _ fun i hi => ?_
      have e1 : (l.map (swp a b)).getD i 0 = swp a b l[i] := by simp [List.getD_eq_getElem?_getD, hi]
      have e2 : l.getD i 0 = l[i] := by simp [List.getD_eq_getElem?_getD, hi]
      rw [e1, e2]
      exact hx _ (List.getElem_mem hi)
    rw [this]
    exact mxF_ge (fun h : Nat => inB sz l h) H j' hj'
  by_cases h1 : j = a
  · subst h1
    exact key b hb fun x _ => by unfold swp; split <;> (try split) <;> omega
  · by_cases h2 : j = b
    · subst h2
      exact key a ha fun x _ => by unfold swp; split <;> (try split) <;> omega
    · exact key j hj fun x _ => by unfold swp; split <;> (try split) <;> omega
theorem beV_le {sz : List Int} {H : Nat} (hH : 1 ≤ H) : ∀ (r : Nat) (l : List Int) (u : Nat) (m : List Int), Canon l u → u ≤ H → HandsOk H (l ++ m) → m.length = r → beV sz H r l u ≤ endL sz H (l ++ m)
  | 0, l, u, m, hc, hu, hok, hm => by
    obtain rfl := List.length_eq_zero_iff.1 hm
    rw [List.append_nil]
    exact Int.le_refl _
  | r + 1, l, u, [], hc, hu, hok, hm => by cases hm
  | r + 1, l, u, x :: m, hc, hu, hok, hm => by
    have hm' : m.length = r := by simpa using hm
    have hstep : ∀ h, h < min (u + 1) H → Canon (l ++ [(h : Int)]) (nxU u h) ∧ nxU u h ≤ H := fun h hh => by
      unfold nxU
      split
      · exact ⟨.old hc (by omega), by omega⟩
      · obtain rfl : h = u := by omega
        exact ⟨.new hc, by omega⟩
    have hpos : ∀ h, h < min (u + 1) H → 0 ≤ beV sz H r (l ++ [(h : Int)]) (nxU u h) := fun h hh => (beV_at hH r _ _ (hstep h hh).1 (hstep h hh).2).1
    obtain ⟨h1, _, h3⟩ := bestTo_spec (fun h => beV sz H r (l ++ [(h : Int)]) (nxU u h)) (min (u + 1) H) hpos (by omega)
    rw [beV_s]
    have go : ∀ (h : Nat) (m' : List Int), h < min (u + 1) H → HandsOk H (l ++ (h : Int) :: m') → m'.length = r → bestTo (fun h => beV sz H r (l ++ [(h : Int)]) (nxU u h)) (min (u + 1) H) ≤ endL sz H (l ++ (h : Int) :: m') := fun h m' hh hk hl => by
      have hap : l ++ (h : Int) :: m' = l ++ [(h : Int)] ++ m' := by simp
      have := beV_le (sz := sz) hH r _ _ m' (hstep h hh).1 (hstep h hh).2 (by rw [← hap]; exact hk) hl
      rw [← hap] at this
      exact Int.le_trans (h3 h hh) this
    have hx := hok x (by simp)
    obtain ⟨h, rfl⟩ := Int.eq_ofNat_of_zero_le hx.1
    have hhH : h < H := by omega
    by_cases hlt : h < min (u + 1) H
    · exact go h m hlt hok hm'
    · have hu2 : u < h := by omega
      have hfix : l.map (swp u h) = l := by
        conv => rhs; rw [← List.map_id l]
        refine List.map_congr_left fun y hy => ?_
        have := (hc.mem y).1 hy
        unfold swp
        rw [if_neg (by omega), if_neg (by omega)]
        rfl
      have hmap : (l ++ (h : Int) :: m).map (swp u h) = l ++ (u : Int) :: m.map (swp u h) := by
        rw [List.map_append, hfix, List.map_cons]
        congr 2
        unfold swp
        rw [if_neg (by omega), if_pos rfl]
      have hok2 : HandsOk H (l ++ (u : Int) :: m.map (swp u h)) := by
        rw [← hmap]
        intro y hy
        obtain ⟨z, hz, rfl⟩ := List.mem_map.1 hy
        have := hok z hz
        unfold swp
        split
        · omega
        · split <;> omega
      have h5 := go u (m.map (swp u h)) (by omega) hok2 (by rw [List.length_map]; exact hm')
      have h6 := endL_swap sz H u h (by omega) hhH (l ++ (h : Int) :: m)
      rw [hmap] at h6
      exact Int.le_trans h5 h6
theorem best_is {sz : List Int} {H : Nat} (hb : ∀ i, 0 ≤ sz.getD i 0 ∧ sz.getD i 0 ≤ 1048576) (hH : 1 ≤ H) : bestW sz (H - 1) (2 ^ sz.length - 1) = beV sz H sz.length [] 0 := by
  have hld : ∀ (R : Nat → Nat) (l : List Int), l.length = sz.length → (∀ i, i < sz.length → l.getD i 0 = (R i : Int)) → ∀ k : Nat, ldW sz (2 ^ sz.length - 1) R k sz.length = inB sz l k := fun R l hl hR k => by
    unfold inB
    rw [hl]
    have : ∀ n, n ≤ sz.length → ldW sz (2 ^ sz.length - 1) R k n = inTo sz l k n := fun n => by
      induction n with
      | zero => intro _; rfl
      | succ n ih =>
        intro hn
        rw [ldW, inTo, ih (by omega), Nat.testBit_two_pow_sub_one, decide_eq_true (show n < sz.length by omega), hR n (by omega)]
        congr 1
        by_cases hk : R n = k
        · rw [if_pos ⟨rfl, hk⟩, if_pos (by omega)]
        · rw [if_neg (fun hh => hk hh.2), if_neg (by omega)]
    exact this _ (Nat.le_refl _)
  have hend : ∀ (R : Nat → Nat) (l : List Int), l.length = sz.length → (∀ i, i < sz.length → l.getD i 0 = (R i : Int)) → mxF (fun k => ldW sz (2 ^ sz.length - 1) R k sz.length) (H - 1 + 1) = endL sz H l := fun R l hl hR => by
    rw [show H - 1 + 1 = H by omega]
    exact mxF_congr H fun j _ => hld R l hl hR j
  apply Int.le_antisymm
  · obtain ⟨_, m, m1, m2, m3⟩ := beV_at (sz := sz) hH sz.length [] 0 .nil (by omega)
    rw [List.nil_append] at m1 m3
    rw [m3]
    have hval : ∀ i, i < sz.length → m.getD i 0 = ((m.getD i 0).toNat : Int) ∧ (m.getD i 0).toNat ≤ H - 1 := fun i hi => by
      have e : m.getD i 0 = m[i]'(by omega) := by simp [List.getD_eq_getElem?_getD, show i < m.length by omega]
      have := m1 (m[i]'(by omega)) (List.getElem_mem _)
      rw [e]
      omega
    have h1 := bestW_le hb (H - 1) (2 ^ sz.length - 1) (fun i => if i < sz.length then (m.getD i 0).toNat else 0) (fun i => by
      show (if i < sz.length then (m.getD i 0).toNat else 0) ≤ H - 1
      split
      · exact (hval i ‹_›).2
      · omega)
    rwa [hend _ m m2 (fun i hi => by show _ = ((if i < sz.length then (m.getD i 0).toNat else 0 : Nat) : Int); rw [if_pos hi]; exact (hval i hi).1)] at h1
  · obtain ⟨_, R, hR, hm⟩ := bestW_at hb (H - 1) (2 ^ sz.length - 1)
    have hl : ((List.range sz.length).map fun i => (R i : Int)).length = sz.length := by simp
    rw [hend R ((List.range sz.length).map fun i => (R i : Int)) hl (fun i hi => by simp [List.getD_eq_getElem?_getD, hi])] at hm
    refine Int.le_trans ?_ hm
    have := beV_le (sz := sz) hH sz.length [] 0 ((List.range sz.length).map fun i => (R i : Int)) .nil (by omega) (fun x hx => by
      rw [List.nil_append] at hx
      obtain ⟨i, _, rfl⟩ := List.mem_map.1 hx
      have := hR i
      omega) hl
    rwa [List.nil_append] at this
end Go.Proofs.Ytiglpcodahkhnaa
