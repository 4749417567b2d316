/- The most worth first: what is taken so is worth the most, and is the earliest of such; in plain Lean. Conditions: none. -/
import Derived.Test.YtdinknpagklkjaaLotsBests7
import Derived.Test.YtdinknpagklkjaaLotsBests3
import Derived.Laws.EntriesVeiled
namespace Go.Proofs.Ytdinknpagklkjaa
open Go.RowKit

theorem Sp_sub : ∀ {a b : List (BitVec 32)}, (∀ x ∈ a, Sp b x) → ∀ y, Sp a y → Sp b y
  | [], b, _, y, hy => by rw [show y = w0 from hy]; exact Sp_0 b
  | c :: a, b, h, y, hy => by
    rcases hy with hy | hy
    · exact Sp_sub (fun x hx => h x (by simp [hx])) y hy
    · exact (Sp_iff (h c (by simp))).1 (Sp_sub (fun x hx => h x (by simp [hx])) _ hy)
theorem rk_mono {a b : List (BitVec 32)} (h : ∀ x ∈ a, Sp b x) : rk a ≤ rk b := by
  have h1 : (spanL a).length ≤ (spanL b).length := (span_nodup a).length_le_of_subset fun x hx => (mem_span b x).2 (Sp_sub h x ((mem_span a x).1 hx))
  rw [span_len, span_len] at h1
  exact (Nat.pow_le_pow_iff_right (by omega)).1 h1
theorem rk_app : ∀ a b : List (BitVec 32), rk (a ++ b) ≤ a.length + rk b
  | [], b => by simp
  | c :: a, b => by
    have := rk_app a b
    rw [List.cons_append, rk, List.length_cons]
    split <;> omega
theorem filter_both {α : Type} (p : α → Bool) : ∀ L : List α, (L.filter p).length + (L.filter fun x => !p x).length = L.length
  | [] => rfl
  | a :: L => by
    have := filter_both p L
    rw [List.filter_cons, List.filter_cons]
    cases p a <;> simp <;> omega
/-- A part of what is free is free. -/
theorem rk_part (f : Nat → BitVec 32) {L M : List Nat} (hM : M.Nodup) (hs : ∀ x ∈ M, x ∈ L) (h : rk (L.map f) = L.length) : rk (M.map f) = M.length := by
  have h1 : rk (L.map f) ≤ rk (((L.filter fun x => !M.contains x) ++ M).map f) := rk_mono fun x hx => by
    obtain ⟨i, hi, rfl⟩ := List.mem_map.1 hx
    refine Sp_mem (List.mem_map.2 ⟨i, ?_, rfl⟩)
    by_cases hm : i ∈ M
    · exact List.mem_append_right _ hm
    · refine List.mem_append_left _ (List.mem_filter.2 ⟨hi, by simp [hm]⟩)
  have h2 := rk_app ((L.filter fun x => !M.contains x).map f) (M.map f)
  rw [← List.map_append, List.length_map] at h2
  have h3 := filter_both (fun x => M.contains x) L
  have h4 : M.length ≤ (L.filter fun x => M.contains x).length := hM.length_le_of_subset fun x hx => List.mem_filter.2 ⟨hs x hx, by simp [hx]⟩
  have h5 := rk_le (M.map f)
  rw [List.length_map] at h5
  omega
/-! What is taken. -/
open Classical in
/-- What is taken of an order; its last one ahead. -/
noncomputable def gdR (f : Nat → BitVec 32) : List Nat → BitVec 32
  | [] => w0
  | i :: P => if Sp (P.map f) (f i) then gdR f P else wOr (gdR f P) (wShl w1 i)
theorem gd_skip {f : Nat → BitVec 32} {i : Nat} {P : List Nat} (h : Sp (P.map f) (f i)) : gdR f (i :: P) = gdR f P := by rw [gdR, if_pos h]
theorem gd_add {f : Nat → BitVec 32} {i : Nat} {P : List Nat} (h : ¬ Sp (P.map f) (f i)) : gdR f (i :: P) = wOr (gdR f P) (wShl w1 i) := by rw [gdR, if_neg h]
theorem or_bit (x : BitVec 32) {i : Nat} (hi : i < 32) (j : Nat) : (wOr x (wShl w1 i)).getLsbD j = (x.getLsbD j || decide (j = i)) := by
  rw [b_or]
  unfold wShl w1
  rw [BitVec.getLsbD_shiftLeft]
  by_cases h : j = i
  · subst h; simp [hi]
  · rw [decide_eq_false h]
    have : ((1#32).getLsbD (j - i)) = decide (j - i = 0) := by simp
    rw [this]
    by_cases hlt : j < i
    · simp [hlt]
    · have : ¬ (j - i = 0) := by omega
      simp [this]
theorem gd_in (f : Nat → BitVec 32) : ∀ (P : List Nat), (∀ i ∈ P, i < 32) → ∀ j, (gdR f P).getLsbD j = true → j ∈ P
  | [], _, j, h => by rw [gdR, b_0] at h; cases h
  | i :: P, hP, j, h => by
    have ih := gd_in f P fun x hx => hP x (by simp [hx])
    rw [gdR] at h
    split at h
    · exact List.mem_cons_of_mem _ (ih j h)
    · rw [or_bit _ (hP i (by simp))] at h
      rcases Bool.or_eq_true_iff.1 h with h | h
      · exact List.mem_cons_of_mem _ (ih j h)
      · rw [of_decide_eq_true h]; simp
theorem gd_old (f : Nat → BitVec 32) : ∀ (Q P : List Nat), (∀ i ∈ Q ++ P, i < 32) → (Q ++ P).Nodup → ∀ j ∈ P, (gdR f (Q ++ P)).getLsbD j = (gdR f P).getLsbD j
  | [], P, _, _, j, _ => rfl
  | i :: Q, P, h, hn, j, hj => by
    have hn' := List.nodup_cons.1 hn
    have ih := gd_old f Q P (fun x hx => h x (by rw [List.cons_append]; simp [List.mem_append.1 hx])) hn'.2 j hj
    rw [List.cons_append, gdR]
    split
    · exact ih
    · rw [or_bit _ (h i (by simp)), ih]
      have : ¬ j = i := fun e => hn'.1 (by rw [← e]; exact List.mem_append_right _ hj)
      rw [decide_eq_false this, Bool.or_false]
def cntB (s : BitVec 32) (L : List Nat) : Nat := (L.filter fun i => s.getLsbD i).length
theorem cntB_cons (s : BitVec 32) (i : Nat) (L : List Nat) : cntB s (i :: L) = cntB s L + (if s.getLsbD i = true then 1 else 0) := by
  unfold cntB
  rw [List.filter_cons]
  split <;> simp
theorem cntB_rev (s : BitVec 32) (L : List Nat) : cntB s L.reverse = cntB s L := by
  unfold cntB
  rw [List.filter_reverse, List.length_reverse]
theorem cntB_congr {s t : BitVec 32} {L : List Nat} (h : ∀ j ∈ L, s.getLsbD j = t.getLsbD j) : cntB s L = cntB t L := by
  unfold cntB
  rw [List.filter_congr h]
theorem cntB_snoc (s : BitVec 32) (i : Nat) (L : List Nat) : cntB s (L ++ [i]) = cntB s L + (if s.getLsbD i = true then 1 else 0) := by
  unfold cntB
  rw [List.filter_append, List.length_append, List.filter_cons]
  split <;> simp
theorem gd_cnt (f : Nat → BitVec 32) : ∀ (P : List Nat), (∀ i ∈ P, i < 32) → P.Nodup → cntB (gdR f P) P = rk (P.map f)
  | [], _, _ => rfl
  | i :: P, h, hn => by
    have hn' := List.nodup_cons.1 hn
    have ih := gd_cnt f P (fun x hx => h x (by simp [hx])) hn'.2
    have hold : ∀ j ∈ P, (gdR f (i :: P)).getLsbD j = (gdR f P).getLsbD j := gd_old f [i] P (by simpa using h) (by simpa using hn)
    have hni : (gdR f P).getLsbD i = false := by
      rw [← Bool.not_eq_true]
      exact fun e => hn'.1 (gd_in f P (fun x hx => h x (by simp [hx])) i e)
    rw [cntB_cons, cntB_congr (t := gdR f P) (fun j hj => hold j hj), ih, List.map_cons, rk]
    congr 1
    by_cases hs : Sp (P.map f) (f i)
    · rw [if_pos hs, gdR, if_pos hs, hni]; rfl
    · rw [if_neg hs, gdR, if_neg hs, or_bit _ (h i (by simp)), hni]; simp
/-! Sums over places. -/
theorem abel (n : Nat) (a b w A B S T : Nat → Int) (hA0 : A 0 = 0) (hB0 : B 0 = 0) (hS0 : S 0 = 0) (hT0 : T 0 = 0)
    (hA : ∀ k, k < n → A (k + 1) = A k + a k) (hB : ∀ k, k < n → B (k + 1) = B k + b k) (hS : ∀ k, k < n → S (k + 1) = S k + a k * w k) (hT : ∀ k, k < n → T (k + 1) = T k + b k * w k)
    (hle : ∀ k, k ≤ n → B k ≤ A k) (hw : ∀ k, k + 1 < n → w (k + 1) ≤ w k) :
    ∀ k, k + 1 ≤ n → (A (k + 1) - B (k + 1)) * w k ≤ S (k + 1) - T (k + 1) ∧ ((A (k + 1) - B (k + 1)) * w k = S (k + 1) - T (k + 1) → ∀ j, j + 1 ≤ k → w (j + 1) < w j → A (j + 1) = B (j + 1))
  | 0, h => by
    rw [hA 0 h, hB 0 h, hS 0 h, hT 0 h, hA0, hB0, hS0, hT0, Int.zero_add, Int.zero_add, Int.zero_add, Int.zero_add, Int.sub_mul]
    exact ⟨Int.le_refl _, fun _ j hj => by omega⟩
  | k + 1, h => by
    obtain ⟨i1, i2⟩ := abel n a b w A B S T hA0 hB0 hS0 hT0 hA hB hS hT hle hw k (by omega)
    have hx := hle (k + 1) (by omega)
    have hwk := hw k (by omega)
    rw [hA (k + 1) (by omega), hB (k + 1) (by omega), hS (k + 1) (by omega), hT (k + 1) (by omega)]
    obtain ⟨X, hX⟩ : ∃ X, X = A (k + 1) - B (k + 1) := ⟨_, rfl⟩
    have hX0 : 0 ≤ X := by omega
    have hm : X * w (k + 1) ≤ X * w k := Int.mul_le_mul_of_nonneg_left hwk hX0
    have e1 : (A (k + 1) + a (k + 1) - (B (k + 1) + b (k + 1))) * w (k + 1) = X * w (k + 1) + (a (k + 1) * w (k + 1) - b (k + 1) * w (k + 1)) := by
      rw [show A (k + 1) + a (k + 1) - (B (k + 1) + b (k + 1)) = X + (a (k + 1) - b (k + 1)) by omega, Int.add_mul, Int.sub_mul]
    rw [e1]
    rw [← hX] at i1 i2
    refine ⟨by omega, fun he j hj hlt => ?_⟩
    have hD : X * w k = S (k + 1) - T (k + 1) := by omega
    by_cases hjk : j + 1 ≤ k
    · exact i2 hD j hjk hlt
    · obtain rfl : j = k := by omega
      have : X * w (j + 1) = X * w j := by omega
      have h0 : X * (w j - w (j + 1)) = 0 := by rw [Int.mul_sub]; omega
      rcases Int.mul_eq_zero.1 h0 with h0 | h0 <;> omega
/-! The best. -/
def worthTo (wt : Nat → Int) (s : BitVec 32) : Nat → Int
  | 0 => 0
  | k + 1 => if s.getLsbD k = true then worthTo wt s k + wt k else worthTo wt s k
def wAt (wt : Nat → Int) (s : BitVec 32) (i : Nat) : Int := if s.getLsbD i = true then wt i else 0
theorem worth_sum (wt : Nat → Int) (s : BitVec 32) : ∀ n, worthTo wt s n = ((List.range n).map (wAt wt s)).sum
  | 0 => rfl
  | n + 1 => by
    rw [worthTo, List.range_succ, List.map_append, List.sum_append, ← worth_sum wt s n]
    unfold wAt
    split <;> simp_all
theorem perm_sum (g : Nat → Int) {a b : List Nat} (h : a.Perm b) : (a.map g).sum = (b.map g).sum := by
  induction h with
  | nil => rfl
  | cons x _ ih => rw [List.map_cons, List.map_cons, List.sum_cons, List.sum_cons, ih]
  | swap x y l => simp only [List.map_cons, List.sum_cons]; omega
  | trans _ _ h1 h2 => rw [h1, h2]
def earlF (a b : BitVec 32) : Bool := match (List.range 32).find? (fun i => a.getLsbD i != b.getLsbD i) with
  | some i => a.getLsbD i
  | none => false
def before (wt : Nat → Int) (a b : Nat) : Prop := wt b < wt a ∨ (wt a = wt b ∧ a < b)
theorem gd_take (f : Nat → BitVec 32) {L : List Nat} (hn : L.Nodup) (h32 : ∀ i ∈ L, i < 32) (k : Nat) : cntB (gdR f L.reverse) (L.take k) = rk ((L.take k).reverse.map f) := by
  have e : L.reverse = (L.drop k).reverse ++ (L.take k).reverse := by rw [← List.reverse_append, List.take_append_drop]
  have hn' : ((L.drop k).reverse ++ (L.take k).reverse).Nodup := by rw [← e]; exact List.pairwise_reverse.2 (hn.imp fun h => h.symm)
  have h32' : ∀ i ∈ (L.drop k).reverse ++ (L.take k).reverse, i < 32 := fun i hi => h32 i (by rw [← e] at hi; exact List.mem_reverse.1 hi)
  rw [← cntB_rev, cntB_congr (t := gdR f (L.take k).reverse) (fun j hj => by rw [e]; exact gd_old f _ _ h32' hn' j hj)]
  exact gd_cnt f _ (fun i hi => h32' i (List.mem_append_right _ hi)) (List.nodup_append.1 hn').2.1
theorem cnt_le (f : Nat → BitVec 32) {L : List Nat} (hn : L.Nodup) {B : BitVec 32} (hfree : rk ((bitsL B).map f) = (bitsL B).length) (k : Nat) : cntB B (L.take k) ≤ rk ((L.take k).reverse.map f) := by
  have hM : ((L.take k).filter fun i => B.getLsbD i).Nodup := (hn.sublist (List.take_sublist k L)).sublist List.filter_sublist
  have h1 := rk_part f (L := bitsL B) hM (fun x hx => mem_bitsL.2 (List.mem_filter.1 hx).2) hfree
  unfold cntB
  rw [← h1]
  refine rk_mono fun x hx => ?_
  obtain ⟨i, hi, rfl⟩ := List.mem_map.1 hx
  exact Sp_mem (List.mem_map.2 ⟨i, List.mem_reverse.2 (List.mem_filter.1 hi).1, rfl⟩)
theorem cnt_all {L : List Nat} {n : Nat} (hn : L.Nodup) (hm : ∀ x, x ∈ L ↔ x < n) {B : BitVec 32} (hB : ∀ j, B.getLsbD j = true → j < n) : cntB B L = (bitsL B).length := by
  unfold cntB
  refine Nat.le_antisymm ((hn.sublist List.filter_sublist).length_le_of_subset fun x hx => mem_bitsL.2 (List.mem_filter.1 hx).2) ((bitsL_nodup B).length_le_of_subset fun x hx => ?_)
  have := mem_bitsL.1 hx
  exact List.mem_filter.2 ⟨(hm x).2 (hB x this), this⟩
theorem gd_best (f : Nat → BitVec 32) (wt : Nat → Int) {L : List Nat} {n : Nat} (h32 : n ≤ 32) (hn : L.Nodup) (hm : ∀ x, x ∈ L ↔ x < n) (hs : L.Pairwise (before wt)) {B : BitVec 32} (hB : ∀ j, B.getLsbD j = true → j < n)
    (hfree : rk ((bitsL B).map f) = (bitsL B).length) (hrank : (bitsL B).length = rk (L.reverse.map f)) :
    worthTo wt B n ≤ worthTo wt (gdR f L.reverse) n ∧ (worthTo wt B n = worthTo wt (gdR f L.reverse) n → B ≠ gdR f L.reverse → earlF (gdR f L.reverse) B = true) := by
  have hl32 : ∀ i ∈ L, i < 32 := fun i hi => by have := (hm i).1 hi; omega
  have hlen : L.length = n := Nat.le_antisymm (by
    have := hn.length_le_of_subset (l₂ := List.range n) fun x hx => List.mem_range.2 ((hm x).1 hx)
    rwa [List.length_range] at this) (by
    have := (List.nodup_range (n := n)).length_le_of_subset (l₂ := L) fun x hx => (hm x).2 (List.mem_range.1 hx)
    rwa [List.length_range] at this)
  have hperm : (List.range n).Perm L := (List.perm_ext_iff_of_nodup List.nodup_range hn).2 fun x => by rw [hm, List.mem_range]
  have hGt := fun k => gd_take f hn hl32 k
  have hBt := fun k => cnt_le f hn hfree k
  have hGn : ∀ j, (gdR f L.reverse).getLsbD j = true → j < n := fun j hj => (hm j).1 (List.mem_reverse.1 (gd_in f _ (fun i hi => hl32 i (List.mem_reverse.1 hi)) j hj))
  obtain ⟨G, hG⟩ : ∃ G, G = gdR f L.reverse := ⟨_, rfl⟩
  simp only [← hG] at hGt hGn ⊢
  have hstep : ∀ (s : BitVec 32) k, k < n → (cntB s (L.take (k + 1)) : Int) = (cntB s (L.take k) : Int) + (if s.getLsbD (L.getD k 0) = true then 1 else 0) := fun s k hk => by
    rw [List.take_succ_eq_append_getElem (by omega), cntB_snoc, getD_at L k (by omega)]
    split <;> simp
  have hsum : ∀ (s : BitVec 32) k, k < n → ((L.take (k + 1)).map (wAt wt s)).sum = ((L.take k).map (wAt wt s)).sum + (if s.getLsbD (L.getD k 0) = true then 1 else 0) * wt (L.getD k 0) := fun s k hk => by
    rw [List.take_succ_eq_append_getElem (by omega), List.map_append, List.sum_append, getD_at L k (by omega)]
    unfold wAt
    split <;> simp_all
  have hpg := List.pairwise_iff_getElem.1 hs
  have hord : ∀ i j, i < j → j < n → before wt (L.getD i 0) (L.getD j 0) := fun i j hij hj => by
    rw [getD_at L i (by omega), getD_at L j (by omega)]
    exact hpg i j (by omega) (by omega) hij
  have hab := abel n (fun k => if G.getLsbD (L.getD k 0) = true then 1 else 0) (fun k => if B.getLsbD (L.getD k 0) = true then 1 else 0) (fun k => wt (L.getD k 0)) (fun k => (cntB G (L.take k) : Int)) (fun k => (cntB B (L.take k) : Int)) (fun k => ((L.take k).map (wAt wt G)).sum) (fun k => ((L.take k).map (wAt wt B)).sum)
    rfl rfl rfl rfl (hstep G) (hstep B) (hsum G) (hsum B) (fun k _ => by have h1 := hGt k; have h2 := hBt k; show (cntB B (L.take k) : Int) ≤ (cntB G (L.take k) : Int); omega)
    (fun k hk => by rcases hord k (k + 1) (by omega) hk with h | h <;> show wt _ ≤ wt _ <;> omega)
  have hAn : cntB G (L.take n) = cntB B (L.take n) := by
    rw [hGt n, List.take_of_length_le (by omega), cnt_all hn hm hB, hrank]
  have hwG : worthTo wt G n = ((L.take n).map (wAt wt G)).sum := by rw [worth_sum, perm_sum _ hperm, List.take_of_length_le (by omega)]
  have hwB : worthTo wt B n = ((L.take n).map (wAt wt B)).sum := by rw [worth_sum, perm_sum _ hperm, List.take_of_length_le (by omega)]
  by_cases hn0 : n = 0
  · subst hn0
    refine ⟨Int.le_refl _, fun _ hne => absurd ?_ hne⟩
    apply BitVec.eq_of_getLsbD_eq
    intro j hj
    have h1 : B.getLsbD j = false := by rw [← Bool.not_eq_true]; exact fun e => absurd (hB j e) (by omega)
    have h2 : G.getLsbD j = false := by rw [← Bool.not_eq_true]; exact fun e => absurd (hGn j e) (by omega)
    rw [h1, h2]
  obtain ⟨m, rfl⟩ : ∃ m, n = m + 1 := ⟨n - 1, by omega⟩
  obtain ⟨h1, h2⟩ := hab m (Nat.le_refl _)
  simp only [hAn, Int.sub_self, Int.zero_mul] at h1 h2
  rw [hwG, hwB]
  refine ⟨by omega, fun he hne => ?_⟩
  have hdrop := h2 (by omega)
  unfold earlF
  cases hf : (List.range 32).find? (fun i => G.getLsbD i != B.getLsbD i) with
  | none =>
    exfalso
    apply hne
    apply BitVec.eq_of_getLsbD_eq
    intro j hj
    have := List.find?_eq_none.1 hf j (List.mem_range.2 hj)
    simp only [bne_iff_ne, ne_eq, Decidable.not_not] at this
    exact this.symm
  | some i =>
    have hi := List.find?_some hf
    obtain ⟨_, fs, bs, hr, hlow⟩ := List.find?_eq_some_iff_append.1 hf
    have hlow2 : ∀ j, j < i → G.getLsbD j = B.getLsbD j := fun j hj => by
      have hil : i < 32 := List.mem_range.1 (List.mem_of_find?_eq_some hf)
      have hasl : fs.length = i := by
        have h3 : (List.range 32)[fs.length]? = some i := by rw [hr, List.getElem?_append_right (Nat.le_refl _), Nat.sub_self]; rfl
        have h4 : fs.length < 32 := by
          have := congrArg List.length hr
          rw [List.length_range, List.length_append, List.length_cons] at this
          omega
        rw [List.getElem?_range h4] at h3
        simpa using h3
      have : j ∈ fs := by
        have h3 : (List.range 32)[j]? = fs[j]? := by rw [hr, List.getElem?_append_left (by omega)]
        rw [List.getElem?_range (by omega)] at h3
        exact List.mem_of_getElem? h3.symm
      have := hlow j this
      simpa using this
    cases hGi : G.getLsbD i with
    | true => exact hGi
    | false =>
      exfalso
      have hBi : B.getLsbD i = true := by
        rw [hGi] at hi
        cases hb : B.getLsbD i with
        | true => rfl
        | false => rw [hb] at hi; simp at hi
      obtain ⟨p, hp, hpe⟩ := List.mem_iff_getElem.1 ((hm i).2 (hB i hBi))
      have hpd : L.getD p 0 = i := by rw [getD_at L p hp]; exact hpe
      have hclaim : ∀ j, j ≤ p → wt (L.getD j 0) = wt i → cntB G (L.take j) = cntB B (L.take j) := by
        intro j
        induction j with
        | zero => intro _ _; rfl
        | succ j ih =>
          intro hj hwj
          rcases hord j (j + 1) (by omega) (by omega) with h | h
          · have h9 : (cntB G (L.take (j + 1)) : Int) = (cntB B (L.take (j + 1)) : Int) := hdrop j (by omega) h
            omega
          · have hjp : before wt (L.getD j 0) (L.getD p 0) := hord j p (by omega) (by omega)
            rw [hpd] at hjp
            have hji : L.getD j 0 < i := by
              rcases hjp with h' | h'
              · omega
              · exact h'.2
            have ih' := ih (by omega) (by omega)
            have hs1 := hstep G j (by omega)
            have hs2 := hstep B j (by omega)
            rw [hlow2 _ hji] at hs1
            omega
      have hc := hclaim p (Nat.le_refl _) (by rw [hpd])
      have hs1 := hstep G p (by omega)
      have hs2 := hstep B p (by omega)
      rw [hpd, hGi, if_neg (by simp)] at hs1
      rw [hpd, hBi, if_pos rfl] at hs2
      have h3 := hGt (p + 1)
      have h4 := hBt (p + 1)
      omega
end Go.Proofs.Ytdinknpagklkjaa

/- A stable sort of places by falling values, in plain Lean: insertion and selection make the same list. Conditions: none. -/
namespace Go.Proofs.Ytdinknpagklkjaa
open Go.RowKit

def valZ (sz : List Int) (a : Int) : Int := sz.getD a.toNat 0
/-- Ahead: the greater value; of the same the lesser place. -/
def bef (sz : List Int) (a b : Int) : Prop := valZ sz b < valZ sz a ∨ (valZ sz a = valZ sz b ∧ a < b)
theorem bef_trans {sz : List Int} {a b c : Int} (h : bef sz a b) (k : bef sz b c) : bef sz a c := by unfold bef at *; omega
theorem bef_asymm {sz : List Int} {a b : Int} (h : bef sz a b) (k : bef sz b a) : False := by unfold bef at *; omega
/-- The reference's search for the next one. -/
def pickTo (sz L : List Int) : Nat → Int
  | 0 => -1
  | i + 1 => if hasB L i = false ∧ (pickTo sz L i < 0 ∨ valZ sz (pickTo sz L i) < sz.getD i 0) then (i : Int) else pickTo sz L i
def fallsTo (sz : List Int) : Nat → List Int
  | 0 => []
  | k + 1 => fallsTo sz k ++ [pickTo sz (fallsTo sz k) sz.length]
theorem fallsTo_length (sz : List Int) : ∀ k, (fallsTo sz k).length = k
  | 0 => rfl
  | k + 1 => by rw [fallsTo, List.length_append, fallsTo_length sz k]; rfl
theorem pickTo_range (sz L : List Int) : ∀ m : Nat, -1 ≤ pickTo sz L m ∧ pickTo sz L m < m
  | 0 => by rw [pickTo]; omega
  | m + 1 => by
    have := pickTo_range sz L m
    rw [pickTo]
    split <;> omega
theorem pickTo_best (sz L : List Int) : ∀ m : Nat, (pickTo sz L m = -1 ∧ ∀ i : Nat, i < m → hasB L i = true) ∨
    (0 ≤ pickTo sz L m ∧ hasB L (pickTo sz L m) = false ∧ ∀ i : Nat, i < m → hasB L i = false → (i : Int) = pickTo sz L m ∨ bef sz (pickTo sz L m) i)
  | 0 => .inl ⟨rfl, fun i hi => by omega⟩
  | m + 1 => by
    have hr := pickTo_range sz L m
    rw [pickTo]
    split
    · rename_i h
      refine .inr ⟨by omega, h.1, fun i hi hno => ?_⟩
      by_cases him : i = m
      · exact .inl (by rw [him])
      · right
        rcases pickTo_best sz L m with ⟨h1, h2⟩ | ⟨h1, h2, h3⟩
        · rw [h2 i (by omega)] at hno; cases hno
        · have hv : valZ sz (pickTo sz L m) < valZ sz m := by
            rcases h.2 with h4 | h4
            · omega
            · exact h4
          rcases h3 i (by omega) hno with h4 | h4
          · rw [h4]; exact .inl hv
          · refine bef_trans (.inl hv) h4
    · rename_i h
      rcases pickTo_best sz L m with ⟨h1, h2⟩ | ⟨h1, h2, h3⟩
      · refine .inl ⟨h1, fun i hi => ?_⟩
        by_cases him : i = m
        · subst him
          cases hh : hasB L (i : Int) with
          | true => rfl
          | false => exact absurd ⟨hh, .inl (by omega)⟩ h
        · exact h2 i (by omega)
      · refine .inr ⟨h1, h2, fun i hi hno => ?_⟩
        by_cases him : i = m
        · subst him
          right
          have hv : ¬ valZ sz (pickTo sz L i) < valZ sz i := fun hlt => h ⟨hno, .inr hlt⟩
          unfold bef
          omega
        · exact h3 i (by omega) hno
theorem hasB_mem {L : List Int} {x : Int} : hasB L x = true ↔ x ∈ L := by
  unfold hasB
  rw [List.any_eq_true]
  constructor
  · rintro ⟨y, hy, h⟩
    have : x = y := by simpa using h
    rw [this]; exact hy
  · intro h
    exact ⟨x, h, by simp⟩
theorem hasB_not {L : List Int} {x : Int} : hasB L x = false ↔ x ∉ L := by
  rw [← hasB_mem]
  cases hasB L x <;> simp
/-- A list of all places in that order is what the reference finds. -/
theorem sorted_falls {sz s : List Int} {n : Nat} (hn : sz.length = n) (hl : s.length = n) (hp : s.Pairwise (bef sz)) (hm : ∀ x, x ∈ s ↔ 0 ≤ x ∧ x < n) : ∀ k, k ≤ n → fallsTo sz k = s.take k
  | 0, _ => rfl
  | k + 1, hk => by
    have ih := sorted_falls hn hl hp hm k (by omega)
    have hkl : k < s.length := by omega
    rw [fallsTo, ih, List.take_succ_eq_append_getElem hkl, hn]
    congr 2
    have hpg := List.pairwise_iff_getElem.1 hp
    have hsk := (hm s[k]).1 (List.getElem_mem hkl)
    obtain ⟨c, hc⟩ := Int.eq_ofNat_of_zero_le hsk.1
    have hcn : c < n := by omega
    have hnot : s[k] ∉ s.take k := fun h => by
      obtain ⟨i, hi, he⟩ := List.mem_take_iff_getElem.1 h
      have := hpg i k (by omega) hkl (by omega)
      rw [he] at this
      exact bef_asymm this this
    rcases pickTo_best sz (s.take k) n with ⟨_, h2⟩ | ⟨h1, h2, h3⟩
    · have := h2 c hcn
      rw [← hc] at this
      exact absurd (hasB_mem.1 this) hnot
    · have hr := pickTo_range sz (s.take k) n
      have hpm : pickTo sz (s.take k) n ∈ s := (hm _).2 ⟨h1, hr.2⟩
      have hps : pickTo sz (s.take k) n = s[k] ∨ bef sz s[k] (pickTo sz (s.take k) n) := by
        obtain ⟨i, hi, he⟩ := List.getElem_of_mem hpm
        rcases Nat.lt_trichotomy i k with h | h | h
        · exact absurd (List.mem_take_iff_getElem.2 ⟨i, by omega, he⟩) (hasB_not.1 h2)
        · subst h; exact .inl he.symm
        · right
          rw [← he]
          exact hpg k i hkl hi h
      rcases h3 c hcn (by rw [← hc]; exact hasB_not.2 hnot) with h4 | h4
      · rw [← h4, hc]
      · rw [← hc] at h4
        rcases hps with h5 | h5
        · exact h5
        · exact (bef_asymm h4 h5).elim

/-! Insertion. -/
def restL (n i : Nat) : List Int := (List.range (n - i)).map fun q : Nat => ((i + q : Nat) : Int)
theorem restL_cons {n i : Nat} (h : i < n) : restL n i = (i : Int) :: restL n (i + 1) := by
  unfold restL
  obtain ⟨d, hd⟩ : ∃ d, n - i = d + 1 := ⟨n - i - 1, by omega⟩
  rw [hd, List.range_succ_eq_map, List.map_cons, List.map_map, show n - (i + 1) = d by omega]
  congr 1
  refine List.map_congr_left fun q _ => ?_
  show ((i + (q + 1) : Nat) : Int) = ((i + 1 + q : Nat) : Int)
  congr 1
  omega
/-- The first i are in order; the rest lies as it lay. -/
structure SortSt (sz : List Int) (n i : Nat) (u : List Int) : Prop where
  split : ∃ P, u = P ++ restL n i ∧ P.length = i ∧ P.Pairwise (bef sz) ∧ ∀ x, x ∈ P ↔ 0 ≤ x ∧ x < i
/-- One is on its way to its place j. -/
structure InSt (sz : List Int) (n i j : Nat) (u : List Int) : Prop where
  split : ∃ P S, u = P ++ (i : Int) :: (S ++ restL n (i + 1)) ∧ P.length = j ∧ (P ++ S).length = i ∧ (P ++ S).Pairwise (bef sz) ∧ (∀ x, x ∈ P ++ S ↔ 0 ≤ x ∧ x < i) ∧ ∀ x ∈ S, valZ sz x < valZ sz i
theorem sort_start (sz : List Int) (n : Nat) : SortSt sz n 0 (restL n 0) := ⟨[], rfl, rfl, .nil, fun x => by simp; try omega⟩
theorem sort_enter {sz : List Int} {n i : Nat} {u : List Int} (h : SortSt sz n i u) (hi : i < n) : InSt sz n i i u := by
  obtain ⟨P, h1, h2, h3, h4⟩ := h.split
  exact ⟨P, [], by rw [h1, restL_cons hi]; rfl, h2, by simpa using h2, by simpa using h3, by simpa using h4, by simp⟩
theorem in_length {sz : List Int} {n i j : Nat} {u : List Int} (h : InSt sz n i j u) (hi : i < n) : u.length = n := by
  obtain ⟨P, S, h1, h2, h3, _⟩ := h.split
  rw [List.length_append] at h3
  rw [h1, List.length_append, List.length_cons, List.length_append]
  unfold restL
  rw [List.length_map, List.length_range]
  omega
theorem in_here {sz : List Int} {n i j : Nat} {u : List Int} (h : InSt sz n i j u) : u.getD j 0 = i ∧ j ≤ i := by
  obtain ⟨P, S, h1, h2, h3, _⟩ := h.split
  rw [List.length_append] at h3
  refine ⟨?_, by omega⟩
  rw [h1, List.getD_eq_getElem?_getD, List.getElem?_append_right (by omega), h2, Nat.sub_self]
  rfl
theorem in_last {sz : List Int} {n i j : Nat} {u : List Int} (h : InSt sz n i (j + 1) u) : ∃ P x, ∃ S, u = P ++ x :: (i : Int) :: (S ++ restL n (i + 1)) ∧ P.length = j ∧ u.getD j 0 = x ∧ 0 ≤ x ∧ x < i ∧ (P ++ x :: S).Pairwise (bef sz) ∧ (P ++ x :: S).length = i ∧ (∀ y, y ∈ P ++ x :: S ↔ 0 ≤ y ∧ y < i) ∧ ∀ y ∈ S, valZ sz y < valZ sz i := by
  obtain ⟨P, S, h1, h2, h3, h4, h5, h6⟩ := h.split
  obtain ⟨P', x, rfl⟩ : ∃ P' x, P = P' ++ [x] := by
    rcases List.eq_nil_or_concat P with rfl | ⟨P', x, rfl⟩
    · simp at h2
    · exact ⟨P', x, by simp⟩
  have hP : P'.length = j := by simp at h2; omega
  rw [List.append_assoc] at h1 h3 h4 h5
  simp only [List.singleton_append] at h1 h3 h4 h5
  have hx := (h5 x).1 (by simp)
  refine ⟨P', x, S, h1, hP, ?_, hx.1, hx.2, h4, h3, h5, h6⟩
  rw [h1, List.getD_eq_getElem?_getD, List.getElem?_append_right (by omega), hP, Nat.sub_self]
  rfl
theorem in_swap {sz : List Int} {n i j : Nat} {u : List Int} (h : InSt sz n i (j + 1) u) (hv : valZ sz (u.getD j 0) < valZ sz i) : InSt sz n i j ((u.set (j + 1) (u.getD j 0)).set j i) := by
  obtain ⟨P, x, S, h1, h2, h3, h4, h5, h6, h7, h8, h9⟩ := in_last h
  rw [h3] at hv ⊢
  refine ⟨P, x :: S, ?_, h2, h7, h6, h8, fun y hy => ?_⟩
  · rw [h1, List.set_append_right _ _ (by omega), show j + 1 - P.length = 1 by omega, List.set_append_right _ _ (by omega), show j - P.length = 0 by omega]
    rfl
  · rcases List.mem_cons.1 hy with rfl | hy
    · exact hv
    · exact h9 y hy
theorem in_done {sz : List Int} {n i j : Nat} {u : List Int} (h : InSt sz n i j u) (hv : j = 0 ∨ ∃ k, j = k + 1 ∧ ¬ valZ sz (u.getD k 0) < valZ sz i) : SortSt sz n (i + 1) u := by
  have key : ∀ P S : List Int, (P ++ S).Pairwise (bef sz) → (∀ x ∈ P, bef sz x i) → (∀ x ∈ S, bef sz i x) → (P ++ (i : Int) :: S).Pairwise (bef sz) := by
    intro P S h1 h2 h3
    obtain ⟨a1, a2, a3⟩ := List.pairwise_append.1 h1
    refine List.pairwise_append.2 ⟨a1, List.pairwise_cons.2 ⟨h3, a2⟩, fun x hx y hy => ?_⟩
    rcases List.mem_cons.1 hy with rfl | hy
    · exact h2 x hx
    · exact a3 x hx y hy
  obtain ⟨P, S, h1, h2, h3, h4, h5, h6⟩ := h.split
  have hP : ∀ x ∈ P, bef sz x i := by
    rcases hv with rfl | ⟨k, rfl, hk⟩
    · have : P = [] := List.eq_nil_of_length_eq_zero h2
      rw [this]; simp
    · obtain ⟨P', z, rfl⟩ : ∃ P' z, P = P' ++ [z] := by
        rcases List.eq_nil_or_concat P with rfl | ⟨P', x, rfl⟩
        · simp at h2
        · exact ⟨P', x, by simp⟩
      have hPk : P'.length = k := by simp at h2; omega
      have hz : u.getD k 0 = z := by
        rw [h1, List.getD_eq_getElem?_getD, List.append_assoc, List.getElem?_append_right (by omega), hPk, Nat.sub_self]
        rfl
      rw [hz] at hk
      have hzi := (h5 z).1 (by simp)
      have hbz : bef sz z i := by unfold bef; omega
      intro x hx
      rcases List.mem_append.1 hx with hx | hx
      · have a1 := (List.pairwise_append.1 (List.pairwise_append.1 h4).1).2.2 x hx z (by simp)
        exact bef_trans a1 hbz
      · rw [List.mem_singleton] at hx
        rw [hx]; exact hbz
  refine ⟨P ++ (i : Int) :: S, by rw [h1, List.append_assoc]; rfl, ?_, key P S h4 hP (fun x hx => .inl (h6 x hx)), fun x => ?_⟩
  · rw [List.length_append] at h3 ⊢
    rw [List.length_cons]
    omega
  · have := h5 x
    rw [List.mem_append] at this ⊢
    rw [List.mem_cons]
    constructor
    · rintro (hx | rfl | hx)
      · have := this.1 (.inl hx); omega
      · omega
      · have := this.1 (.inr hx); omega
    · intro hx
      by_cases hxi : x = i
      · exact .inr (.inl hxi)
      · rcases this.2 (by omega) with h | h
        · exact .inl h
        · exact .inr (.inr h)
theorem sort_end {sz : List Int} {n : Nat} {u : List Int} (hn : sz.length = n) (h : SortSt sz n n u) : u = fallsTo sz n ∧ u.Nodup ∧ ∀ x, x ∈ u ↔ 0 ≤ x ∧ x < n := by
  obtain ⟨P, h1, h2, h3, h4⟩ := h.split
  have e : restL n n = [] := by unfold restL; rw [Nat.sub_self]; rfl
  rw [e, List.append_nil] at h1
  subst h1
  have := sorted_falls hn h2 h3 h4 n (Nat.le_refl _)
  rw [List.take_of_length_le (by omega)] at this
  refine ⟨this.symm, h3.imp fun {a b} hab e => ?_, h4⟩
  subst e
  exact bef_asymm hab hab
/-- The list that insertion makes is there, whatever the values. -/
theorem sort_exists (sz : List Int) (n : Nat) : ∀ i, i ≤ n → ∃ u, SortSt sz n i u
  | 0, _ => ⟨_, sort_start sz n⟩
  | i + 1, h => by
    obtain ⟨u, hu⟩ := sort_exists sz n i (by omega)
    have key : ∀ j u, InSt sz n i j u → ∃ u, SortSt sz n (i + 1) u := by
      intro j
      induction j with
      | zero => exact fun u h => ⟨u, in_done h (.inl rfl)⟩
      | succ j ih =>
        intro u h
        by_cases hv : valZ sz (u.getD j 0) < valZ sz i
        · exact ih _ (in_swap h hv)
        · exact ⟨u, in_done h (.inr ⟨j, rfl, hv⟩)⟩
    exact key i u (sort_enter hu (by omega))
theorem falls_all {sz : List Int} {n : Nat} (hn : sz.length = n) : (fallsTo sz n).Nodup ∧ ∀ x, x ∈ fallsTo sz n ↔ 0 ≤ x ∧ x < n := by
  obtain ⟨u, hu⟩ := sort_exists sz n n (Nat.le_refl _)
  obtain ⟨rfl, h⟩ := sort_end hn hu
  exact h
theorem falls_in {sz : List Int} {n : Nat} (hn : sz.length = n) : ∀ k, k < n → 0 ≤ (fallsTo sz n).getD k 0 ∧ (fallsTo sz n).getD k 0 < n := fun k hk => by
  have hl := fallsTo_length sz n
  rw [getD_at _ k (by omega) 0]
  exact ((falls_all hn).2 _).1 (List.getElem_mem _)
end Go.Proofs.Ytdinknpagklkjaa

/- slices.SortStableFunc of at most eight places, by falling values. Conditions: the closure compares the values; the places lie in a row of the caller's own. -/
namespace Go.Proofs.Ytdinknpagklkjaa
open Go.RowKit

def cmpI (x y : Int) : Int := if x < y then -1 else if y < x then 1 else 0
theorem cmpI_neg (x y : Int) : cmpI x y < 0 ↔ x < y := by unfold cmpI; split <;> (try split) <;> omega
set_option maxRecDepth 100000 in
theorem cmp_Compare (x y : Int) (w : World) :
    Calls Try.prog 77 #[.int .i64 x, .int .i64 y] w fun e w' => e = .returned (.int .i64 (cmpI x y)) ∧ w = w' := by
  have hn : ∀ z : Int, Calls Try.prog 110 #[.int .i64 z] w fun e w' => e = .returned (.bool false) ∧ w = w' := fun z => by
    have hz : (z != z) = false := by simp
    go_enter Try.func110, Try.ntmps110
    go_wp2_with fail
    go_ret
    exact ⟨rfl, rfl⟩
  have HN := Lib.hid hn
  have HC : Hid (cmpI x y = if x < y then -1 else if y < x then 1 else 0) := Lib.hid rfl
  clear hn
  by_cases h1 : x < y
  · go_enter Try.func77, Try.ntmps77
    go_wp2_with fail
    refine (HN.out x).mono ?_
    rintro e w' ⟨rfl, rfl⟩
    go_wp2_with fail
    refine (HN.out y).mono ?_
    rintro e w' ⟨rfl, rfl⟩
    go_wp2_with fail
    go_ret
    exact ⟨ret_i64 (by rw [HC.out, if_pos h1]), rfl⟩
  · by_cases h2 : y < x
    · go_enter Try.func77, Try.ntmps77
      go_wp2_with fail
      refine (HN.out x).mono ?_
      rintro e w' ⟨rfl, rfl⟩
      go_wp2_with fail
      refine (HN.out y).mono ?_
      rintro e w' ⟨rfl, rfl⟩
      go_wp2_with fail
      go_ret
      exact ⟨ret_i64 (by rw [HC.out]; split <;> (try split) <;> omega), rfl⟩
    · go_enter Try.func77, Try.ntmps77
      go_wp2_with fail
      refine (HN.out x).mono ?_
      rintro e w' ⟨rfl, rfl⟩
      go_wp2_with fail
      refine (HN.out y).mono ?_
      rintro e w' ⟨rfl, rfl⟩
      go_wp2_with fail
      go_ret
      exact ⟨ret_i64 (by rw [HC.out]; split <;> (try split) <;> omega), rfl⟩

/-- A closure that compares the values of two places. -/
def Cmps (F : FuncId) (cap : Array Value) (sz : List Int) (n B : Nat) (w : World) : Prop :=
  ∀ (a b : Int) (wx : World), 0 ≤ a → a < n → 0 ≤ b → b < n → Below B w wx → Calls Try.prog F (#[.int .i64 a, .int .i64 b] ++ cap) wx fun e w' => e = .returned (.int .i64 (cmpI (valZ sz b) (valZ sz a))) ∧ ∃ m, w' = wx.drewN m

set_option maxRecDepth 100000 in
set_option maxHeartbeats 1000000 in
theorem insertion (F : FuncId) (hF : Ent Try.prog F) (cap : Array Value) (sz : List Int) (A : Option Addr) (n cp B : Nat) (w : World) (hn : sz.length = n) (h8 : n ≤ 16) (hB : B ≤ w.heap.size) (hc : Cmps F cap sz n B w) (ho : Own w B 3 1 icell A cp (restL n 0)) :
    Calls Try.prog 131 #[.slice A n cp, .int .i64 0, .int .i64 n, .func (.func F) #[] cap] w fun e w' => (∃ v, e = .returned v) ∧ Below B w w' ∧ ∃ u, SortSt sz n n u ∧ Own w' B 3 1 icell A cp u := by
  unfold Ent at hF
  unfold Cmps at hc
  have HC := Lib.hid hc
  have HO := Lib.hid ho
  have hst : SortSt sz n (min 1 n) (restL n 0) := by
    have h0 := sort_start sz n
    by_cases h : n = 0
    · subst h; exact h0
    · rw [Nat.min_eq_left (by omega)]
      exact in_done (sort_enter h0 (by omega)) (.inl rfl)
  have HST := Lib.hid hst
  clear hc ho hst
  go_enter Try.func131, Try.ntmps131
  go_wp2_with fail
  go_loopw [8] (fun s wr => ∃ (k : Nat) (u : List Int), 1 ≤ k ∧ k ≤ n + 1 ∧ s = .int .i64 k ∧ Below B w wr ∧ SortSt sz n (min k n) u ∧ Own wr B 3 1 icell A cp u) (fun s _ => n - (intOf s).toNat)
  case atStart => exact ⟨1, _, by omega, by omega, rfl, Below.refl _ _, HST.out, HO.out⟩
  case round =>
    clear HST HO
    rename World => wr
    obtain ⟨k, u, hk1, hkn, rfl, hb, hst, hown⟩ := hrel
    have HB := Lib.hid hb
    have HST := Lib.hid hst
    have HO := Lib.hid hown
    by_cases hlt : k < n
    · have hin : InSt sz n k k u := sort_enter (by rw [Nat.min_eq_left (by omega)] at hst; exact hst) hlt
      have HIN := Lib.hid hin
      clear hb hst hown hin HST
      go_wp2_with fail
      go_loopw [9] (fun s w2 => ∃ (j : Nat) (u : List Int), j ≤ k ∧ s = .int .i64 j ∧ Below B w w2 ∧ InSt sz n k j u ∧ Own w2 B 3 1 icell A cp u) (fun s _ => (intOf s).toNat)
      case atStart => exact ⟨k, u, by omega, rfl, HB.out, HIN.out, HO.out⟩
      case round =>
        clear HB HIN HO
        rename World => w2
        obtain ⟨j, u, hj, rfl, hb, hin, hown⟩ := hrel
        have HB := Lib.hid hb
        have HIN := Lib.hid hin
        have HO := Lib.hid hown
        have hul := in_length hin hlt
        by_cases hj0 : j = 0
        · subst hj0
          have HD : Hid (SortSt sz n (min (k + 1) n) u) := Lib.hid (by rw [Nat.min_eq_left (by omega)]; exact in_done hin (.inl rfl))
          clear hb hin hown
          go_wp2_with fail
          go_quiet (fail)
          go_wp2_with fail
          go_roundw
          case rel => exact ⟨k + 1, u, by omega, by omega, by go_num, below_drewN HB.out _, HD.out, HO.out.drewN _⟩
          case measure => simp [intOf]; omega
        · obtain ⟨q, rfl⟩ : ∃ q, j = q + 1 := ⟨j - 1, by omega⟩
          obtain ⟨P, x, S, hu, hP, hx, hx0, hxk, _⟩ := in_last hin
          have hhere := (in_here hin).1
          have hl1 : q + 1 < u.length := by omega
          have hl2 : q < u.length := by omega
          obtain ⟨g, rfl, hg1, hg2, ca, fa⟩ := hown.cell1 (f := fun x => .int .i64 x) (k := q + 1) hl1
          obtain ⟨g', hgg, _, _, cb, fb⟩ := hown.cell1 (f := fun x => .int .i64 x) (k := q) hl2
          obtain rfl : g = g' := by simpa using hgg
          rw [← getD_at u _ hl1 0, hhere] at ca
          rw [← getD_at u _ hl2 0, hx] at cb
          have HCL : Hid (∀ N, Calls Try.prog F (#[.int .i64 k, .int .i64 x] ++ cap) (w2.drewN N) fun e w' => e = .returned (.int .i64 (cmpI (valZ sz x) (valZ sz k))) ∧ ∃ m, w' = (w2.drewN N).drewN m) :=
            Lib.hid (fun N => HC.out k x (w2.drewN N) (by omega) (by omega) hx0 (by omega) (below_drewN hb N))
          have hneg := cmpI_neg (valZ sz x) (valZ sz k)
          have hdone : ¬ valZ sz x < valZ sz k → SortSt sz n (min (k + 1) n) u := fun h => by
            rw [Nat.min_eq_left (by omega)]
            exact in_done hin (.inr ⟨q, rfl, by rw [hx]; exact h⟩)
          have hswap : valZ sz x < valZ sz k → InSt sz n k q ((u.set (q + 1) x).set q k) := fun h => by
            have := in_swap hin (by rw [hx]; exact h)
            rwa [hx] at this
          have HDN := Lib.hid hdone
          have HSW := Lib.hid hswap
          have HNG := Lib.hid hneg
          obtain ⟨z, hz⟩ : ∃ z, z = cmpI (valZ sz x) (valZ sz k) := ⟨_, rfl⟩
          rw [← hz] at HCL HNG
          have hq1 : ((q + 1 : Nat) : Int) - 1 = (q : Int) := by omega
          clear hb hin hown hu hP hx hhere hgg hz hneg hdone hswap
          by_cases hc : z < 0
          · have HN := Lib.hid (HSW.out (HNG.out.1 hc))
            go_wp2_with fail
            go_quiet (exact quietN (HCL.out _))
            go_wp2_with fail
            go_region
            all_goals
              go_wp2_with fail
              go_roundw
              case rel => exact ⟨q, _, by omega, by go_num, ((below_drewN HB.out _).setCell (show B ≤ g by omega) _).setCell (show B ≤ g by omega) _, HN.out, ((HO.out.drewN _).put1 (f := fun x => .int .i64 x) (x := x) hl1).put1 (f := fun x => .int .i64 x) (x := (k : Int)) (by rw [List.length_set]; omega)⟩
              case measure => simp [intOf] <;> omega
          · have HN := Lib.hid (HDN.out (fun h => hc (HNG.out.2 h)))
            go_wp2_with fail
            go_quiet (exact quietN (HCL.out _))
            go_wp2_with fail
            go_roundw
            case rel => exact ⟨k + 1, u, by omega, by omega, by go_num, below_drewN HB.out _, HN.out, HO.out.drewN _⟩
            case measure => simp [intOf]; omega
    · have hmin : min k n = n := by omega
      rw [hmin] at hst
      have HS2 := Lib.hid hst
      clear hb hst hown
      go_wp2_with fail
      go_end0
      exact ⟨⟨_, rfl⟩, HB.out, u, HS2.out, HO.out⟩

set_option maxRecDepth 100000 in
theorem sort_stable (F : FuncId) (hF : Ent Try.prog F) (cap : Array Value) (sz : List Int) (A : Option Addr) (n cp B : Nat) (w : World) (hn : sz.length = n) (h8 : n ≤ 16) (hB : B ≤ w.heap.size) (hc : Cmps F cap sz n B w) (ho : Own w B 3 1 icell A cp (restL n 0)) :
    Calls Try.prog 75 #[.slice A n cp, .func (.func F) #[] cap] w fun e w' => (∃ v, e = .returned v) ∧ Below B w w' ∧ ∃ u, SortSt sz n n u ∧ Own w' B 3 1 icell A cp u := by
  have HI := Lib.hid (insertion F hF cap sz A n cp B w hn h8 hB hc ho)
  clear hc ho
  have HS : Hid (Calls Try.prog 109 #[.slice A n cp, .int .i64 n, .func (.func F) #[] cap] w fun e w' => (∃ v, e = .returned v) ∧ Below B w w' ∧ ∃ u, SortSt sz n n u ∧ Own w' B 3 1 icell A cp u) := Lib.hid (by
    go_enter Try.func109, Try.ntmps109
    go_wp2_with fail
    go_loop [7, 8] (fun a s => a = .int .i64 0 ∧ s = .int .i64 20) (fun _ _ => 0)
    case atStart => exact ⟨rfl, rfl⟩
    case round =>
      obtain ⟨rfl, rfl⟩ := hrel
      go_wp2_with fail
      refine HI.out.mono ?_
      rintro e w' ⟨⟨v, rfl⟩, hb, hu⟩
      have HB := Lib.hid hb
      have HU := Lib.hid hu
      clear hb hu
      go_wp2_with fail
      go_loop [6] (fun s => s = .int .i64 20) (fun _ => 0)
      case atStart => rfl
      case round =>
        subst hrel
        go_wp2_with fail
        go_end0
        exact ⟨⟨_, rfl⟩, HB.out, HU.out⟩)
  go_enter Try.func75, Try.ntmps75
  go_wp2_with fail
  refine HS.out.mono ?_
  rintro e w' ⟨⟨v, rfl⟩, hb, hu⟩
  have HB := Lib.hid hb
  have HU := Lib.hid hu
  clear hb hu
  go_wp2_with fail
  go_end0
  exact ⟨⟨_, rfl⟩, HB.out, HU.out⟩
end Go.Proofs.Ytdinknpagklkjaa
