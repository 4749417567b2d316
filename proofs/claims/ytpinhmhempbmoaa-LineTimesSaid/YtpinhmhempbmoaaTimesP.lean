/- When jobs may begin, in plain Lean: in an order, and turn by turn. Conditions: none. -/
import Derived.Test.YtpinhmhempbmoaaLineP
namespace Go.Proofs.Ytpinhmhempbmoaa
open Go.RowKit
/-- The numbers with one turned. -/
def upd (x : Nat → Int) (i : Nat) (v : Int) : Nat → Int := fun j => if j = i then v else x j
theorem upd_same (x : Nat → Int) (i : Nat) (v : Int) : upd x i v i = v := by unfold upd; rw [if_pos rfl]
theorem upd_ne (x : Nat → Int) {i j : Nat} (v : Int) (h : j ≠ i) : upd x i v j = x j := by unfold upd; rw [if_neg h]

/-- Jobs: so many, what is ahead of each, how long each takes, an order. -/
structure Plan where
  n : Nat
  A : Nat → List Nat
  tm : Nat → Int
  ord : List Nat
structure PlanOk (p : Plan) : Prop where
  nodup : p.ord.Nodup
  mem : ∀ i, i ∈ p.ord ↔ i < p.n
  A : ∀ i k, k ∈ p.A i → k < p.n
  tm : ∀ i, 0 ≤ p.tm i ∧ p.tm i ≤ 1048576
  dep : ∀ a i b, p.ord = a ++ i :: b → ∀ k ∈ p.A i, k ∈ a
section
variable (p : Plan)
def relE (i : Nat) (x : Nat → Int) (k : Nat) : Nat → Int := upd x i (max (x i) (x k + p.tm k))
def rowE (x : Nat → Int) (i : Nat) : Nat → Int := (p.A i).foldl (relE p i) x
def earlyP (l : List Nat) : Nat → Int := l.foldl (rowE p) (fun _ => 0)
def passE (x : Nat → Int) : Nat → Int := (List.range p.n).foldl (rowE p) x
def earlyR : Nat → Nat → Int
  | 0 => fun _ => 0
  | k + 1 => passE p (earlyR k)
def relT (i : Nat) (x : Nat → Int) (k : Nat) : Nat → Int := upd x k (max (x k) (x i + p.tm k))
def rowT (x : Nat → Int) (i : Nat) : Nat → Int := (p.A i).foldl (relT p i) x
def tailP (l : List Nat) : Nat → Int := l.foldl (rowT p) p.tm
/-- The end, as they come. -/
def endOf (x : Nat → Int) (l : List Nat) : Int := l.foldl (fun e i => max e (x i + p.tm i)) 0
/-- The longest of what hangs on one. -/
def hangs (T : Nat → Int) (i : Nat) (k : Nat) : Int := (List.range k).foldl (fun x j => if (p.A j).contains i && decide (x < T j) then T j else x) 0
end
variable {p : Plan}
/-! ### One row -/
theorem rowE_ne {i j : Nat} (h : j ≠ i) : ∀ (ks : List Nat) (x : Nat → Int), ks.foldl (relE p i) x j = x j
  | [], _ => rfl
  | k :: ks, x => by rw [List.foldl_cons, rowE_ne h ks]; exact upd_ne x _ h
theorem relE_le (i k : Nat) (x : Nat → Int) (j : Nat) : x j ≤ relE p i x k j := by
  unfold relE upd
  split
  · rename_i h; subst h; exact Int.le_max_left _ _
  · exact Int.le_refl _
theorem rowE_le (i : Nat) : ∀ (ks : List Nat) (x : Nat → Int) (j : Nat), x j ≤ ks.foldl (relE p i) x j
  | [], _, _ => Int.le_refl _
  | k :: ks, x, j => by rw [List.foldl_cons]; exact Int.le_trans (relE_le i k x j) (rowE_le i ks _ j)
theorem rowE_dep {i k : Nat} : ∀ (ks : List Nat) (x : Nat → Int), k ∈ ks → x k + p.tm k ≤ ks.foldl (relE p i) x i
  | [], _, h => by cases h
  | a :: ks, x, h => by
    rw [List.foldl_cons]
    rcases List.mem_cons.1 h with rfl | h
    · refine Int.le_trans ?_ (rowE_le i ks _ i)
      unfold relE
      rw [upd_same]
      exact Int.le_max_right _ _
    · exact Int.le_trans (Int.add_le_add_right (relE_le i a x k) _) (rowE_dep ks _ h)
theorem rowE_is {i : Nat} : ∀ (ks : List Nat) (x : Nat → Int), i ∉ ks → ks.foldl (relE p i) x i = x i ∨ ∃ k ∈ ks, ks.foldl (relE p i) x i = x k + p.tm k
  | [], _, _ => .inl rfl
  | a :: ks, x, h => by
    rw [List.foldl_cons]
    have ha : a ≠ i := fun e => h (by rw [e]; exact List.mem_cons_self)
    have hks : i ∉ ks := fun e => h (List.mem_cons_of_mem _ e)
    rcases rowE_is ks (relE p i x a) hks with h1 | ⟨k, hk, h1⟩
    · rw [h1]
      unfold relE
      rw [upd_same]
      rcases Int.le_total (x i) (x a + p.tm a) with h2 | h2
      · exact .inr ⟨a, List.mem_cons_self, Int.max_eq_right h2⟩
      · exact .inl (Int.max_eq_left h2)
    · refine .inr ⟨k, List.mem_cons_of_mem _ hk, ?_⟩
      rw [h1]
      unfold relE
      rw [upd_ne _ _ (fun e => hks (by rw [← e]; exact hk))]
theorem rowE_low {E : Nat → Int} (hE : ∀ i k, k ∈ p.A i → E k + p.tm k ≤ E i) {i : Nat} : ∀ (ks : List Nat) (x : Nat → Int), (∀ k ∈ ks, k ∈ p.A i) → (∀ j, x j ≤ E j) → ∀ j, ks.foldl (relE p i) x j ≤ E j
  | [], _, _, h => h
  | a :: ks, x, hs, h => by
    rw [List.foldl_cons]
    refine rowE_low hE ks _ (fun k hk => hs k (List.mem_cons_of_mem _ hk)) fun j => ?_
    unfold relE upd
    split
    · rename_i e
      subst e
      have h1 := hE j a (hs a List.mem_cons_self)
      have h2 := h a
      exact Int.max_le.2 ⟨h j, by omega⟩
    · exact h j
/-! ### In an order -/
structure EarlyOk (p : Plan) (E : Nat → Int) : Prop where
  le : ∀ i k, k ∈ p.A i → E k + p.tm k ≤ E i
  is : ∀ i, E i = 0 ∨ ∃ k ∈ p.A i, E i = E k + p.tm k
  pos : ∀ i, 0 ≤ E i
theorem early_far {i : Nat} : ∀ (l : List Nat) (x : Nat → Int), i ∉ l → l.foldl (rowE p) x i = x i
  | [], _, _ => rfl
  | a :: l, x, h => by
    rw [List.foldl_cons, early_far l _ (fun e => h (List.mem_cons_of_mem _ e))]
    exact rowE_ne (fun e => h (by rw [e]; exact List.mem_cons_self)) _ _
theorem early_le : ∀ (l : List Nat) (x : Nat → Int) (j : Nat), x j ≤ l.foldl (rowE p) x j
  | [], _, _ => Int.le_refl _
  | a :: l, x, j => by rw [List.foldl_cons]; exact Int.le_trans (rowE_le a _ x j) (early_le l _ j)
theorem early_low {E : Nat → Int} (hE : ∀ i k, k ∈ p.A i → E k + p.tm k ≤ E i) : ∀ (l : List Nat) (x : Nat → Int), (∀ j, x j ≤ E j) → ∀ j, l.foldl (rowE p) x j ≤ E j
  | [], _, h => h
  | a :: l, x, h => by
    rw [List.foldl_cons]
    exact early_low hE l _ (rowE_low hE _ x (fun k hk => hk) h)
/-- Behind its own row one stays. -/
theorem early_split (hp : PlanOk p) {a b : List Nat} {i : Nat} (h : p.ord = a ++ i :: b) : earlyP p p.ord i = rowE p (earlyP p a) i i ∧ ∀ k ∈ a, earlyP p p.ord k = earlyP p a k := by
  have hnd := hp.nodup
  rw [h] at hnd
  have hnd2 := List.nodup_append.1 hnd
  have hib : i ∉ b := (List.nodup_cons.1 hnd2.2.1).1
  have he : earlyP p p.ord = b.foldl (rowE p) (rowE p (earlyP p a) i) := by
    unfold earlyP
    rw [h, List.foldl_append, List.foldl_cons]
  refine ⟨by rw [he, early_far b _ hib], fun k hk => ?_⟩
  have hki : k ≠ i := fun e => hnd2.2.2 k hk i List.mem_cons_self e
  have hkb : k ∉ b := fun e => hnd2.2.2 k hk k (List.mem_cons_of_mem _ e) rfl
  rw [he, early_far b _ hkb]
  exact rowE_ne hki _ _
theorem dep_self (hp : PlanOk p) {a b : List Nat} {i : Nat} (h : p.ord = a ++ i :: b) : i ∉ p.A i := fun hi => by
  have h1 := hp.dep a i b h i hi
  have hnd := hp.nodup
  rw [h] at hnd
  exact (List.nodup_append.1 hnd).2.2 i h1 i List.mem_cons_self rfl
theorem A_out {i : Nat} (h : ∀ k, ¬ (k ∈ p.A i)) : p.A i = [] := by
  cases hA : p.A i with
  | nil => rfl
  | cons k l => exact absurd (by rw [hA]; exact List.mem_cons_self) (h k)
theorem early_ok (hp : PlanOk p) (hA : ∀ i, p.n ≤ i → p.A i = []) : EarlyOk p (earlyP p p.ord) := by
  refine ⟨fun i k hk => ?_, fun i => ?_, fun i => early_le p.ord (fun _ => 0) i⟩
  · by_cases hi : i < p.n
    · obtain ⟨a, b, h⟩ := List.append_of_mem ((hp.mem i).2 hi)
      obtain ⟨h1, h2⟩ := early_split hp h
      rw [h1, h2 k (hp.dep a i b h k hk)]
      exact rowE_dep _ _ hk
    · rw [hA i (by omega)] at hk; cases hk
  · by_cases hi : i < p.n
    · obtain ⟨a, b, h⟩ := List.append_of_mem ((hp.mem i).2 hi)
      obtain ⟨h1, h2⟩ := early_split hp h
      rw [h1]
      have hnd := hp.nodup
      rw [h] at hnd
      have hia : i ∉ a := fun e => (List.nodup_append.1 hnd).2.2 i e i List.mem_cons_self rfl
      rcases rowE_is (p := p) (i := i) (p.A i) (earlyP p a) (dep_self hp h) with h3 | ⟨k, hk, h3⟩
      · left
        unfold rowE
        rw [h3]
        unfold earlyP
        rw [early_far a _ hia]
      · right
        refine ⟨k, hk, ?_⟩
        unfold rowE
        rw [h3, h2 k (hp.dep a i b h k hk)]
    · left
      unfold earlyP
      rw [early_far _ _ (fun e => hi ((hp.mem i).1 e))]
theorem ord_length (hp : PlanOk p) : p.ord.length = p.n := by
  have h1 : p.ord.Perm (List.range p.n) := (List.perm_ext_iff_of_nodup hp.nodup List.nodup_range).2 fun i => by rw [hp.mem, List.mem_range]
  rw [h1.length_eq, List.length_range]
/-- Along the order what is ahead is known. -/
theorem ord_ind (hp : PlanOk p) {P : Nat → Nat → Prop} (h : ∀ a i b, p.ord = a ++ i :: b → (∀ k ∈ a, ∃ q, q < a.length ∧ P q k) → P a.length i) : ∀ i, i < p.n → ∃ q, q < p.n ∧ P q i := by
  have main : ∀ (m : Nat) (a b : List Nat), p.ord = a ++ b → a.length = m → ∀ k ∈ a, ∃ q, q < a.length ∧ P q k := by
    intro m
    induction m with
    | zero => intro a b _ hl k hk; rw [List.length_eq_zero_iff.1 hl] at hk; cases hk
    | succ m ih =>
      intro a b hab hl k hk
      rcases List.eq_nil_or_concat a with rfl | ⟨a', x, rfl⟩
      · cases hk
      · rw [List.concat_eq_append] at *
        have hl' : a'.length = m := by simp at hl; exact hl
        have hab' : p.ord = a' ++ x :: b := by rw [hab]; simp
        have h1 := ih a' (x :: b) hab' hl'
        rcases List.mem_append.1 hk with hk | hk
        · obtain ⟨q, hq, hP⟩ := h1 k hk
          exact ⟨q, by simp; omega, hP⟩
        · have : k = x := by simpa using hk
          subst this
          exact ⟨a'.length, by simp, h a' k b hab' h1⟩
  intro i hi
  obtain ⟨q, hq, hP⟩ := main _ p.ord [] (by simp) rfl i ((hp.mem i).2 hi)
  exact ⟨q, by rw [← ord_length hp]; exact hq, hP⟩
theorem early_bound (hp : PlanOk p) {E : Nat → Int} (hE : EarlyOk p E) : ∀ i, i < p.n → E i ≤ 1048576 * p.n := by
  intro i hi
  obtain ⟨q, hq, h⟩ := ord_ind hp (P := fun q i => E i ≤ 1048576 * q) (fun a i b hab hall => by
    rcases hE.is i with h0 | ⟨k, hk, h1⟩
    · rw [h0]; omega
    · obtain ⟨q, hq, h2⟩ := hall k (hp.dep a i b hab k hk)
      have := (hp.tm k).2
      rw [h1]; omega) i hi
  omega
/-! ### Turn by turn -/
theorem earlyR_low {E : Nat → Int} (hE : EarlyOk p E) : ∀ k j, earlyR p k j ≤ E j
  | 0, j => hE.pos j
  | k + 1, j => early_low hE.le _ _ (earlyR_low hE k) j
theorem pass_hit {E : Nat → Int} (hE : EarlyOk p E) {i : Nat} (hi : i < p.n) {x : Nat → Int} (hx : ∀ j, x j ≤ E j) (h : E i ≤ x i ∨ ∃ k ∈ p.A i, E i = E k + p.tm k ∧ x k = E k) : passE p x i = E i := by
  have hle : passE p x i ≤ E i := early_low hE.le _ _ hx i
  rcases h with h | ⟨k, hk, h1, h2⟩
  · have := early_le (p := p) (List.range p.n) x i
    unfold passE at *
    omega
  · obtain ⟨a, b, hab⟩ := List.append_of_mem (List.mem_range.2 hi)
    have e : passE p x = b.foldl (rowE p) (rowE p (a.foldl (rowE p) x) i) := by
      unfold passE
      rw [hab, List.foldl_append, List.foldl_cons]
    have h3 : x k ≤ a.foldl (rowE p) x k := early_le a x k
    have h4 : a.foldl (rowE p) x k + p.tm k ≤ rowE p (a.foldl (rowE p) x) i i := rowE_dep (p := p) (i := i) (p.A i) (a.foldl (rowE p) x) hk
    have h5 := early_le (p := p) b (rowE p (a.foldl (rowE p) x) i) i
    rw [← e] at h5
    omega
theorem earlyR_same (hp : PlanOk p) {E : Nat → Int} (hE : EarlyOk p E) : ∀ i, i < p.n → earlyR p p.n i = E i := by
  have keep : ∀ (i : Nat), i < p.n → ∀ k m, k ≤ m → earlyR p k i = E i → earlyR p m i = E i := by
    intro i hi k m hkm h
    induction m with
    | zero => rw [show k = 0 by omega] at h; exact h
    | succ m ih =>
      by_cases e : k = m + 1
      · rw [← e]; exact h
      · exact pass_hit hE hi (earlyR_low hE m) (.inl (by rw [ih (by omega)]; exact Int.le_refl _))
  intro i hi
  obtain ⟨q, hq, h⟩ := ord_ind hp (P := fun q i => earlyR p (q + 1) i = E i) (fun a i b hab hall => by
    have hi : i < p.n := (hp.mem i).1 (by rw [hab]; simp)
    rcases hE.is i with h0 | ⟨k, hk, h1⟩
    · refine pass_hit hE hi (earlyR_low hE _) (.inl ?_)
      rw [h0]
      have : ∀ m, 0 ≤ earlyR p m i := fun m => by
        induction m with
        | zero => exact Int.le_refl _
        | succ m ih => exact Int.le_trans ih (early_le _ _ i)
      exact this _
    · obtain ⟨q, hq, h2⟩ := hall k (hp.dep a i b hab k hk)
      exact pass_hit hE hi (earlyR_low hE _) (.inr ⟨k, hk, h1, keep k (hp.A i k hk) _ _ (by omega) h2⟩)) i hi
  exact keep i hi _ _ (by omega) h
/-! ### Back -/
theorem relT_le (i k : Nat) (x : Nat → Int) (j : Nat) : x j ≤ relT p i x k j := by
  unfold relT upd
  split
  · rename_i h; subst h; exact Int.le_max_left _ _
  · exact Int.le_refl _
theorem rowT_le (i : Nat) : ∀ (ks : List Nat) (x : Nat → Int) (j : Nat), x j ≤ ks.foldl (relT p i) x j
  | [], _, _ => Int.le_refl _
  | k :: ks, x, j => by rw [List.foldl_cons]; exact Int.le_trans (relT_le i k x j) (rowT_le i ks _ j)
theorem rowT_ne {i j : Nat} : ∀ (ks : List Nat) (x : Nat → Int), j ∉ ks → ks.foldl (relT p i) x j = x j
  | [], _, _ => rfl
  | k :: ks, x, h => by
    rw [List.foldl_cons, rowT_ne ks _ (fun e => h (List.mem_cons_of_mem _ e))]
    exact upd_ne x _ (fun e => h (by rw [e]; exact List.mem_cons_self))
theorem rowT_dep {i k : Nat} : ∀ (ks : List Nat) (x : Nat → Int), k ∈ ks → x i + p.tm k ≤ ks.foldl (relT p i) x k
  | [], _, h => by cases h
  | a :: ks, x, h => by
    rw [List.foldl_cons]
    rcases List.mem_cons.1 h with rfl | h
    · refine Int.le_trans ?_ (rowT_le i ks _ k)
      unfold relT
      rw [upd_same]
      exact Int.le_max_right _ _
    · exact Int.le_trans (Int.add_le_add_right (relT_le i a x i) _) (rowT_dep ks _ h)
theorem rowT_is {i k : Nat} : ∀ (ks : List Nat) (x : Nat → Int), i ∉ ks → ks.foldl (relT p i) x k = x k ∨ (k ∈ ks ∧ ks.foldl (relT p i) x k = x i + p.tm k)
  | [], _, _ => .inl rfl
  | a :: ks, x, h => by
    rw [List.foldl_cons]
    have ha : a ≠ i := fun e => h (by rw [e]; exact List.mem_cons_self)
    have hks : i ∉ ks := fun e => h (List.mem_cons_of_mem _ e)
    rcases rowT_is (k := k) ks (relT p i x a) hks with h1 | ⟨hk, h1⟩
    · rw [h1]
      by_cases hka : k = a
      · subst hka
        unfold relT
        rw [upd_same]
        rcases Int.le_total (x k) (x i + p.tm k) with h2 | h2
        · exact .inr ⟨List.mem_cons_self, Int.max_eq_right h2⟩
        · exact .inl (Int.max_eq_left h2)
      · left
        exact upd_ne _ _ hka
    · refine .inr ⟨List.mem_cons_of_mem _ hk, ?_⟩
      rw [h1]
      unfold relT
      rw [upd_ne _ _ (Ne.symm ha)]
structure TailOk (p : Plan) (T : Nat → Int) : Prop where
  le : ∀ i k, k ∈ p.A i → T i + p.tm k ≤ T k
  is : ∀ k, k < p.n → T k = p.tm k ∨ ∃ i, i < p.n ∧ k ∈ p.A i ∧ T k = T i + p.tm k
  pos : ∀ k, p.tm k ≤ T k
theorem tail_far {j : Nat} : ∀ (l : List Nat) (x : Nat → Int), (∀ i ∈ l, j ∉ p.A i) → l.foldl (rowT p) x j = x j
  | [], _, _ => rfl
  | a :: l, x, h => by
    rw [List.foldl_cons, tail_far l _ (fun i hi => h i (List.mem_cons_of_mem _ hi))]
    exact rowT_ne _ _ (h a List.mem_cons_self)
theorem tail_mono : ∀ (l : List Nat) (x : Nat → Int) (j : Nat), x j ≤ l.foldl (rowT p) x j
  | [], _, _ => Int.le_refl _
  | a :: l, x, j => by rw [List.foldl_cons]; exact Int.le_trans (rowT_le a _ x j) (tail_mono l _ j)
/-- Behind what comes later one stays, as soon as its own row begins. -/
theorem tail_split (hp : PlanOk p) {a b : List Nat} {i : Nat} (h : p.ord = a ++ i :: b) : tailP p p.ord.reverse i = tailP p b.reverse i := by
  have he : tailP p p.ord.reverse = (i :: a.reverse).foldl (rowT p) (tailP p b.reverse) := by
    unfold tailP
    rw [h, List.reverse_append, List.reverse_cons, List.append_assoc, List.foldl_append]
    rfl
  rw [he]
  refine tail_far _ _ fun j hj hij => ?_
  have hnd := hp.nodup
  rw [h] at hnd
  have hnd2 := List.nodup_append.1 hnd
  rcases List.mem_cons.1 hj with rfl | hj
  · exact dep_self hp h hij
  · have hja := List.mem_reverse.1 hj
    obtain ⟨a1, a2, ha⟩ := List.append_of_mem hja
    have h1 := hp.dep a1 j (a2 ++ i :: b) (by rw [h, ha]; simp) i hij
    exact hnd2.2.2 i (by rw [ha]; exact List.mem_append_left _ h1) i List.mem_cons_self rfl
theorem tail_is {k : Nat} (hp : PlanOk p) : ∀ (b a : List Nat), p.ord = a ++ b → tailP p b.reverse k = p.tm k ∨ ∃ i, i ∈ b ∧ k ∈ p.A i ∧ tailP p b.reverse k = tailP p p.ord.reverse i + p.tm k
  | [], _, _ => .inl rfl
  | j :: b, a, h => by
    have e : tailP p (j :: b).reverse = rowT p (tailP p b.reverse) j := by
      unfold tailP
      rw [List.reverse_cons, List.foldl_append]
      rfl
    rw [e]
    unfold rowT
    rcases rowT_is (p := p) (k := k) (p.A j) (tailP p b.reverse) (dep_self hp h) with h1 | ⟨hk, h1⟩
    · rw [h1]
      rcases tail_is (k := k) hp b (a ++ [j]) (by rw [h]; simp) with h2 | ⟨i, hi, h2, h3⟩
      · exact .inl h2
      · exact .inr ⟨i, List.mem_cons_of_mem _ hi, h2, h3⟩
    · exact .inr ⟨j, List.mem_cons_self, hk, by rw [h1, tail_split hp h]⟩
theorem tail_ok (hp : PlanOk p) (hA : ∀ i, p.n ≤ i → p.A i = []) : TailOk p (tailP p p.ord.reverse) := by
  refine ⟨fun i k hk => ?_, fun k hk => ?_, fun k => tail_mono _ p.tm k⟩
  · by_cases hi : i < p.n
    · obtain ⟨a, b, h⟩ := List.append_of_mem ((hp.mem i).2 hi)
      rw [tail_split hp h]
      have he : tailP p p.ord.reverse = a.reverse.foldl (rowT p) (rowT p (tailP p b.reverse) i) := by
        unfold tailP
        rw [h, List.reverse_append, List.reverse_cons, List.append_assoc, List.foldl_append]
        rfl
      rw [he]
      exact Int.le_trans (rowT_dep _ _ hk) (tail_mono _ _ _)
    · rw [hA i (by omega)] at hk; cases hk
  · rcases tail_is (k := k) hp p.ord [] (by simp) with h | ⟨i, hi, h1, h2⟩
    · exact .inl h
    · exact .inr ⟨i, (hp.mem i).1 hi, h1, h2⟩
/-- From the end of the order on. -/
theorem ord_back (hp : PlanOk p) {P : Nat → Nat → Prop} (h : ∀ a i b, p.ord = a ++ i :: b → (∀ k ∈ b, ∃ q, q < b.length ∧ P q k) → P b.length i) : ∀ i, i < p.n → ∃ q, q < p.n ∧ P q i := by
  have main : ∀ (b a : List Nat), p.ord = a ++ b → ∀ k ∈ b, ∃ q, q < b.length ∧ P q k := by
    intro b
    induction b with
    | nil => intro a _ k hk; cases hk
    | cons x b ih =>
      intro a hab k hk
      have h1 := ih (a ++ [x]) (by rw [hab]; simp)
      rcases List.mem_cons.1 hk with rfl | hk
      · exact ⟨b.length, by simp, h a k b hab h1⟩
      · obtain ⟨q, hq, hP⟩ := h1 k hk
        exact ⟨q, by simp; omega, hP⟩
  intro i hi
  obtain ⟨q, hq, hP⟩ := main p.ord [] (by simp) i ((hp.mem i).2 hi)
  exact ⟨q, by rw [← ord_length hp]; exact hq, hP⟩
theorem dep_back (hp : PlanOk p) {a b : List Nat} {k i : Nat} (h : p.ord = a ++ k :: b) (hi : i < p.n) (hk : k ∈ p.A i) : i ∈ b := by
  have hi' := (hp.mem i).2 hi
  rw [h] at hi'
  rcases List.mem_append.1 hi' with h1 | h1
  · obtain ⟨a1, a2, ha⟩ := List.append_of_mem h1
    have h2 := hp.dep a1 i (a2 ++ k :: b) (by rw [h, ha]; simp) k hk
    have hnd := hp.nodup
    rw [h] at hnd
    exact absurd rfl ((List.nodup_append.1 hnd).2.2 k (by rw [ha]; exact List.mem_append_left _ h2) k List.mem_cons_self)
  · rcases List.mem_cons.1 h1 with rfl | h1
    · exact absurd hk (dep_self hp h)
    · exact h1
theorem tail_bound (hp : PlanOk p) {T : Nat → Int} (hT : TailOk p T) : ∀ i, i < p.n → T i ≤ 1048576 * p.n := by
  intro i hi
  obtain ⟨q, hq, h⟩ := ord_back hp (P := fun q i => T i ≤ 1048576 * (q + 1)) (fun a i b hab hall => by
    have hi : i < p.n := (hp.mem i).1 (by rw [hab]; simp)
    have := (hp.tm i).2
    rcases hT.is i hi with h0 | ⟨k, hk, hik, h1⟩
    · rw [h0]; omega
    · obtain ⟨q, hq, h2⟩ := hall k (dep_back hp hab hk hik)
      rw [h1]; omega) i hi
  omega
/-- What hangs on one, by what its own rows say. -/
theorem hangs_succ (T : Nat → Int) (i k : Nat) : hangs p T i (k + 1) = if (p.A k).contains i && decide (hangs p T i k < T k) then T k else hangs p T i k := by
  unfold hangs
  rw [List.range_succ, List.foldl_append]
  rfl
theorem hangs_le {T : Nat → Int} {i : Nat} {M : Int} (h0 : 0 ≤ M) (hT : ∀ k, i ∈ p.A k → T k ≤ M) : ∀ k, hangs p T i k ≤ M
  | 0 => h0
  | k + 1 => by
    rw [hangs_succ]
    split
    · rename_i h
      rw [Bool.and_eq_true] at h
      exact hT k (List.contains_iff_mem.1 h.1)
    · exact hangs_le h0 hT k
theorem hangs_ge {T : Nat → Int} {i j : Nat} (hj : i ∈ p.A j) : ∀ k, j < k → T j ≤ hangs p T i k
  | 0, h => by omega
  | k + 1, h => by
    rw [hangs_succ]
    by_cases e : j = k
    · subst e
      rw [List.contains_iff_mem.2 hj, Bool.true_and]
      split
      · exact Int.le_refl _
      · rename_i h; simp at h; exact h
    · have h1 := hangs_ge (T := T) hj k (by omega)
      split
      · rename_i h2
        rw [Bool.and_eq_true, decide_eq_true_eq] at h2
        omega
      · exact h1
theorem hangs_pos (T : Nat → Int) (i : Nat) : ∀ k, 0 ≤ hangs p T i k
  | 0 => Int.le_refl _
  | k + 1 => by
    have := hangs_pos T i k
    rw [hangs_succ]
    split
    · rename_i h2
      rw [Bool.and_eq_true, decide_eq_true_eq] at h2
      omega
    · exact this
theorem tail_hangs {T : Nat → Int} (hT : TailOk p T) {i : Nat} (hi : i < p.n) : hangs p T i p.n + p.tm i = T i := by
  have h1 : hangs p T i p.n ≤ T i - p.tm i := hangs_le (by have := hT.pos i; omega) (fun k hk => by have := hT.le k i hk; omega) p.n
  rcases hT.is i hi with h | ⟨k, hk, hik, h⟩
  · have := hangs_pos (p := p) T i p.n
    omega
  · have := hangs_ge (p := p) (T := T) hik p.n hk
    omega
/-! ### The end -/
theorem endOf_le {x : Nat → Int} {M : Int} : ∀ (l : List Nat) (e : Int), e ≤ M → (∀ i ∈ l, x i + p.tm i ≤ M) → l.foldl (fun e i => max e (x i + p.tm i)) e ≤ M
  | [], e, h, _ => h
  | a :: l, e, h, hl => by
    rw [List.foldl_cons]
    exact endOf_le l _ (Int.max_le.2 ⟨h, hl a List.mem_cons_self⟩) fun i hi => hl i (List.mem_cons_of_mem _ hi)
theorem endOf_ge0 {x : Nat → Int} : ∀ (l : List Nat) (e : Int), e ≤ l.foldl (fun e i => max e (x i + p.tm i)) e
  | [], e => Int.le_refl _
  | a :: l, e => by
    rw [List.foldl_cons]
    exact Int.le_trans (Int.le_max_left _ _) (endOf_ge0 l _)
theorem endOf_ge {x : Nat → Int} {i : Nat} : ∀ (l : List Nat) (e : Int), i ∈ l → x i + p.tm i ≤ l.foldl (fun e i => max e (x i + p.tm i)) e
  | [], e, h => by cases h
  | a :: l, e, h => by
    rw [List.foldl_cons]
    rcases List.mem_cons.1 h with rfl | h
    · exact Int.le_trans (Int.le_max_right _ _) (endOf_ge0 l _)
    · exact endOf_ge l _ h
theorem endOf_same {x : Nat → Int} {l k : List Nat} (h : ∀ i, i ∈ l ↔ i ∈ k) : endOf p x l = endOf p x k := by
  have one : ∀ {l k : List Nat}, (∀ i, i ∈ l → i ∈ k) → endOf p x l ≤ endOf p x k := fun {l k} h =>
    endOf_le l 0 (endOf_ge0 k 0) fun i hi => endOf_ge k 0 (h i hi)
  have h1 := one (l := l) (k := k) fun i hi => (h i).1 hi
  have h2 := one (l := k) (k := l) fun i hi => (h i).2 hi
  omega
end Go.Proofs.Ytpinhmhempbmoaa
