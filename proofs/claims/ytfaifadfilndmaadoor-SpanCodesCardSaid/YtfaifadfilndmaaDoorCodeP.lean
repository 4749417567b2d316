/- Leaf by leaf: what is left of a tree is one, and has a leaf. Conditions: none. -/
import Derived.Test.YtfaifadfilndmaaDoorPartsP
namespace Go.Proofs.YtfaifadfilndmaaDoor
open Go.RowKit

/-- A tree on the nodes that are there. -/
structure TL (N : Nat) (l : List Ed) (V : Nat → Bool) : Prop where
  good : GoodG N l
  ends : ∀ e ∈ l, V e.a.toNat = true ∧ V e.b.toNat = true
  cnt : (List.range N).countP V = l.length + 1
  cut : ∀ X : Nat → Bool, (∃ x, x < N ∧ V x = true ∧ X x = true) → (∃ y, y < N ∧ V y = true ∧ X y = false) → ∃ e ∈ l, X e.a.toNat ≠ X e.b.toNat
def TreeP (N : Nat) (l : List Ed) : Prop := 2 ≤ N ∧ l.length + 1 = N ∧ ∀ x, x < N → Rch (Adj l) 0 x
theorem TreeP.tl {N : Nat} {l : List Ed} (hg : GoodG N l) (h : TreeP N l) : TL N l fun _ => true := by
  refine ⟨hg, fun e _ => ⟨rfl, rfl⟩, ?_, fun X hx hy => ?_⟩
  · rw [h.2.1]
    have := List.countP_eq_length.2 (fun (x : Nat) (_ : x ∈ List.range N) => (rfl : (fun _ => true) x = true))
    rw [this, List.length_range]
  · refine Classical.byContradiction fun hno => ?_
    have hall : ∀ e ∈ l, X e.a.toNat = X e.b.toNat := fun e he => Classical.byContradiction fun hc => hno ⟨e, he, hc⟩
    have hstep : ∀ c j, X c = X 0 → Adj l c j → X j = X 0 := fun c j hc hcj => by
      unfold Adj adj at hcj
      obtain ⟨e, he, hj⟩ := List.any_eq_true.1 hcj
      have h1 := hall e he
      unfold joins at hj
      rw [decide_eq_true_iff] at hj
      rcases hj with ⟨ha, hb⟩ | ⟨ha, hb⟩
      · rw [ha, hb] at h1
        simp only [Int.toNat_natCast] at h1
        rw [← h1, hc]
      · rw [ha, hb] at h1
        simp only [Int.toNat_natCast] at h1
        rw [h1, hc]
    have hr : ∀ x, x < N → X x = X 0 := fun x hx => rch_closed (fun j => X j = X 0) rfl hstep (h.2.2 x hx)
    obtain ⟨x, hx1, _, hx2⟩ := hx
    obtain ⟨y, hy1, _, hy2⟩ := hy
    rw [hr x hx1] at hx2
    rw [hr y hy1, hx2] at hy2
    cases hy2
theorem sum_two {N : Nat} {V : Nat → Bool} {f : Nat → Nat} (h : ∀ v, v < N → V v = true → 2 ≤ f v) : 2 * (List.range N).countP V ≤ ((List.range N).map f).sum := by
  induction N with
  | zero => simp
  | succ N ih =>
    rw [List.range_succ, List.countP_append, List.map_append, List.sum_append]
    have h1 := ih fun v hv => h v (by omega)
    have h2 := h N (by omega)
    simp only [List.countP_cons, List.countP_nil, List.map_cons, List.map_nil, List.sum_cons, List.sum_nil]
    cases hV : V N with
    | false => simp; omega
    | true => have := h2 hV; simp; omega
theorem sum_add (f g : Nat → Nat) (L : List Nat) : (L.map fun v => f v + g v).sum = (L.map f).sum + (L.map g).sum := by
  induction L with
  | nil => rfl
  | cons a L ih => simp only [List.map_cons, List.sum_cons, ih]; omega
theorem sum_hit (a : Nat) : ∀ N, ((List.range N).map fun v => if v = a then 1 else 0).sum = if a < N then 1 else 0
  | 0 => by simp
  | N + 1 => by
    rw [List.range_succ, List.map_append, List.sum_append, sum_hit a N]
    simp only [List.map_cons, List.map_nil, List.sum_cons, List.sum_nil]
    split <;> split <;> split <;> omega
theorem sum_zero (L : List Nat) : (L.map fun _ => 0).sum = 0 := by
  induction L with
  | nil => rfl
  | cons a L ih => simp only [List.map_cons, List.sum_cons, ih]
theorem sum_deg {N : Nat} : ∀ (l : List Ed), (∀ e ∈ l, GoodE N e) → ((List.range N).map fun v : Nat => deg l v).sum = 2 * l.length
  | [], _ => by
    have : (fun v : Nat => deg [] v) = fun _ => 0 := by funext v; rfl
    rw [this, sum_zero]
    rfl
  | e :: l, h => by
    have he := h e List.mem_cons_self
    have h0 := he.a0
    have h1 := he.a1
    have h2 := he.b0
    have h3 := he.b1
    have h4 := he.ne
    have : (fun v : Nat => deg (e :: l) v) = fun v : Nat => deg l v + ((if v = e.a.toNat then 1 else 0) + (if v = e.b.toNat then 1 else 0)) := by
      funext v
      unfold deg
      rw [List.countP_cons]
      congr 1
      unfold touches
      simp only [decide_eq_true_eq]
      split <;> split <;> (try split) <;> omega
    rw [this, sum_add, sum_add, sum_hit, sum_hit, sum_deg l (fun x hx => h x (List.mem_cons_of_mem _ hx)), if_pos (by omega), if_pos (by omega), List.length_cons]
    omega
theorem count_two {N : Nat} {V : Nat → Bool} (h : 2 ≤ (List.range N).countP V) (v : Nat) : ∃ y, y < N ∧ V y = true ∧ y ≠ v := by
  refine Classical.byContradiction fun hc => ?_
  have hle : (List.range N).countP V ≤ (List.range N).countP (fun j => decide (j = v) || (fun _ => false) j) := List.countP_mono_left fun x hx hV => by
    have hxN := List.mem_range.1 hx
    have : x = v := Classical.byContradiction fun hne => hc ⟨x, hxN, hV, hne⟩
    simp [this]
  rw [countP_range_or (fun _ => false) v rfl] at hle
  have h0 : (List.range N).countP (fun _ => false) = 0 := List.countP_eq_zero.2 fun _ _ => by simp
  rw [h0] at hle
  split at hle <;> omega
theorem TL.leaf {N : Nat} {l : List Ed} {V : Nat → Bool} (h : TL N l V) (h1 : 1 ≤ l.length) : ∃ v, v < N ∧ deg l v = 1 := by
  refine Classical.byContradiction fun hc => ?_
  have h2 : ∀ v, v < N → V v = true → 2 ≤ deg l v := fun v hv hV => by
    obtain ⟨y, hy, hVy, hne⟩ := count_two (N := N) (V := V) (by rw [h.cnt]; omega) v
    obtain ⟨e, he, hx⟩ := h.cut (fun z => decide (z = v)) ⟨v, hv, hV, by simp⟩ ⟨y, hy, hVy, by simp [hne]⟩
    have hge := h.good.ed e he
    have h0 := hge.a0
    have h3 := hge.b0
    have ht : touches v e = true := by
      unfold touches
      rw [decide_eq_true_iff]
      refine Classical.byContradiction fun hno => hx ?_
      have e1 : ¬ e.a.toNat = v := by omega
      have e2 : ¬ e.b.toNat = v := by omega
      show decide (e.a.toNat = v) = decide (e.b.toNat = v)
      rw [decide_eq_false e1, decide_eq_false e2]
    have hp : 0 < deg l v := List.countP_pos_iff.2 ⟨e, he, ht⟩
    have hne1 : deg l v ≠ 1 := fun h1 => hc ⟨v, hv, h1⟩
    omega
  have h3 := sum_two h2
  rw [h.cnt, sum_deg l h.good.ed] at h3
  omega
/-- The other end. -/
def otherE (i : Nat) (e : Ed) : Nat := (e.a + e.b - i).toNat
theorem deg_one {l : List Ed} {i : Nat} (h : deg l i = 1) : ∃ k, ∃ hk : k < l.length, touches i l[k] = true ∧ ∀ j, (hj : j < l.length) → j ≠ k → touches i l[j] = false := by
  induction l with
  | nil => cases h
  | cons e l ih =>
    unfold deg at h
    rw [List.countP_cons] at h
    by_cases ht : touches i e = true
    · rw [if_pos ht] at h
      have h0 : l.countP (touches i) = 0 := by omega
      refine ⟨0, by simp, ht, fun j hj hne => ?_⟩
      obtain ⟨j', rfl⟩ : ∃ j', j = j' + 1 := ⟨j - 1, by omega⟩
      have := List.countP_eq_zero.1 h0 (l[j']'(by simpa using hj)) (List.getElem_mem _)
      simpa using this
    · rw [if_neg ht] at h
      obtain ⟨k, hk, h1, h2⟩ := ih (by unfold deg; omega)
      refine ⟨k + 1, by simpa using hk, by simpa using h1, fun j hj hne => ?_⟩
      cases j with
      | zero => simpa using ht
      | succ j => simpa using h2 j (by simpa using hj) (by omega)
theorem mem_erase {l : List Ed} {k : Nat} {e : Ed} (h : e ∈ l.eraseIdx k) : ∃ j, ∃ hj : j < l.length, j ≠ k ∧ e = l[j] := by
  obtain ⟨j, hj, hne, he⟩ := List.mem_eraseIdx_iff_getElem.1 h
  exact ⟨j, hj, hne, he.symm⟩
theorem TL.next {N : Nat} {l : List Ed} {V : Nat → Bool} (h : TL N l V) {i k : Nat} (hi : i < N) (hk : k < l.length) (ht : touches i l[k] = true) (hno : ∀ j, (hj : j < l.length) → j ≠ k → touches i l[j] = false) :
    TL N (l.eraseIdx k) fun v => V v && !decide (v = i) := by
  have hmem := fun e (he : e ∈ l.eraseIdx k) => mem_erase he
  have hle : (l.eraseIdx k).length + 1 = l.length := by rw [List.length_eraseIdx_of_lt hk]; omega
  have hsub : (l.eraseIdx k).Sublist l := List.eraseIdx_sublist l k
  have hge := h.good.ed _ (List.getElem_mem hk)
  have h0 := hge.a0
  have h1 := hge.b0
  have h4 := hge.ne
  have hVe := h.ends _ (List.getElem_mem hk)
  have ht' : l[k].a = i ∨ l[k].b = i := by unfold touches at ht; simpa using ht
  have hVi : V i = true := by
    rcases ht' with e | e
    · have := hVe.1; rw [e] at this; simpa using this
    · have := hVe.2; rw [e] at this; simpa using this
  have hnt : ∀ e ∈ l.eraseIdx k, touches i e = false := fun e he => by
    obtain ⟨j, hj, hne, rfl⟩ := hmem e he
    exact hno j hj hne
  refine ⟨⟨h.good.n10, by have := h.good.m45; omega, fun e he => h.good.ed e (hsub.subset he), h.good.nd.sublist hsub⟩, fun e he => ?_, ?_, fun X hx hy => ?_⟩
  · have h5 := h.ends e (hsub.subset he)
    have h6 := hnt e he
    have hg2 := h.good.ed e (hsub.subset he)
    have h7 := hg2.a0
    have h8 := hg2.b0
    unfold touches at h6
    rw [decide_eq_false_iff_not] at h6
    rw [h5.1, h5.2, decide_eq_false (by omega), decide_eq_false (by omega)]
    exact ⟨rfl, rfl⟩
  · have hc : (List.range N).countP V = (List.range N).countP (fun j => decide (j = i) || (V j && !decide (j = i))) := countP_range_same N fun j _ => by
      by_cases e : j = i
      · subst e; rw [hVi]; simp
      · simp [e]
    rw [countP_range_or (fun v => V v && !decide (v = i)) i (by simp), if_pos hi, h.cnt] at hc
    omega
  · obtain ⟨x, hx1, hx2, hx3⟩ := hx
    obtain ⟨y, hy1, hy2, hy3⟩ := hy
    rw [Bool.and_eq_true, Bool.not_eq_true', decide_eq_false_iff_not] at hx2 hy2
    obtain ⟨e, he, hne⟩ := h.cut (fun z => if z = i then (if l[k].a = i then X l[k].b.toNat else X l[k].a.toNat) else X z) ⟨x, hx1, hx2.1, by simp only [if_neg hx2.2]; exact hx3⟩ ⟨y, hy1, hy2.1, by simp only [if_neg hy2.2]; exact hy3⟩
    obtain ⟨j, hj, rfl⟩ := List.mem_iff_getElem.1 he
    by_cases hjk : j = k
    · subst hjk
      exfalso
      apply hne
      rcases ht' with e | e
      · rw [if_pos (by omega), if_pos e, if_neg (by omega)]
      · rw [if_neg (by omega), if_pos (by omega), if_neg (by omega)]
    · refine ⟨l[j], List.mem_eraseIdx_iff_getElem.2 ⟨j, hj, hjk, rfl⟩, ?_⟩
      have h6 := hno j hj hjk
      have hg2 := h.good.ed _ he
      have h7 := hg2.a0
      have h8 := hg2.b0
      unfold touches at h6
      rw [decide_eq_false_iff_not] at h6
      simp only [if_neg (show ¬ (l[j].a.toNat = i) by omega), if_neg (show ¬ (l[j].b.toNat = i) by omega)] at hne
      exact hne
/-- The words of what is left. -/
theorem near_erase {N : Nat} {l : List Ed} (hg : GoodG N l) {i k : Nat} (hi : i < N) (hk : k < l.length) (ht : touches i l[k] = true) (hno : ∀ j, (hj : j < l.length) → j ≠ k → touches i l[j] = false) (hg' : GoodG N (l.eraseIdx k)) :
    nearL N (l.eraseIdx k) = ((nearL N l).set i w0).set (otherE i l[k]) (wBut (lw (nearL N l) (otherE i l[k])) (wShl w1 i)) := by
  have hge := hg.ed _ (List.getElem_mem hk)
  have h0 := hge.a0
  have h1 := hge.b0
  have h2 := hge.a1
  have h3 := hge.b1
  have h4 := hge.ne
  have hN := hg.n10
  have ht' : l[k].a = i ∨ l[k].b = i := by unfold touches at ht; simpa using ht
  obtain ⟨o, ho⟩ : ∃ o, o = otherE i l[k] := ⟨_, rfl⟩
  rw [← ho]
  have hoN : o < N := by rw [ho]; unfold otherE; omega
  have hoi : o ≠ i := by rw [ho]; unfold otherE; omega
  have hadj : ∀ v u : Nat, adj (l.eraseIdx k) v u = true ↔ (adj l v u = true ∧ joins v u l[k] = false) := fun v u => by
    unfold adj
    rw [List.any_eq_true, List.any_eq_true]
    refine ⟨fun ⟨e, he, hj⟩ => ?_, fun ⟨⟨e, he, hj⟩, hn⟩ => ?_⟩
    · obtain ⟨j, hjl, hne, rfl⟩ := mem_erase he
      refine ⟨⟨_, List.getElem_mem hjl, hj⟩, ?_⟩
      refine Classical.byContradiction fun hc => ?_
      have hjk : joins v u l[k] = true := by simpa using hc
      have hto := hno j hjl hne
      unfold joins at hj hjk
      unfold touches at hto
      rw [decide_eq_true_iff] at hj hjk
      rw [decide_eq_false_iff_not] at hto
      omega
    · obtain ⟨j, hjl, rfl⟩ := List.mem_iff_getElem.1 he
      refine ⟨l[j], List.mem_eraseIdx_iff_getElem.2 ⟨j, hjl, fun e => ?_, rfl⟩, hj⟩
      subst e
      rw [hj] at hn; cases hn
  have hio : ∀ u : Nat, adj (l.eraseIdx k) i u = false := fun u => by
    refine Classical.byContradiction fun hc => ?_
    have hc' : adj (l.eraseIdx k) i u = true := by simpa using hc
    unfold adj at hc'
    obtain ⟨e, he, hj⟩ := List.any_eq_true.1 hc'
    obtain ⟨j, hjl, hne, rfl⟩ := mem_erase he
    have hto := hno j hjl hne
    unfold joins at hj
    unfold touches at hto
    rw [decide_eq_true_iff] at hj
    rw [decide_eq_false_iff_not] at hto
    omega
  apply List.ext_getElem
  · simp [nearL_length]
  · intro v hv1 hv2
    have hvN : v < N := by rw [nearL_length] at hv1; exact hv1
    rw [← lw_at _ v hv1]
    refine w_ext fun u hu => ?_
    rw [near_bit hg' hvN u]
    rw [List.getElem_set]
    by_cases hvo : o = v
    · rw [if_pos hvo, b_but, b_one, ← hvo, near_bit hg hoN u, Bool.eq_iff_iff, hadj o u, Bool.and_eq_true]
      refine and_congr Iff.rfl ?_
      unfold joins
      simp only [hu, decide_true, Bool.true_and, Bool.not_eq_true', decide_eq_false_iff_not]
      rw [ho]
      unfold otherE
      omega
    · rw [if_neg hvo, List.getElem_set]
      by_cases hvi : i = v
      · rw [if_pos hvi, b_0, ← hvi, hio u]
      · rw [if_neg hvi, ← lw_at (nearL N l) v (by rw [nearL_length]; exact hvN), near_bit hg hvN u, Bool.eq_iff_iff, hadj v u]
        refine ⟨fun h => h.1, fun h => ⟨h, ?_⟩⟩
        unfold joins
        rw [decide_eq_false_iff_not]
        have ho' := ho
        unfold otherE at ho'
        omega
/-- The leaf's only neighbour. -/
theorem near_leaf {N : Nat} {l : List Ed} (hg : GoodG N l) {i k : Nat} (hi : i < N) (hk : k < l.length) (ht : touches i l[k] = true) (hno : ∀ j, (hj : j < l.length) → j ≠ k → touches i l[j] = false) (u : Nat) : (lw (nearL N l) i).getLsbD u = decide (u = otherE i l[k]) := by
  have hge := hg.ed _ (List.getElem_mem hk)
  have h0 := hge.a0
  have h1 := hge.b0
  have ht' : l[k].a = i ∨ l[k].b = i := by unfold touches at ht; simpa using ht
  rw [near_bit hg hi u, Bool.eq_iff_iff, decide_eq_true_iff]
  unfold adj
  rw [List.any_eq_true]
  refine ⟨fun ⟨e, he, hj⟩ => ?_, fun h => ⟨l[k], List.getElem_mem hk, ?_⟩⟩
  · obtain ⟨j, hjl, rfl⟩ := List.mem_iff_getElem.1 he
    by_cases hjk : j = k
    · subst hjk
      unfold joins at hj
      rw [decide_eq_true_iff] at hj
      unfold otherE
      omega
    · have hto := hno j hjl hjk
      unfold joins at hj
      unfold touches at hto
      rw [decide_eq_true_iff] at hj
      rw [decide_eq_false_iff_not] at hto
      omega
  · unfold joins
    rw [decide_eq_true_iff]
    unfold otherE at h
    omega
def leafI (N : Nat) (l : List Ed) : Nat := ((List.range N).findIdx? fun v : Nat => decide (deg l v = 1)).getD 0
def edgeK (l : List Ed) (i : Nat) : Nat := (l.findIdx? (touches i)).getD 0
/-- The code: of so many steps. -/
def codeF (N : Nat) : Nat → List Ed → List Nat
  | 0, _ => []
  | f + 1, l => otherE (leafI N l) (l.getD (edgeK l (leafI N l)) ⟨0, 0, 0⟩) :: codeF N f (l.eraseIdx (edgeK l (leafI N l)))
theorem TL.step {N : Nat} {l : List Ed} {V : Nat → Bool} (h : TL N l V) (h1 : 1 ≤ l.length) : ∃ i k, ∃ hk : k < l.length, i < N ∧ deg l i = 1 ∧ (∀ v : Nat, v < i → deg l v ≠ 1) ∧ touches i l[k] = true ∧ (∀ j, (hj : j < l.length) → j ≠ k → touches i l[j] = false) ∧ TL N (l.eraseIdx k) (fun v => V v && !decide (v = i)) ∧
    ∀ f, codeF N (f + 1) l = otherE i l[k] :: codeF N f (l.eraseIdx k) := by
  obtain ⟨v, hv, hd⟩ := h.leaf h1
  cases hf : (List.range N).findIdx? fun v : Nat => decide (deg l v = 1) with
  | none =>
    have := List.findIdx?_eq_none_iff.1 hf v (List.mem_range.2 hv)
    rw [decide_eq_false_iff_not] at this
    exact absurd hd this
  | some i =>
    obtain ⟨hi, hp, hbef⟩ := List.findIdx?_eq_some_iff_getElem.1 hf
    rw [List.length_range] at hi
    rw [List.getElem_range, decide_eq_true_iff] at hp
    have hb : ∀ v : Nat, v < i → deg l v ≠ 1 := fun v hv => by
      have := hbef v hv
      rw [List.getElem_range] at this
      simpa using this
    obtain ⟨k, hk, ht, hno⟩ := deg_one hp
    have hfk : l.findIdx? (touches i) = some k := by
      rw [List.findIdx?_eq_some_iff_getElem]
      exact ⟨hk, ht, fun j hj => by rw [hno j (by omega) (by omega)]; simp⟩
    have hl : leafI N l = i := by unfold leafI; rw [hf]; rfl
    have hke : edgeK l i = k := by unfold edgeK; rw [hfk]; rfl
    refine ⟨i, k, hk, hi, hp, hb, ht, hno, h.next hi hk ht hno, fun f => ?_⟩
    show otherE (leafI N l) (l.getD (edgeK l (leafI N l)) ⟨0, 0, 0⟩) :: codeF N f (l.eraseIdx (edgeK l (leafI N l))) = _
    rw [hl, hke, getD_at l k hk]
theorem codeF_len (N : Nat) : ∀ f l, (codeF N f l).length = f
  | 0, _ => rfl
  | f + 1, l => by unfold codeF; rw [List.length_cons, codeF_len]
end Go.Proofs.YtfaifadfilndmaaDoor
