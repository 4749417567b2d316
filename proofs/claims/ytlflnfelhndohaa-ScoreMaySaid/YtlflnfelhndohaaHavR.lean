/- One round of making a graph out of degrees: the program's and the reference's; in plain Lean. Conditions: none. -/
import Derived.Test.YtlflnfelhndohaaHavQ
namespace Go.Proofs.Ytlflnfelhndohaa
open Go.RowKit

theorem filter_take {α : Type} {p : α → Bool} : ∀ {l : List α}, l.Pairwise (fun a b => p b = true → p a = true) → l.filter p = l.take (l.filter p).length
  | [], _ => rfl
  | a :: t, h => by
    rw [List.pairwise_cons] at h
    cases ha : p a with
    | true =>
      have ih := filter_take (p := p) h.2
      rw [List.filter_cons_of_pos ha, List.length_cons, List.take_succ_cons, ← ih]
    | false =>
      have : t.filter p = [] := List.filter_eq_nil_iff.2 fun b hb hp => by
        have := h.1 b hb hp
        rw [ha] at this; cases this
      rw [List.filter_cons_of_neg (by rw [ha]; simp), this]
      rfl
theorem filter_lt {α : Type} {p : α → Bool} {l : List α} (h : l.Pairwise (fun a b => p b = true → p a = true)) {k : Nat} (hk : k < l.length) : k < (l.filter p).length ↔ p l[k] = true := by
  have e := filter_take h
  constructor
  · intro hc
    have h1 : (l.filter p)[k] = l[k] := by
      have : (l.take (l.filter p).length)[k]'(by rw [List.length_take]; omega) = l[k] := List.getElem_take
      rw [← this]
      congr 1
    have h2 := List.getElem_mem hc
    rw [h1] at h2
    exact (List.mem_filter.1 h2).2
  · intro hp
    refine Classical.byContradiction fun hc => ?_
    have hd : l = l.take (l.filter p).length ++ l.drop (l.filter p).length := (List.take_append_drop _ _).symm
    have h3 : (l.filter p).length = ((l.take (l.filter p).length).filter p).length + ((l.drop (l.filter p).length).filter p).length := by
      rw [← List.length_append, ← List.filter_append, ← hd]
    have h4 : (l.take (l.filter p).length).filter p = l.filter p := by
      rw [← e, List.filter_filter]
      congr 1
      funext a
      cases p a <;> rfl
    rw [h4] at h3
    have h5 : l[k] ∈ l.drop (l.filter p).length := by
      rw [List.mem_drop_iff_getElem]
      exact ⟨k - (l.filter p).length, by omega, by congr 1; omega⟩
    have h6 : l[k] ∈ (l.drop (l.filter p).length).filter p := List.mem_filter.2 ⟨h5, hp⟩
    have := List.length_pos_of_mem h6
    omega
theorem falls_sub (left : List Int) {k : Nat} {x : Int} (h : x ∈ fallsTo left k) : ∀ d, x ∈ fallsTo left (k + d)
  | 0 => h
  | d + 1 => by rw [← Nat.add_assoc, fallsTo, List.mem_append]; exact .inl (falls_sub left h d)
section
variable {n : Nat} {l : List Nd} {left : List Int}
theorem sort_pos (h : RelN n l left) : (srtN l).Pairwise (fun a b => decide (0 < b.d) = true → decide (0 < a.d) = true) := by
  have hsort := srtN_sorted (l := l) fun a ha => by have := h.at_ a ha; have := h.n10; omega
  refine hsort.imp fun {a b} hab hb => ?_
  have := of_decide_eq_true hb
  unfold aheadN at hab
  exact decide_eq_true (by omega)
theorem fAt_whole (h : RelN n l left) {k : Nat} (hk : k < n) : fAt left k = (wholeN n l left).getD k 0 := by
  unfold fAt
  rw [whole_falls h (k + 1) (by omega), List.getD_eq_getElem?_getD, List.getElem?_take, if_pos (by omega), List.getD_eq_getElem?_getD]
theorem srtN_le (h : RelN n l left) : (srtN l).length ≤ n := by
  rw [srtN_len]
  have hsub : ∀ x ∈ l.map Nd.i, x ∈ (List.range n).map fun k : Nat => (k : Int) := fun x hx => by
    obtain ⟨a, ha, rfl⟩ := List.mem_map.1 hx
    have := h.at_ a ha
    exact List.mem_map.2 ⟨a.i.toNat, List.mem_range.2 (by omega), by omega⟩
  have := h.nd.length_le_of_subset hsub
  rwa [List.length_map, List.length_map, List.length_range] at this
theorem fAt_pos (h : RelN n l left) {k : Nat} (hk : k < (srtN l).length) (hd : 0 < (srtN l)[k].d) : fAt left k = (srtN l)[k].i := by
  have hc := (filter_lt (sort_pos h) hk).2 (decide_eq_true hd)
  have hn := srtN_le h
  rw [fAt_whole h (by omega)]
  unfold wholeN
  rw [List.getD_eq_getElem?_getD, List.getElem?_append_left (by rw [List.length_map]; exact hc), List.getElem?_map]
  have e := filter_take (sort_pos h)
  have h1 : ((srtN l).filter fun a => decide (0 < a.d))[k]? = some (srtN l)[k] := by
    rw [e, List.getElem?_take, if_pos hc, List.getElem?_eq_getElem hk]
  rw [h1]
  rfl
theorem fAt_none (h : RelN n l left) {k : Nat} (hk : ∀ hk : k < (srtN l).length, ¬ 0 < (srtN l)[k].d) : ¬ (0 ≤ fAt left k ∧ 0 < valZ left (fAt left k)) := by
  rintro ⟨h0, h1⟩
  by_cases hkn : k < n
  · have hc : ((srtN l).filter fun a => decide (0 < a.d)).length ≤ k := by
      refine Classical.byContradiction fun hc => ?_
      have h2 : k < (srtN l).length := Nat.lt_of_lt_of_le (Nat.lt_of_not_le hc) (List.length_filter_le _ (srtN l))
      exact hk h2 (of_decide_eq_true ((filter_lt (sort_pos h) h2).1 (by omega)))
    rw [fAt_whole h hkn] at h1
    unfold wholeN at h1
    rw [List.getD_eq_getElem?_getD, List.getElem?_append_right (by rw [List.length_map]; exact hc)] at h1
    cases he : (((List.range n).map fun k : Nat => (k : Int)).filter fun x => decide (valZ left x = 0))[k - (((srtN l).filter fun a => decide (0 < a.d)).map Nd.i).length]? with
    | none =>
      have hf := falls_all h.len
      have hl2 := fallsTo_length left (k + 1)
      rw [whole_falls h (k + 1) (by omega)] at hl2
      unfold wholeN at hl2
      rw [List.length_take, List.length_append] at hl2
      have := List.getElem?_eq_none_iff.1 he
      rw [List.length_map] at hl2 this
      omega
    | some y =>
      rw [he] at h1
      have := (List.mem_filter.1 (List.mem_of_getElem? he)).2
      have := of_decide_eq_true this
      simp only [Option.getD_some] at h1
      omega
  · have hf := falls_all h.len
    rw [fAt_is] at h0
    rcases pickTo_best left (fallsTo left k) left.length with ⟨hp, _⟩ | ⟨_, hb, _⟩
    · rw [hp] at h0; omega
    · have hr := pickTo_range left (fallsTo left k) left.length
      rw [hasB_not] at hb
      apply hb
      have := falls_sub left ((hf.2 (pickTo left (fallsTo left k) left.length)).2 ⟨h0, by have := hr.2; have := h.len; omega⟩) (k - n)
      rwa [show n + (k - n) = k by omega] at this
end
/-- The nodes that stay, the first ones joined. -/
def decN (d : Nat) (R : List Nd) : List Nd := (R.take d).map (fun a => ⟨a.i, a.d - 1⟩) ++ R.drop d
theorem decN_i (d : Nat) (R : List Nd) : (decN d R).map Nd.i = R.map Nd.i := by
  unfold decN
  rw [List.map_append, List.map_map]
  have : (Nd.i ∘ fun a : Nd => (⟨a.i, a.d - 1⟩ : Nd)) = Nd.i := rfl
  rw [this, ← List.map_append, List.take_append_drop]
theorem foldl_dec : ∀ (M : List Int) (L : List Int), (M.foldl (fun l x => l.set x.toNat (valZ l x - 1)) L).length = L.length
  | [], _ => rfl
  | x :: M, L => by rw [List.foldl_cons, foldl_dec M, List.length_set]
theorem val_set {L : List Int} {x y : Int} (hx0 : 0 ≤ x) (hx1 : x < L.length) (hy : 0 ≤ y) (v : Int) : valZ (L.set x.toNat v) y = if x = y then v else valZ L y := by
  unfold valZ
  rw [List.getD_eq_getElem?_getD, List.getElem?_set]
  by_cases h : x = y
  · subst h
    rw [if_pos rfl, if_pos rfl, if_pos (by omega)]; rfl
  · rw [if_neg h, if_neg (by omega), ← List.getD_eq_getElem?_getD]
theorem dec_val : ∀ (M : List Int) (L : List Int), M.Nodup → (∀ x ∈ M, 0 ≤ x ∧ x < L.length) → ∀ y, 0 ≤ y → valZ (M.foldl (fun l x => l.set x.toNat (valZ l x - 1)) L) y = if y ∈ M then valZ L y - 1 else valZ L y
  | [], L, _, _, y, _ => by simp
  | x :: M, L, hn, hM, y, hy => by
    rw [List.nodup_cons] at hn
    have hx := hM x (by simp)
    rw [List.foldl_cons, dec_val M _ hn.2 (fun z hz => by rw [List.length_set]; exact hM z (by simp [hz])) y hy, val_set hx.1 hx.2 hy]
    by_cases h : x = y
    · subst h
      rw [if_neg hn.1, if_pos rfl, if_pos (by simp)]
    · rw [if_neg h]
      by_cases h2 : y ∈ M
      · rw [if_pos h2, if_pos (by simp [h2])]
      · rw [if_neg h2, if_neg (by simp [h2]; exact fun e => h e.symm)]
theorem decF_val {left : List Int} {top : Int} {M : List Int} (ht0 : 0 ≤ top) (ht1 : top < left.length) (hn : M.Nodup) (hM : ∀ x ∈ M, 0 ≤ x ∧ x < left.length ∧ x ≠ top) {y : Int} (hy : 0 ≤ y) : valZ (decF left top M) y = if y = top then 0 else if y ∈ M then valZ left y - 1 else valZ left y := by
  unfold decF
  rw [dec_val M _ hn (fun x hx => by rw [List.length_set]; have := hM x hx; omega) y hy, val_set ht0 ht1 hy]
  by_cases h : y = top
  · subst h
    rw [if_pos rfl, if_pos rfl, if_neg (fun h => (hM y h).2.2 rfl)]
  · rw [if_neg h, if_neg (c := top = y) (fun e => h e.symm)]
theorem decF_len (left : List Int) (top : Int) (M : List Int) : (decF left top M).length = left.length := by
  unfold decF
  rw [foldl_dec, List.length_set]
/-- What stays is again so. -/
theorem rel_next {n : Nat} {l R : List Nd} {left : List Int} {t : Nd} (h : RelN n l left) (hs : srtN l = t :: R) {d : Nat} (hd : ∀ a ∈ R.take d, 0 < a.d) : RelN n (decN d R) (decF left t.i ((R.take d).map Nd.i)) := by
  have hm : ∀ a, a ∈ t :: R → a ∈ l := fun a ha => (srtN_perm l).mem_iff.1 (hs ▸ ha)
  have hnd : ((t :: R).map Nd.i).Nodup := by rw [← hs]; exact ((srtN_perm l).map Nd.i).nodup_iff.2 h.nd
  rw [List.map_cons, List.nodup_cons] at hnd
  have ht := h.at_ t (hm t (by simp))
  have hR : ∀ a ∈ R, 0 ≤ a.i ∧ a.i < n ∧ 0 ≤ a.d ∧ valZ left a.i = a.d := fun a ha => h.at_ a (hm a (by simp [ha]))
  have hne : ∀ a ∈ R, a.i ≠ t.i := fun a ha e => hnd.1 (by rw [← e]; exact List.mem_map_of_mem ha)
  have hMn : ((R.take d).map Nd.i).Nodup := by
    rw [List.map_take]
    exact hnd.2.sublist (List.take_sublist _ _)
  have hM : ∀ x ∈ (R.take d).map Nd.i, 0 ≤ x ∧ x < left.length ∧ x ≠ t.i := fun x hx => by
    obtain ⟨a, ha, rfl⟩ := List.mem_map.1 hx
    have ha' := List.mem_of_mem_take ha
    have := hR a ha'
    rw [h.len]
    exact ⟨this.1, this.2.1, hne a ha'⟩
  have hval := fun y (hy : (0 : Int) ≤ y) => decF_val (left := left) ht.1 (by rw [h.len]; exact ht.2.1) hMn hM hy
  have hsplit : ((R.take d).map Nd.i ++ (R.drop d).map Nd.i).Nodup := by rw [← List.map_append, List.take_append_drop]; exact hnd.2
  have hdis : ∀ a ∈ R.drop d, a.i ∉ (R.take d).map Nd.i := fun a ha hx => (List.nodup_append.1 hsplit).2.2 _ hx _ (List.mem_map_of_mem ha) rfl
  refine ⟨by rw [decF_len]; exact h.len, h.n10, by rw [decN_i]; exact hnd.2, fun a ha => ?_, fun x h0 h1 hx => ?_⟩
  · unfold decN at ha
    rcases List.mem_append.1 ha with ha | ha
    · obtain ⟨b, hb, rfl⟩ := List.mem_map.1 ha
      have hb' := List.mem_of_mem_take hb
      have h2 := hR b hb'
      have h3 := hd b hb
      refine ⟨h2.1, h2.2.1, by show 0 ≤ b.d - 1; omega, ?_⟩
      show valZ _ b.i = b.d - 1
      rw [hval b.i h2.1, if_neg (hne b hb'), if_pos (List.mem_map_of_mem hb), h2.2.2.2]
    · have ha' := List.mem_of_mem_drop ha
      have h2 := hR a ha'
      refine ⟨h2.1, h2.2.1, h2.2.2.1, ?_⟩
      rw [hval a.i h2.1, if_neg (hne a ha'), if_neg (hdis a ha), h2.2.2.2]
  · rw [hval x h0]
    by_cases e : x = t.i
    · rw [if_pos e]
    · rw [if_neg e]
      have hxR : ∀ a ∈ R, a.i ≠ x := fun a ha e2 => by
        have : x ∈ (decN d R).map Nd.i := by rw [decN_i, ← e2]; exact List.mem_map_of_mem ha
        obtain ⟨b, hb, e3⟩ := List.mem_map.1 this
        exact hx b hb e3
      rw [if_neg (fun hmem => by
        obtain ⟨a, ha, e2⟩ := List.mem_map.1 hmem
        exact hxR a (List.mem_of_mem_take ha) e2)]
      refine h.off x h0 h1 fun a ha e2 => ?_
      have hal : a ∈ t :: R := by rw [← hs]; exact (srtN_perm l).mem_iff.2 ha
      rcases List.mem_cons.1 hal with rfl | hal
      · exact e e2.symm
      · exact hxR a hal e2
theorem falls_fAt (left : List Int) : ∀ k, fallsTo left k = (List.range k).map (fAt left)
  | 0 => rfl
  | k + 1 => by rw [falls_snoc, falls_fAt left k, List.range_succ, List.map_append]; rfl
section
variable {n : Nat} {l R : List Nd} {left : List Int} {t : Nd}
theorem left_nn (h : RelN n l left) {x : Int} (h0 : 0 ≤ x) (h1 : x < n) : 0 ≤ valZ left x := by
  by_cases hx : ∃ a ∈ l, a.i = x
  · obtain ⟨a, ha, rfl⟩ := hx
    have := h.at_ a ha
    omega
  · have := h.off x h0 h1 fun a ha e => hx ⟨a, ha, e⟩
    omega
theorem fAt_top (h : RelN n l left) (hn : 1 ≤ n) : fAt left 0 = topF left n := by
  unfold fAt
  rw [(top_falls h.len hn).1]
  rfl
theorem round_done (h : RelN n l left) (hz : ∀ hk : 0 < (srtN l).length, ¬ 0 < (srtN l)[0].d) : n = 0 ∨ valZ left (topF left n) = 0 := by
  by_cases h0 : n = 0
  · exact .inl h0
  · right
    have h1 := fAt_none h hz
    rw [fAt_top h (by omega)] at h1
    have h2 := topF_pick (left := left) n (by omega)
    have h3 := pickTo_range left [] n
    rw [← h2.1] at h3
    have := left_nn h h2.2 h3.2
    omega
theorem round_top (h : RelN n l left) (hs : srtN l = t :: R) (hd : 0 < t.d) : 1 ≤ n ∧ topF left n = t.i ∧ valZ left t.i = t.d := by
  have ht : t ∈ l := (srtN_perm l).mem_iff.1 (by rw [hs]; simp)
  have h1 := h.at_ t ht
  have hn : 1 ≤ n := by omega
  have hk : 0 < (srtN l).length := by rw [hs]; simp
  have h2 := fAt_pos h hk (by simp only [hs, List.getElem_cons_zero]; exact hd)
  rw [fAt_top h hn] at h2
  simp only [hs, List.getElem_cons_zero] at h2
  exact ⟨hn, h2, h1.2.2.2⟩
theorem round_some (h : RelN n l left) (hs : srtN l = t :: R) (hd : 0 < t.d) (h1 : t.d.toNat ≤ R.length) (h2 : ∀ a ∈ R.take t.d.toNat, 0 < a.d) : mkF left t.i n t.d.toNat [] = some ((R.take t.d.toNat).map Nd.i) := by
  obtain ⟨hn, ht, hv⟩ := round_top h hs hd
  have hlen : (srtN l).length = R.length + 1 := by rw [hs]; rfl
  have hat : ∀ q (hq : q < R.length), fAt left (q + 1) = R[q].i ∨ ¬ 0 < R[q].d := fun q hq => by
    by_cases hp : 0 < R[q].d
    · left
      have hk : q + 1 < (srtN l).length := by omega
      have := fAt_pos h hk (by simp only [hs, List.getElem_cons_succ]; exact hp)
      simpa only [hs, List.getElem_cons_succ] using this
    · exact .inr hp
  have hpos : ∀ q (hq : q < t.d.toNat), 0 < (R[q]'(by omega)).d := fun q hq => h2 _ (by
    rw [List.mem_take_iff_getElem]
    exact ⟨q, by omega, rfl⟩)
  have hat2 : ∀ q (hq : q < t.d.toNat), fAt left (q + 1) = (R[q]'(by omega)).i := fun q hq => (hat q (by omega)).resolve_right (fun hn => hn (hpos q hq))
  have hR : ∀ a ∈ R, 0 ≤ a.i ∧ valZ left a.i = a.d := fun a ha => by
    have := h.at_ a ((srtN_perm l).mem_iff.1 (by rw [hs]; simp [ha]))
    exact ⟨this.1, this.2.2.2⟩
  obtain ⟨M', h3, h4⟩ := mkF_falls h.len (top := t.i) t.d.toNat [] (by rw [← ht]; exact (top_falls h.len hn).1) (fun q hq1 hq2 => by
    obtain ⟨q', rfl⟩ : ∃ q', q = q' + 1 := ⟨q - 1, by simp at hq1; omega⟩
    have hq3 : q' < t.d.toNat := by simp at hq2; omega
    have hm := hR _ (List.getElem_mem (show q' < R.length by omega))
    rw [hat2 q' hq3, hm.2]
    exact ⟨hm.1, hpos q' hq3⟩)
  rw [h3]
  congr 1
  rw [falls_fAt] at h4
  have hl4 := congrArg List.length h4
  simp only [List.length_map, List.length_range, List.length_cons, List.length_nil] at hl4
  refine List.ext_getElem (by rw [List.length_map, List.length_take]; omega) fun q hq1 hq2 => ?_
  have h5 : (t.i :: M')[q + 1]? = some M'[q] := by rw [List.getElem?_cons_succ, List.getElem?_eq_getElem hq1]
  rw [← h4, List.getElem?_map, List.getElem?_range (by simp; omega)] at h5
  simp only [Option.map_some, Option.some.injEq] at h5
  rw [← h5, hat2 q (by omega), List.getElem_map, List.getElem_take]
theorem round_none (h : RelN n l left) (hs : srtN l = t :: R) (hd : 0 < t.d) (hb : t.d.toNat ≤ R.length → ∃ q, ∃ hq : q < R.length, q < t.d.toNat ∧ ¬ 0 < R[q].d) : mkF left t.i n t.d.toNat [] = none := by
  obtain ⟨hn, ht, hv⟩ := round_top h hs hd
  have hlen : (srtN l).length = R.length + 1 := by rw [hs]; rfl
  refine mkF_none h.len t.d.toNat [] (by rw [← ht]; exact (top_falls h.len hn).1) ?_
  by_cases hc : t.d.toNat ≤ R.length
  · obtain ⟨q, hq, hq1, hq2⟩ := hb hc
    refine ⟨q + 1, by simp, by simp; omega, fAt_none h fun hk => ?_⟩
    simp only [hs, List.getElem_cons_succ]
    exact hq2
  · refine ⟨R.length + 1, by simp, by simp; omega, fAt_none h fun hk => ?_⟩
    omega
end
/-- The program's way. -/
def hkF : Nat → List Nd → Option (List (Int × Int))
  | 0, _ => none
  | f + 1, L => match srtN L with
    | [] => some []
    | t :: R => if t.d = 0 then some [] else if R.length < t.d.toNat then none else if (R.take t.d.toNat).any (fun a => decide (a.d ≤ 0)) = true then none else
      (hkF f (decN t.d.toNat R)).map fun E => (R.take t.d.toNat).map (fun a => (t.i, a.i)) ++ E
theorem hk_ref {n : Nat} : ∀ (f : Nat) {l : List Nd} {left : List Int}, RelN n l left → hkF f l = refH n f left
  | 0, _, _, _ => rfl
  | f + 1, l, left, h => by
    rw [hkF, refH]
    cases hs : srtN l with
    | nil =>
      have h1 := round_done h (fun hk => absurd hk (by rw [hs]; simp))
      rw [if_pos h1]
    | cons t R =>
      have ht := h.at_ t ((srtN_perm l).mem_iff.1 (by rw [hs]; simp))
      show (if t.d = 0 then _ else _) = _
      by_cases hd : t.d = 0
      · have h1 := round_done h (fun hk => by simp only [hs, List.getElem_cons_zero]; omega)
        rw [if_pos hd, if_pos h1]
      · rw [if_neg hd]
        obtain ⟨hn, htop, hv⟩ := round_top h hs (by omega)
        rw [htop, hv, if_neg (c := n = 0 ∨ t.d = 0) (by omega)]
        by_cases hlen : R.length < t.d.toNat
        · rw [if_pos hlen, round_none h hs (by omega) (fun h2 => by omega)]
        · rw [if_neg hlen]
          by_cases ha : (R.take t.d.toNat).any (fun a => decide (a.d ≤ 0)) = true
          · rw [if_pos ha, round_none h hs (by omega) (fun _ => by
              obtain ⟨a, ha1, ha2⟩ := List.any_eq_true.1 ha
              rw [List.mem_take_iff_getElem] at ha1
              obtain ⟨q, hq, rfl⟩ := ha1
              have := of_decide_eq_true ha2
              exact ⟨q, by omega, by omega, by omega⟩)]
          · have hall : ∀ a ∈ R.take t.d.toNat, 0 < a.d := fun a h2 => by
              refine Classical.byContradiction fun h3 => ha (List.any_eq_true.2 ⟨a, h2, decide_eq_true (by omega)⟩)
            rw [if_neg ha, round_some h hs (by omega) (by omega) hall]
            simp only []
            rw [hk_ref f (rel_next h hs hall), List.map_map]
            rfl
end Go.Proofs.Ytlflnfelhndohaa
