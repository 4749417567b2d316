/- Making a graph out of degrees, the reference's way, any number of them: what its loops keep; in plain Lean. Conditions: none. -/
import Derived.Test.YtlflnfelhndohaaErdP
import Derived.Test.YtlflnfelhndohaaHavG
namespace Go.Proofs.Ytlflnfelhndohaa
open Go.RowKit

theorem lsum_set : ∀ (l : List Int) (k : Nat) (v : Int) (hk : k < l.length), lsum (l.set k v) = lsum l - l[k] + v
  | [], k, v, hk => by simp at hk
  | x :: l, 0, v, _ => by simp only [List.set_cons_zero, lsum, List.getElem_cons_zero]; omega
  | x :: l, k + 1, v, hk => by
    have := lsum_set l k v (by simpa using hk)
    simp only [List.set_cons_succ, lsum, List.getElem_cons_succ]; omega
theorem lsum_dec_all : ∀ (M : List Int) (L : List Int), (∀ x ∈ M, 0 ≤ x ∧ x < L.length) → lsum (M.foldl (fun l x => l.set x.toNat (valZ l x - 1)) L) = lsum L - M.length
  | [], L, _ => by simp
  | x :: M, L, h => by
    have hx := h x (List.mem_cons_self ..)
    have hxl : x.toNat < L.length := by omega
    have ih := lsum_dec_all M (L.set x.toNat (valZ L x - 1)) (fun y hy => by rw [List.length_set]; exact h y (List.mem_cons_of_mem _ hy))
    rw [List.foldl_cons, ih, lsum_set L _ _ hxl]
    have e : valZ L x = L[x.toNat] := by unfold valZ; rw [getD_at L _ hxl]
    rw [e, List.length_cons]
    omega
theorem lsum_decF {left : List Int} {top : Int} {M : List Int} (h0 : 0 ≤ top) (h1 : top < left.length) (hM : ∀ x ∈ M, 0 ≤ x ∧ x < left.length) : lsum (decF left top M) = lsum left - valZ left top - M.length := by
  unfold decF
  have ht : top.toNat < left.length := by omega
  rw [lsum_dec_all _ _ (fun x hx => by rw [List.length_set]; exact hM x hx), lsum_set left _ _ ht]
  have e : valZ left top = left[top.toNat] := by unfold valZ; rw [getD_at left _ ht]
  rw [e]
  omega
theorem topF_range (left : List Int) : ∀ m : Nat, 0 ≤ topF left m ∧ (topF left m < m ∨ topF left m = 0)
  | 0 => ⟨Int.le_refl _, .inr rfl⟩
  | m + 1 => by
    have := topF_range left m
    rw [topF]
    split <;> omega
theorem bestF_ok (left M : List Int) (top : Int) : ∀ m : Nat, bestF left M top m = -1 ∨ (0 ≤ bestF left M top m ∧ bestF left M top m < m ∧ bestF left M top m ≠ top ∧ bestF left M top m ∉ M ∧ 0 < valZ left (bestF left M top m))
  | 0 => .inl rfl
  | m + 1 => by
    rw [bestF]
    split
    · rename_i h
      refine .inr ⟨by omega, by omega, h.1, hasB_not.1 h.2.1, ?_⟩
      unfold valZ
      rw [Int.toNat_natCast]
      exact h.2.2.1
    · rcases bestF_ok left M top m with h | h
      · exact .inl h
      · exact .inr ⟨h.1, by omega, h.2.2⟩
theorem val_off {left : List Int} {a b : Int} (ha : 0 ≤ a) (hb : 0 ≤ b) (hne : b ≠ a) (v : Int) : valZ (left.set a.toNat v) b = valZ left b := by
  unfold valZ
  rw [List.getD_eq_getElem?_getD, List.getD_eq_getElem?_getD, List.getElem?_set_ne (by omega)]
theorem bestF_set (left M : List Int) {top : Int} (ht : 0 ≤ top) (v : Int) : ∀ m : Nat, bestF (left.set top.toNat v) M top m = bestF left M top m
  | 0 => rfl
  | m + 1 => by
    have ih := bestF_set left M ht v m
    have hb := bestF_ok left M top m
    rw [bestF, bestF, ih]
    by_cases hm : (m : Int) = top
    · rw [if_neg (fun h => h.1 hm), if_neg (fun h => h.1 hm)]
    · have e1 : (left.set top.toNat v).getD m 0 = left.getD m 0 := by
        have := val_off (left := left) ht (show (0 : Int) ≤ (m : Int) by omega) hm v
        rw [val_nat, val_nat] at this
        exact this
      rw [e1]
      rcases hb with hb | hb
      · rw [hb]
        simp
      · rw [val_off ht hb.1 hb.2.2.1]
/-- While those to be joined are picked. -/
structure PickI (left : List Int) (n : Nat) (top : Int) (d c : Nat) (M : List Int) : Prop where
  len : M.length = c
  cd : c ≤ d
  pk : mkF left top n d [] = mkF left top n (d - c) M
  nd : M.Nodup
  at_ : ∀ x ∈ M, 0 ≤ x ∧ x < n ∧ x ≠ top ∧ 0 < valZ left x
section
variable {left M : List Int} {n : Nat} {top : Int} {d c : Nat}
theorem PickI.start (left : List Int) (n : Nat) (top : Int) (d : Nat) : PickI left n top d 0 [] := ⟨rfl, Nat.zero_le _, rfl, List.nodup_nil, fun x hx => by cases hx⟩
theorem PickI.none (h : PickI left n top d c M) (hc : c < d) (hb : bestF left M top n < 0) : mkF left top n d [] = none := by
  rw [h.pk, show d - c = (d - c - 1) + 1 by omega, mkF, if_pos hb]
theorem PickI.next (h : PickI left n top d c M) (hc : c < d) (hb : ¬ bestF left M top n < 0) : PickI left n top d (c + 1) (M ++ [bestF left M top n]) := by
  have hok := bestF_ok left M top n
  refine ⟨by rw [List.length_append, h.len]; rfl, by omega, ?_, ?_, fun x hx => ?_⟩
  · rw [h.pk, show d - c = (d - (c + 1)) + 1 by omega, mkF, if_neg hb]
  · rw [List.nodup_append]
    refine ⟨h.nd, by simp, fun a ha b hb2 e => ?_⟩
    rw [List.mem_singleton] at hb2
    subst hb2 e
    rcases hok with h1 | h1
    · omega
    · exact h1.2.2.2.1 ha
  · rcases List.mem_append.1 hx with hx | hx
    · exact h.at_ x hx
    · rw [List.mem_singleton.1 hx]
      rcases hok with h1 | h1
      · omega
      · exact ⟨h1.1, h1.2.1, h1.2.2.1, h1.2.2.2.2⟩
theorem PickI.end_ (h : PickI left n top d d M) : mkF left top n d [] = some M := by
  rw [h.pk, Nat.sub_self, mkF]
end
/-- What the outer rounds keep. -/
structure LeftI (sc : List Int) (n F : Nat) (left : List Int) (E : List (Int × Int)) (f gk : Nat) : Prop where
  len : left.length = n
  at_ : ∀ x ∈ left, 0 ≤ x ∧ x ≤ n
  sum : lsum left ≤ gk
  fu : gk < f
  eq_ : refH n F sc = (refH n f left).map (E ++ ·)
  sz : (E.length : Int) + lsum left ≤ 1099511627776
theorem LeftI.start {sc : List Int} {n : Nat} (hl : sc.length = n) (hn : n ≤ 1048576) (hg : ∀ k, k < n → badD n (sc.getD k 0) = false) : LeftI sc n ((lsum sc).toNat + n + 1) sc [] ((lsum sc).toNat + n + 1) (lsum sc).toNat := by
  have ha : ∀ x ∈ sc, 0 ≤ x ∧ x ≤ n := fun x hx => by
    obtain ⟨k, hk, rfl⟩ := List.mem_iff_getElem.1 hx
    have := hg k (by omega)
    rw [getD_at sc k hk] at this
    unfold badD at this
    have := of_decide_eq_false this
    omega
  refine ⟨hl, ha, by omega, by omega, ?_, ?_⟩
  · cases refH n ((lsum sc).toNat + n + 1) sc <;> rfl
  · have h1 := lsum_le (c := (n : Int)) (l := sc) fun x hx => (ha x hx).2
    rw [hl] at h1
    have h2 : n * n ≤ 1048576 * 1048576 := Nat.mul_le_mul hn hn
    have h3 : ((n * n : Nat) : Int) = (n : Int) * (n : Int) := by rw [Int.natCast_mul]
    simp only [List.length_nil]
    omega
theorem left_val {left : List Int} {n : Nat} (hl : left.length = n) (ha : ∀ x ∈ left, 0 ≤ x ∧ x ≤ n) (x : Int) : 0 ≤ valZ left x ∧ valZ left x ≤ n := by
  unfold valZ
  by_cases h : x.toNat < left.length
  · rw [getD_at left _ h]
    exact ha _ (List.getElem_mem h)
  · rw [List.getD_eq_getElem?_getD, List.getElem?_eq_none (by omega)]
    exact ⟨Int.le_refl _, by show (0 : Int) ≤ n; omega⟩
theorem val_mem {left : List Int} {x : Int} (h : x ∈ left) : ∃ k : Nat, k < left.length ∧ x = valZ left (k : Int) := by
  obtain ⟨k, hk, rfl⟩ := List.mem_iff_getElem.1 h
  exact ⟨k, hk, by rw [val_nat, getD_at left k hk]⟩
section
variable {sc left : List Int} {n F : Nat} {E : List (Int × Int)} {f gk : Nat}
theorem LeftI.done (h : LeftI sc n F left E f gk) (hz : n = 0 ∨ valZ left (topF left n) = 0) : refH n F sc = some E := by
  rw [h.eq_]
  obtain ⟨f', rfl⟩ : ∃ f', f = f' + 1 := ⟨f - 1, by have := h.fu; omega⟩
  rw [refH, if_pos hz]
  simp
theorem LeftI.fail (h : LeftI sc n F left E f gk) (hz : ¬ (n = 0 ∨ valZ left (topF left n) = 0)) (hm : mkF left (topF left n) n (valZ left (topF left n)).toNat [] = none) : refH n F sc = none := by
  rw [h.eq_]
  obtain ⟨f', rfl⟩ : ∃ f', f = f' + 1 := ⟨f - 1, by have := h.fu; omega⟩
  rw [refH, if_neg hz, hm]
  rfl
theorem LeftI.next (h : LeftI sc n F left E f gk) (hz : ¬ (n = 0 ∨ valZ left (topF left n) = 0)) {d : Nat} (hd : valZ left (topF left n) = d) {M : List Int} (hp : PickI left n (topF left n) d d M) :
    LeftI sc n F (decF left (topF left n) M) (E ++ M.map fun x => (topF left n, x)) (f - 1) (gk - 2) := by
  have ht := topF_range left n
  have hl := h.len
  have ht2 : topF left n < left.length := by omega
  have hMl : ∀ x ∈ M, 0 ≤ x ∧ x < left.length := fun x hx => by have := hp.at_ x hx; omega
  have hsum := lsum_decF ht.1 ht2 hMl
  rw [hd, hp.len] at hsum
  have hd1 : 1 ≤ d := by
    rcases Nat.eq_zero_or_pos d with e | e
    · rw [e] at hd; exact absurd (.inr hd) hz
    · exact e
  have hs := h.sum
  have hfu := h.fu
  have hsz := h.sz
  have hnn : 0 ≤ lsum (decF left (topF left n) M) := by
    refine lsum_nn fun x hx => ?_
    obtain ⟨k, hk, rfl⟩ := val_mem hx
    rw [decF_val ht.1 ht2 hp.nd (fun x hx => by have := hp.at_ x hx; omega) (by omega)]
    have := (left_val h.len h.at_ (k : Int)).1
    split
    · exact Int.le_refl _
    · split
      · rename_i hm
        have := (hp.at_ _ hm).2.2.2
        omega
      · exact this
  refine ⟨by rw [decF_len]; exact h.len, fun x hx => ?_, by omega, by omega, ?_, ?_⟩
  · obtain ⟨k, hk, rfl⟩ := val_mem hx
    rw [decF_val ht.1 ht2 hp.nd (fun x hx => by have := hp.at_ x hx; omega) (by omega)]
    have := left_val h.len h.at_ (k : Int)
    split
    · omega
    · split
      · rename_i hm
        have := (hp.at_ _ hm).2.2.2
        omega
      · exact this
  · rw [h.eq_]
    obtain ⟨f', rfl⟩ : ∃ f', f = f' + 1 := ⟨f - 1, by omega⟩
    rw [refH, if_neg hz, hd, Int.toNat_natCast, hp.end_, Nat.add_sub_cancel]
    simp only []
    rw [Option.map_map]
    congr 1
    funext x
    simp
  · rw [List.length_append, List.length_map, hp.len, hsum]
    omega
end
theorem LeftI.pos {sc left : List Int} {n F : Nat} {E : List (Int × Int)} {f gk : Nat} (h : LeftI sc n F left E f gk) {q : Nat} (hq : q < left.length) {d : Nat} (hd : left[q] = d) (h1 : 1 ≤ d) : 1 ≤ gk := by
  have h2 := lsum_set left q 0 hq
  have h3 : 0 ≤ lsum (left.set q 0) := lsum_nn fun x hx => by
    rcases List.mem_or_eq_of_mem_set hx with hx | hx
    · exact (h.at_ x hx).1
    · omega
  have := h.sum
  omega
theorem set_at {l : List Int} {q j : Nat} {v : Int} (hj : j < l.length) : (l.set q v)[j]'(by rw [List.length_set]; exact hj) = if q = j then v else l[j] := by rw [List.getElem_set]
theorem dec_take {M : List Int} {L : List Int} {k : Nat} (hk : k < M.length) : (M.take (k + 1)).foldl (fun l x => l.set x.toNat (valZ l x - 1)) L = ((M.take k).foldl (fun l x => l.set x.toNat (valZ l x - 1)) L).set M[k].toNat (valZ ((M.take k).foldl (fun l x => l.set x.toNat (valZ l x - 1)) L) M[k] - 1) := by
  rw [List.take_succ_eq_append_getElem hk, List.foldl_append]
  rfl
theorem hkF_more : ∀ (f d : Nat) (L : List Nd), L.length < f → hkF (f + d) L = hkF f L
  | 0, d, L, h => by omega
  | f + 1, d, L, h => by
    rw [show f + 1 + d = (f + d) + 1 by omega, hkF, hkF]
    have hl := srtN_len L
    cases hs : srtN L with
    | nil => rfl
    | cons t R =>
      rw [hs, List.length_cons] at hl
      show (if t.d = 0 then _ else _ : Option _) = (if t.d = 0 then _ else _ : Option _)
      rw [hkF_more f d (decN t.d.toNat R) (by rw [decN_len]; omega)]
theorem rel_start {sc : List Int} {n : Nat} (hl : sc.length = n) (hn : n ≤ 10) (hg : ∀ k, k < n → badD n (sc.getD k 0) = false) : RelN n (nodesTo sc n) sc := by
  refine ⟨hl, hn, ?_, fun a ha => ?_, fun x h0 h1 hno => ?_⟩
  · unfold nodesTo
    rw [List.map_map, List.nodup_iff_pairwise_ne, List.pairwise_map]
    exact (List.nodup_iff_pairwise_ne.1 List.nodup_range).imp fun hab e => hab (by have e : ((_ : Nat) : Int) = ((_ : Nat) : Int) := e; exact Int.ofNat.inj e)
  · unfold nodesTo at ha
    obtain ⟨k, hk, rfl⟩ := List.mem_map.1 ha
    have hk := List.mem_range.1 hk
    have := hg k hk
    unfold badD at this
    have := of_decide_eq_false this
    refine ⟨by show (0 : Int) ≤ k; omega, by show (k : Int) < n; omega, by show 0 ≤ sc.getD k 0; omega, ?_⟩
    exact val_nat sc k
  · refine absurd ?_ (hno ⟨(x.toNat : Nat), sc.getD x.toNat 0⟩ (List.mem_map.2 ⟨x.toNat, List.mem_range.2 (by omega), rfl⟩))
    show ((x.toNat : Nat) : Int) = x
    omega
/-- Both ways make the same. -/
theorem ways_same {sc : List Int} {n : Nat} (hl : sc.length = n) (hn : n ≤ 10) (hg : ∀ k, k < n → badD n (sc.getD k 0) = false) : refH n ((lsum sc).toNat + n + 1) sc = hkF (n + 1) (nodesTo sc n) := by
  rw [← hk_ref _ (rel_start hl hn hg), show (lsum sc).toNat + n + 1 = (n + 1) + (lsum sc).toNat by omega, hkF_more _ _ _ (by rw [nodesTo_len]; omega)]
end Go.Proofs.Ytlflnfelhndohaa
