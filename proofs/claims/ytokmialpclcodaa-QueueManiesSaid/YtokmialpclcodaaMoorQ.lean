/- Moore and Hodgson: what is kept by steps is as many as the reference finds by all sets; in plain Lean. Conditions: none. -/
import Derived.Test.YtokmialpclcodaaMoorP
import Derived.Test.YtokmialpclcodaaQueP
import Derived.Test.YtokmialpclcodaaSortP
import Derived.Test.YtokmialpclcodaaSubP
import Derived.Test.YtokmialpclcodaaCount
import Derived.Test.YtokmialpclcodaaBit
namespace Go.Proofs.Ytokmialpclcodaa
open Go.RowKit

theorem nwt_bit {k : Nat} (hk : k < 4294967296) (x : Nat) : (nw k).getLsbD x = k.testBit x := by
  unfold nw
  rw [BitVec.getLsbD_ofNat]
  by_cases hx : x < 32
  · simp [hx]
  · rw [Nat.testBit_lt_two_pow (Nat.lt_of_lt_of_le hk (show 4294967296 ≤ 2 ^ x from Nat.le_trans (by decide : 4294967296 ≤ 2 ^ 32) (Nat.pow_le_pow_right (by omega) (by omega))))]
    simp [hx]
def dueN (l : List Jb) : List Int := l.map fun j => -j.x
def ordJ (l : List Jb) : List Int := fallsTo (dueN l) l.length
def mjOf (l : List Jb) (a : Int) : Mj := ((jAt l a.toNat).t, (jAt l a.toNat).x)
def jobsS (l : List Jb) : List Mj := (ordJ l).map (mjOf l)
theorem dueN_length (l : List Jb) : (dueN l).length = l.length := List.length_map ..
theorem ordJ_length (l : List Jb) : (ordJ l).length = l.length := fallsTo_length _ _
theorem jobsS_length (l : List Jb) : (jobsS l).length = l.length := by unfold jobsS; rw [List.length_map, ordJ_length]
theorem ordJ_all (l : List Jb) : (ordJ l).Nodup ∧ ∀ x, x ∈ ordJ l ↔ 0 ≤ x ∧ x < l.length := falls_all (dueN_length l)
theorem falls_pair {sz : List Int} {n : Nat} (hn : sz.length = n) : (fallsTo sz n).Pairwise (bef sz) := by
  obtain ⟨u, hu⟩ := sort_exists sz n n (Nat.le_refl _)
  obtain ⟨rfl, _⟩ := sort_end hn hu
  obtain ⟨P, h1, h2, h3, _⟩ := hu.split
  have e : restL n n = [] := by unfold restL; rw [Nat.sub_self]; rfl
  rw [e, List.append_nil] at h1
  rw [h1]; exact h3
theorem val_due (l : List Jb) (a : Int) (h0 : 0 ≤ a) (h1 : a < l.length) : valZ (dueN l) a = -(jAt l a.toNat).x := by
  unfold valZ dueN jAt
  have h : a.toNat < l.length := by omega
  rw [List.getD_eq_getElem?_getD, List.getElem?_map, List.getD_eq_getElem?_getD, List.getElem?_eq_getElem h]
  rfl
theorem jobsS_sorted (l : List Jb) : (jobsS l).Pairwise fun a b => a.2 ≤ b.2 := by
  unfold jobsS
  rw [List.pairwise_map]
  refine List.Pairwise.imp_of_mem ?_ (falls_pair (dueN_length l))
  intro a b ha hb hab
  have h1 := ((ordJ_all l).2 a).1 ha
  have h2 := ((ordJ_all l).2 b).1 hb
  unfold bef at hab
  rw [val_due l a h1.1 h1.2, val_due l b h2.1 h2.2] at hab
  show (jAt l a.toNat).x ≤ (jAt l b.toNat).x
  omega
theorem jobsS_nn {l : List Jb} (h : l.any (badJ Jb.x) = false) : ∀ i ∈ jobsS l, 0 ≤ i.1 := by
  intro i hi
  obtain ⟨a, _, rfl⟩ := List.mem_map.1 hi
  exact (jAt_in (g := Jb.x) rfl h a.toNat).1.1
theorem jobsS_at {l : List Jb} {k : Nat} (hk : k < l.length) : (jobsS l).take (k + 1) = (jobsS l).take k ++ [mjOf l ((ordJ l).getD k 0)] := by
  have h : k < (jobsS l).length := by rw [jobsS_length]; exact hk
  rw [List.take_succ_eq_append_getElem h]
  have e : (jobsS l)[k] = mjOf l ((ordJ l)[k]'(by rw [ordJ_length]; exact hk)) := List.getElem_map (mjOf l)
  rw [e, getD_at _ k (by rw [ordJ_length]; exact hk)]
/-- One step, in time. -/
theorem moor_keep_at {l : List Jb} {k : Nat} (hk : k < l.length) {K : List Mj} (h : Moor ((jobsS l).take k) K) {j : Mj} (hj : j = mjOf l ((ordJ l).getD k 0)) (hle : ¬ j.2 < tsum K + j.1) : Moor ((jobsS l).take (k + 1)) (K ++ [j]) := by
  rw [jobsS_at hk, ← hj]
  exact h.keep (by omega)
/-- One step, late. -/
theorem moor_late_at {l : List Jb} (hok : l.any (badJ Jb.x) = false) {k : Nat} (hk : k < l.length) {K : List Mj} (h : Moor ((jobsS l).take k) K) {j : Mj} (hj : j = mjOf l ((ordJ l).getD k 0)) (hgt : j.2 < tsum K + j.1) {p : Nat} (hp : p < ((K ++ [j]).map (·.1)).length)
    (hmax : ∀ y ∈ (K ++ [j]).map (·.1), y ≤ ((K ++ [j]).map (·.1)).getD p 0) :
    ∃ K', Moor ((jobsS l).take (k + 1)) K' ∧ K'.map (·.1) = ((K ++ [j]).map (·.1)).take p ++ ((K ++ [j]).map (·.1)).drop (p + 1) ∧ tsum K' = tsum K + j.1 - ((K ++ [j]).map (·.1)).getD p 0 := by
  have hp' : p < (K ++ [j]).length := by rwa [List.length_map] at hp
  have hget : ((K ++ [j]).map (·.1)).getD p 0 = (K ++ [j])[p].1 := by rw [getD_at _ p hp, List.getElem_map]
  have hsplit : K ++ [j] = (K ++ [j]).take p ++ (K ++ [j])[p] :: (K ++ [j]).drop (p + 1) := by
    conv => lhs; rw [← List.take_append_drop p (K ++ [j])]
    rw [← List.drop_eq_getElem_cons hp']
  refine ⟨(K ++ [j]).take p ++ (K ++ [j]).drop (p + 1), ?_, ?_, ?_⟩
  · rw [jobsS_at hk, ← hj]
    refine Moor.late h ?_ ?_ hgt hsplit ?_
    · rw [hj, ← jobsS_at hk]; exact (jobsS_sorted l).sublist (List.take_sublist _ _)
    · rw [hj, ← jobsS_at hk]; exact fun i hi => jobsS_nn hok i (List.mem_of_mem_take hi)
    · intro y hy
      rw [← hget]
      exact hmax y.1 (List.mem_map.2 ⟨y, hy, rfl⟩)
  · rw [List.map_append, List.map_take, List.map_drop]
  · rw [hget, tsum_app]
    have h1 : tsum (K ++ [j]) = tsum ((K ++ [j]).take p) + ((K ++ [j])[p].1 + tsum ((K ++ [j]).drop (p + 1))) := by
      conv => lhs; rw [hsplit]
      rw [tsum_app]
      congr 1
    rw [tsum_snoc] at h1
    omega
/-! The reference. -/
def okTo (l : List Jb) (s : BitVec 32) : Nat → Int × Bool
  | 0 => (0, true)
  | k + 1 => if bitB s ((ordJ l).getD k 0) = true then ((okTo l s k).1 + (mjOf l ((ordJ l).getD k 0)).1, (okTo l s k).2 && decide ((okTo l s k).1 + (mjOf l ((ordJ l).getD k 0)).1 ≤ (mjOf l ((ordJ l).getD k 0)).2)) else okTo l s k
def selTo (l : List Jb) (s : BitVec 32) (k : Nat) : List Mj := (((ordJ l).take k).filter (bitB s)).map (mjOf l)
theorem okTo_sel (l : List Jb) (s : BitVec 32) : ∀ k, k ≤ l.length → (okTo l s k).1 = tsum (selTo l s k) ∧ ((okTo l s k).2 = true ↔ Feas 0 (selTo l s k))
  | 0, _ => ⟨rfl, by simp [okTo, selTo, Feas]⟩
  | k + 1, hk => by
    obtain ⟨h1, h2⟩ := okTo_sel l s k (by omega)
    have hk' : k < (ordJ l).length := by rw [ordJ_length]; omega
    have hs : selTo l s (k + 1) = if bitB s ((ordJ l).getD k 0) = true then selTo l s k ++ [mjOf l ((ordJ l).getD k 0)] else selTo l s k := by
      unfold selTo
      rw [List.take_succ_eq_append_getElem hk', List.filter_append, getD_at _ k hk']
      split
      · rename_i h; simp [h]
      · rename_i h; simp [h]
    rw [hs, okTo]
    split
    · rw [tsum_snoc, feas_snoc, Bool.and_eq_true, decide_eq_true_iff, h2, h1]
      refine ⟨rfl, ?_⟩
      rw [Int.zero_add]
    · exact ⟨h1, h2⟩
def bestTo (l : List Jb) : Nat → Nat
  | 0 => 0
  | s + 1 => if (okTo l (nw s) l.length).2 = true ∧ bestTo l s < pop (nw s) then pop (nw s) else bestTo l s
theorem sel_pop (l : List Jb) (hl : l.length ≤ 32) {s : Nat} (hs : s < 2 ^ l.length) : (selTo l (nw s) l.length).length = pop (nw s) := by
  have hs32 : s < 4294967296 := Nat.lt_of_lt_of_le hs (Nat.pow_le_pow_right (by omega) hl)
  obtain ⟨hn, hm⟩ := ordJ_all l
  unfold selTo
  rw [List.length_map, List.take_of_length_le (by rw [ordJ_length]; exact Nat.le_refl _)]
  unfold pop popTo
  rw [List.countP_eq_length_filter]
  have e : ((List.range 32).filter fun i => (nw s).getLsbD i).length = (((List.range 32).filter fun i => (nw s).getLsbD i).map fun i : Nat => (i : Int)).length := (List.length_map ..).symm
  rw [e]
  refine Nat.le_antisymm ((hn.sublist List.filter_sublist).length_le_of_subset fun x hx => ?_) (List.Nodup.length_le_of_subset ?_ fun x hx => ?_)
  · obtain ⟨h1, h2⟩ := List.mem_filter.1 hx
    obtain ⟨h3, h4⟩ := (hm x).1 h1
    obtain ⟨i, rfl⟩ := Int.eq_ofNat_of_zero_le h3
    rw [bitB_nat] at h2
    exact List.mem_map.2 ⟨i, List.mem_filter.2 ⟨List.mem_range.2 (by omega), h2⟩, rfl⟩
  · rw [List.Nodup, List.pairwise_map]
    exact (List.nodup_range.sublist List.filter_sublist).imp fun h e => h (by omega)
  · obtain ⟨i, hi, rfl⟩ := List.mem_map.1 hx
    obtain ⟨_, h2⟩ := List.mem_filter.1 hi
    rw [List.mem_filter, bitB_nat]
    refine ⟨(hm _).2 ⟨by omega, ?_⟩, h2⟩
    rw [nwt_bit hs32] at h2
    have : i < l.length := by
      rcases Nat.lt_or_ge i l.length with h | h
      · exact h
      · rw [Nat.testBit_lt_two_pow (Nat.lt_of_lt_of_le hs (Nat.pow_le_pow_right (by omega) h))] at h2; cases h2
    omega
theorem sub_filter {α : Type} [DecidableEq α] {a b : List α} (h : a.Sublist b) : b.Nodup → b.filter (fun x => decide (x ∈ a)) = a := by
  induction h with
  | slnil => intro _; rfl
  | @cons a b x h ih =>
    intro hn
    have hn' := List.nodup_cons.1 hn
    rw [List.filter_cons, if_neg (by simpa using fun hx => hn'.1 (h.subset hx))]
    exact ih hn'.2
  | @cons_cons a b x h ih =>
    intro hn
    have hn' := List.nodup_cons.1 hn
    rw [List.filter_cons, if_pos (by simp)]
    congr 1
    rw [← ih hn'.2]
    refine List.filter_congr fun y hy => ?_
    rw [ih hn'.2]
    have hne : y ≠ x := fun e => hn'.1 (e ▸ hy)
    simp [hne]
theorem best_ge (l : List Jb) {s : Nat} (hok : (okTo l (nw s) l.length).2 = true) : ∀ m, s < m → pop (nw s) ≤ bestTo l m
  | 0, h => by omega
  | m + 1, h => by
    rw [bestTo]
    by_cases hsm : s = m
    · subst hsm
      split
      · exact Nat.le_refl _
      · rename_i h'; exact Nat.le_of_not_lt fun h2 => h' ⟨hok, h2⟩
    · have := best_ge l hok m (by omega)
      split
      · rename_i h'; omega
      · exact this
theorem best_le (l : List Jb) (hl : l.length ≤ 32) {K : List Mj} (h : Moor (jobsS l) K) : ∀ m, m ≤ 2 ^ l.length → bestTo l m ≤ K.length
  | 0, _ => Nat.zero_le _
  | m + 1, hm => by
    rw [bestTo]
    split
    · rename_i h'
      rw [← sel_pop l hl (by omega)]
      refine h.most ?_ ((okTo_sel l (nw m) l.length (Nat.le_refl _)).2.1 h'.1)
      unfold selTo jobsS
      exact (List.filter_sublist.trans (List.take_sublist _ _)).map _
    · exact best_le l hl h m (by omega)
theorem bestTo_is (l : List Jb) (hl : l.length ≤ 32) {K : List Mj} (h : Moor (jobsS l) K) : bestTo l (2 ^ l.length) = K.length := by
  refine Nat.le_antisymm (best_le l hl h _ (Nat.le_refl _)) ?_
  obtain ⟨o', ho, hK⟩ := List.sublist_map_iff.1 h.sub
  obtain ⟨hn, hm⟩ := ordJ_all l
  have hs := mkS_lt (fun i => decide ((i : Int) ∈ o')) l.length
  have hs32 : mkS (fun i => decide ((i : Int) ∈ o')) l.length < 4294967296 := Nat.lt_of_lt_of_le hs (Nat.pow_le_pow_right (by omega) hl)
  have hsel : selTo l (nw (mkS (fun i => decide ((i : Int) ∈ o')) l.length)) l.length = K := by
    unfold selTo
    rw [List.take_of_length_le (by rw [ordJ_length]; exact Nat.le_refl _), hK]
    congr 1
    rw [← sub_filter ho hn]
    refine List.filter_congr fun y hy => ?_
    rw [sub_filter ho hn]
    obtain ⟨h1, h2⟩ := (hm y).1 hy
    obtain ⟨i, rfl⟩ := Int.eq_ofNat_of_zero_le h1
    rw [bitB_nat, nwt_bit hs32, mkS_bit, decide_eq_true (show i < l.length by omega), Bool.true_and]
  have h1 := best_ge l (s := mkS (fun i => decide ((i : Int) ∈ o')) l.length) ((okTo_sel l _ l.length (Nat.le_refl _)).2.2 (by rw [hsel]; exact h.ok)) _ hs
  rw [← sel_pop l hl hs, hsel] at h1
  exact h1
end Go.Proofs.Ytokmialpclcodaa
