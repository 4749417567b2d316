/- How many unlike numbers: by the reference and by slices.Compact of a list in order. Conditions: the lists read as numbers. -/
import Derived.Ground.Names2Prog
import Derived.Shelf.Lay
import Derived.Shelf.Slices.CompactI
import Derived.Test.YtlflnfelhndohaaDoorMapsHoles7
import Derived.Test.YtlflnfelhndohaaDoorMapsHoles11
import Derived.Test.YtlflnfelhndohaaDoorMapsHoles25
namespace Go.Proofs
open Go.Shelf
shelf_lay Lays2.n20 Nm2 20 at Tryd as Tryd.lCompI
end Go.Proofs
namespace Go.Proofs.YtlflnfelhndohaaDoor
open Go.RowKit Go.Shelf Go.Sort

/-- The place tells a new one. -/
def newB (l : List Int) (k : Nat) : Bool := !hasB (l.take k) (l.getD k 0)
def newsL (l : List Int) (k : Nat) : List Nat := (List.range k).filter (newB l)
def unl (l : List Int) : Nat := (newsL l l.length).length
theorem news_succ (l : List Int) (k : Nat) : (newsL l (k + 1)).length = (newsL l k).length + if newB l k = true then 1 else 0 := by
  unfold newsL
  rw [List.range_succ, List.filter_append, List.length_append]
  congr 1
  by_cases h : newB l k = true
  · rw [if_pos h, List.filter_cons_of_pos h]; rfl
  · rw [if_neg h, List.filter_cons_of_neg h]; rfl
theorem newB_iff {l : List Int} {k : Nat} (hk : k < l.length) : newB l k = true ↔ ∀ j, ∀ hj : j < k, l[j] ≠ l[k] := by
  unfold newB
  rw [Bool.not_eq_true', getD_at l k hk, hasB_not, List.mem_take_iff_getElem]
  constructor
  · intro h j hj e
    exact h ⟨j, by omega, e⟩
  · rintro h ⟨j, hj, e⟩
    exact h j (by omega) e
def theNews (l : List Int) : List Int := (newsL l l.length).map fun k => l.getD k 0
theorem theNews_nodup (l : List Int) : (theNews l).Nodup := by
  unfold theNews newsL
  rw [List.nodup_iff_pairwise_ne, List.pairwise_map]
  have h1 : ((List.range l.length).filter (newB l)).Pairwise (· < ·) := List.Pairwise.filter _ List.pairwise_lt_range
  refine List.Pairwise.imp_of_mem ?_ h1
  intro a b ha hb hab he
  obtain ⟨ha, _⟩ := List.mem_filter.1 ha
  obtain ⟨hb, hn⟩ := List.mem_filter.1 hb
  have ha := List.mem_range.1 ha
  have hb := List.mem_range.1 hb
  rw [getD_at l a ha, getD_at l b hb] at he
  exact (newB_iff hb).1 hn a hab he
theorem theNews_mem (l : List Int) (x : Int) : x ∈ theNews l ↔ x ∈ l := by
  unfold theNews newsL
  constructor
  · intro h
    obtain ⟨k, hk, rfl⟩ := List.mem_map.1 h
    have hk := List.mem_range.1 (List.mem_filter.1 hk).1
    rw [getD_at l k hk]
    exact List.getElem_mem _
  · intro h
    have hlt := List.idxOf_lt_length_of_mem h
    refine List.mem_map.2 ⟨l.idxOf x, List.mem_filter.2 ⟨List.mem_range.2 hlt, (newB_iff hlt).2 fun j hj e => ?_⟩, ?_⟩
    · rw [List.getElem_idxOf hlt] at e
      have := List.not_of_lt_findIdx (p := (· == x)) (xs := l) (i := j) hj
      simp [e] at this
    · rw [getD_at l _ hlt, List.getElem_idxOf hlt]
theorem unl_perm {l m : List Int} (h : l.Perm m) : unl l = unl m := by
  have h1 : (theNews l).Perm (theNews m) := (List.perm_ext_iff_of_nodup (theNews_nodup l) (theNews_nodup m)).2 fun x => by rw [theNews_mem, theNews_mem, h.mem_iff]
  have h2 := h1.length_eq
  unfold theNews at h2
  rwa [List.length_map, List.length_map] at h2
theorem compact_unl {l : List Int} (h : l.Pairwise (· ≤ ·)) : (Lib.compact l).length = unl l := by
  unfold Lib.compact Lib.compactUpTo unl newsL
  rw [List.length_map]
  congr 1
  refine List.filter_congr fun k hk => ?_
  have hk := List.mem_range.1 hk
  rw [Bool.eq_iff_iff, newB_iff hk]
  unfold Lib.keeps
  rw [decide_eq_true_eq]
  have hle := fun i j (hi : i < l.length) (hj : j < l.length) (hij : i < j) => List.pairwise_iff_getElem.1 h i j hi hj hij
  by_cases h0 : k = 0
  · subst h0
    exact ⟨fun _ j hj => absurd hj (by omega), fun _ => .inl rfl⟩
  · have e1 : l.toArray[k]! = l[k] := by simp [hk]
    have e2 : l.toArray[k - 1]! = l[k - 1]'(by omega) := by
      have : k - 1 < l.length := by omega
      simp [this]
    rw [e1, e2]
    constructor
    · rintro (h1 | h1) j hj e
      · exact h0 h1
      · by_cases h2 : j = k - 1
        · subst h2; exact h1 e.symm
        · have h3 := hle j (k - 1) (by omega) (by omega) (by omega)
          have h4 := hle (k - 1) k (by omega) (by omega) (by omega)
          omega
    · intro h1
      exact .inr fun e => h1 (k - 1) (by omega) e.symm
theorem Compact_ints (l : List Int) (A : Option Addr) (n cap B : Nat) (w : World) (hl : l.length = n) (ho : Own w B 3 1 icell A cap l) :
    Calls Tryd.prog 39 #[.slice A n cap] w fun e w' => ∃ (A' : Option Addr) (cap' : Nat), e = .returned (.slice A' (Lib.compact l).length cap') ∧ w.grownBy w' (blkOf A) := by
  have hcap := ho.cap_le
  have hmax := ho.le_max2
  rcases ho.2.2 with ⟨hv, h0⟩ | ⟨g, cp, cur, hv, hb, hh, hn, hm, hcs, ht⟩
  · injection hv with h1 h2 h3
    subst h1 h3
    have hl0 : l = [] := List.eq_nil_of_length_eq_zero h0
    subst hl0
    obtain rfl : 0 = n := hl
    refine (@Any.slices_Compact_int_empty _ _ Tryd.lCompI none 0 w).mono ?_
    rintro e w' ⟨rfl, rfl⟩
    exact ⟨none, 0, rfl, World.grownBy.refl _ _⟩
  · injection hv with h1 h2 h3
    subst h1 h3
    rw [Nat.mul_one] at ht
    have hf : l.flatMap icell = l.map (Value.int .i64) := flat1 l
    rw [hf] at ht
    rw [← hl]
    unfold maxLen at hmax
    refine (@Any.slices_Compact_int _ _ Tryd.lCompI g 0 cap l w (holds_of_blockI hh ht) (by omega) hcap).mono ?_
    rintro e w' ⟨rfl, m, rfl⟩
    refine ⟨_, cap, rfl, ?_⟩
    have h := grownBy_sortedI (w := w) (g := g) (n := m) (os := #[]) (Lib.compact l ++ List.replicate (l.length - (Lib.compact l).length) 0).toArray
    rwa [grow_empty] at h
set_option maxRecDepth 100000 in
set_option maxHeartbeats 1000000 in
theorem ref_Unlike (A : Option Addr) (n c : Nat) (l : List Int) (w : World) (hl : l.length = n) (hn : n ≤ maxLen) (hc : n ≤ c) (hr : Els w w.heap.size 1 icell A l) :
    Calls Tryd.prog 17 #[.slice A n c] w fun e w' => e = .returned (.int .i64 (unl l : Int)) ∧ Below w.heap.size w w' := by
  have HL := Lib.hid hl
  have HC := Lib.hid hc
  have HN := Lib.hid hn
  clear hl hc
  go_enter Tryd.func17, Tryd.ntmps17
  go_wp2_with fail
  go_loopw [3, 8] (fun s3 s8 wr => ∃ k : Nat, k ≤ n ∧ s3 = .int .i64 ((newsL l k).length : Nat) ∧ s8 = .int .i64 k ∧ Below w.heap.size w wr) (fun _ s8 _ => n - (intOf s8).toNat)
  case atStart => exact ⟨0, Nat.zero_le _, rfl, rfl, Below.refl _ _⟩
  case round =>
    rename World => wr
    obtain ⟨k, hk, rfl, rfl, hb⟩ := hrel
    have HB := Lib.hid hb
    have hnle : (newsL l k).length ≤ k := by
      have := List.length_filter_le (newB l) (List.range k)
      rw [List.length_range] at this
      exact this
    have hn9 := HN.out
    unfold maxLen at hn9
    by_cases hlt : k < n
    · have hkl : k < l.length := by rw [HL.out]; exact hlt
      have hrw := hr.below hb
      obtain ⟨b1, o1, rfl, _, x0⟩ := hrw.at1 (f := fun x : Int => .int .i64 x) hkl
      have hcap := HC.out
      have hkc : k ≤ c := by omega
      have HS := Lib.hid (news_succ l k)
      have HH := Lib.hid (Has_any (some ⟨b1, o1, none⟩) k c (l.take k) l[k] w.heap.size wr (by rw [List.length_take]; omega) (by unfold maxLen; omega) (hrw.pre k))
      obtain ⟨x, hx⟩ : ∃ x, x = l[k] := ⟨_, rfl⟩
      obtain ⟨v, hv⟩ : ∃ v, v = hasB (l.take k) x := ⟨_, rfl⟩
      have HV : Hid (newB l k = !v) := Lib.hid (by unfold newB; rw [hv, hx, getD_at l k hkl])
      obtain ⟨s, hs⟩ : ∃ s, s = (newsL l k).length := ⟨_, rfl⟩
      rw [← hs] at HS hnle ⊢
      rw [← hx] at x0 HH
      rw [← hv] at HH
      clear hs hx hv hb hrw
      go_wp2_with fail
      refine HH.out.mono ?_
      clear HH
      rintro e w2 ⟨rfl, rfl⟩
      cases v with
      | false =>
        go_wp2_with fail
        go_roundw
        case rel => exact ⟨k + 1, by omega, by rw [HS.out, HV.out]; go_num, by go_num, HB.out⟩
        case measure => simp [intOf]; omega
      | true =>
        go_wp2_with fail
        go_roundw
        case rel => exact ⟨k + 1, by omega, by rw [HS.out, HV.out]; simp, by go_num, HB.out⟩
        case measure => simp [intOf]; omega
    · obtain rfl : k = n := by omega
      go_wp2_with fail
      go_ret
      exact ⟨by unfold unl; rw [HL.out]; rfl, HB.out⟩
end Go.Proofs.YtlflnfelhndohaaDoor
