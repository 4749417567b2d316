/- The tour: is an edge left, one taken away, can all be met. Conditions: the words read as a list; the table. -/
import Derived.Test.YtjkfogkpacmdlaaDoorTourQ
import Derived.Test.YtjkfogkpacmdlaaDoorInts
import Derived.Test.YtjkfogkpacmdlaaDoorPartsP
import Derived.Deep.RegionLaw
import Derived.Test.YtjkfogkpacmdlaaDoorRegC
import Derived.Test.YtjkfogkpacmdlaaDoorHeldB
import Derived.BigQuiet
import Derived.IntWalk
namespace Go.Proofs.YtjkfogkpacmdlaaDoor
open Go.RowKit Go.Shelf
attribute [local go_sem ↓] w_and w_or w_xor w_andNot w_and1 w_and255 w_xor1 w_or0 w_shl w_shl1 w_shr w_sub w_add w_sub1 w_add1
attribute [local go_sem] w_eq0 w_ne0 w_eq1 w_eq w_ne

theorem near_ne0 {N : Nat} {l : List Ed} (hg : GoodG N l) {i : Nat} (hi : i < N) : lw (nearL N l) i ≠ w0 ↔ ∃ j, Adj l i j := by
  constructor
  · intro h
    refine Classical.byContradiction fun hno => h (w_ext fun j _ => ?_)
    rw [near_bit hg hi, b_0, ← Bool.not_eq_true]
    exact fun hj => hno ⟨j, hj⟩
  · rintro ⟨j, hj⟩ h
    have := near_bit hg hi j
    rw [h, b_0] at this
    unfold Adj at hj
    rw [hj] at this
    cases this
theorem near_any {N : Nat} {l : List Ed} (hg : GoodG N l) : (nearL N l).any (fun x => x != w0) = !l.isEmpty := by
  have key : ∀ i, i < N → (lw (nearL N l) i ≠ w0 ↔ ∃ j, Adj l i j) := fun i hi => near_ne0 hg hi
  rw [Bool.eq_iff_iff, List.any_eq_true]
  cases l with
  | nil =>
    refine ⟨fun ⟨x, hx, h⟩ => ?_, fun h => by cases h⟩
    obtain ⟨i, hi, rfl⟩ := List.mem_iff_getElem.1 hx
    rw [nearL_length] at hi
    rw [← lw_at _ i (by rw [nearL_length]; exact hi)] at h
    obtain ⟨j, hj⟩ := (key i hi).1 (by simpa using h)
    cases hj
  | cons e l =>
    refine ⟨fun _ => rfl, fun _ => ?_⟩
    obtain ⟨a0, a1, b0, b1, ne, _, _⟩ := hg.ed e (List.mem_cons_self ..)
    have hadj : Adj (e :: l) e.a.toNat e.b.toNat := adj_iff.2 ⟨e, List.mem_cons_self .., joins_iff.2 (by omega)⟩
    have hi : e.a.toNat < N := by omega
    have h1 := (key _ hi).2 ⟨_, hadj⟩
    refine ⟨lw (nearL N (e :: l)) e.a.toNat, ?_, by simpa using h1⟩
    rw [lw_at _ _ (by rw [nearL_length]; exact hi)]
    exact List.getElem_mem _
theorem anyW_succ {r : List (BitVec 32)} {k : Nat} (hk : k < r.length) (p : BitVec 32 → Bool) : (r.take (k + 1)).any p = ((r.take k).any p || p r[k]) := by
  rw [List.take_succ_eq_append_getElem hk, List.any_append]
  simp
set_option maxRecDepth 100000 in
set_option maxHeartbeats 1000000 in
theorem tour_has (A : Option Addr) (n c : Nat) (r : List (BitVec 32)) (B : Nat) (w : World) (hl : r.length = n) (hn : n ≤ 32) (hr : Els w B 1 wcell A r) :
    Calls Tryd.prog 15 #[.slice A n c] w fun e w' => e = .returned (.bool (r.any fun x => x != w0)) ∧ Below w.heap.size w w' := by
  have HL := Lib.hid hl
  clear hl
  go_enter Tryd.func15, Tryd.ntmps15
  go_wp2_with fail
  go_loopw [7] (fun s7 wr => ∃ k : Nat, k ≤ n ∧ s7 = .int .i64 k ∧ Below w.heap.size w wr ∧ Els wr B 1 wcell A r ∧ (r.take k).any (fun x => x != w0) = false) (fun s7 _ => n - (intOf s7).toNat)
  case atStart => exact ⟨0, Nat.zero_le _, rfl, Below.refl _ _, hr, by simp⟩
  case round =>
    rename World => wr
    obtain ⟨k, hk, rfl, hb, he, hany⟩ := hrel
    have HB := Lib.hid hb
    have HE := Lib.hid he
    by_cases hlt : k < n
    · have hkl : k < r.length := by rw [HL.out]; exact hlt
      obtain ⟨b1, o1, rfl, _, x0⟩ := he.at1 (f := fun x : BitVec 32 => .int .u32 (wN x)) hkl
      have hs := anyW_succ hkl fun x => x != w0
      obtain ⟨x, hx⟩ : ∃ x, x = r[k] := ⟨_, rfl⟩
      rw [← hx] at x0 hs
      rw [hany, Bool.false_or] at hs
      by_cases h0 : x = w0
      · have hb0 : (x != w0) = false := by simp [h0]
        rw [hb0] at hs
        have HS := Lib.hid hs
        clear hs hx hb he hany h0
        go_wp2_with fail
        go_roundw
        case rel => exact ⟨k + 1, by omega, by go_num, HB.out, HE.out, HS.out⟩
        case measure => simp [intOf]; omega
      · have hb0 : (x != w0) = true := by simpa using h0
        have HR : Hid ((r.any fun x => x != w0) = true) := Lib.hid (List.any_eq_true.2 ⟨r[k], List.getElem_mem hkl, by rw [← hx]; exact hb0⟩)
        clear hs hx hb he hany h0
        go_wp2_with fail
        go_ret
        exact ⟨by rw [HR.out]; rfl, HB.out⟩
    · obtain rfl : k = n := by omega
      have hR : (r.any fun x => x != w0) = false := by rwa [List.take_of_length_le (by rw [HL.out]; exact Nat.le_refl _)] at hany
      have HR := Lib.hid hR
      clear hb he hany hR
      go_wp2_with fail
      go_ret
      exact ⟨by rw [HR.out]; rfl, HB.out⟩
set_option maxRecDepth 100000 in
set_option maxHeartbeats 1000000 in
theorem tour_turn (g n c a b B : Nat) (r : List (BitVec 32)) (w : World) (hl : r.length = n) (hn : n ≤ 32) (ha : a < n) (hb : b < n) (ho : Own w B 39 1 wcell (some ⟨g, 0, none⟩) c r) :
    Calls Tryd.prog 17 #[.slice (some ⟨g, 0, none⟩) n c, .int .i64 a, .int .i64 b] w fun e w' => e = .returned (.tuple #[]) ∧ Held [g] w w' ∧ Own w' B 39 1 wcell (some ⟨g, 0, none⟩) c (turnW r a b) := by
  have hal : a < r.length := by omega
  obtain ⟨ga, hga, _, _, x0, xf⟩ := ho.cell1 (f := fun x : BitVec 32 => .int .u32 (wN x)) hal
  obtain rfl : g = ga := by simpa using hga
  have e1 : r[a] = lw r a := (lw_at r a hal).symm
  rw [e1] at x0
  have HO1 := Lib.hid (ho.put1 (f := fun x : BitVec 32 => .int .u32 (wN x)) (k := a) (x := wXor (lw r a) (wShl w1 b)) hal).drew
  obtain ⟨r2, hr2⟩ : ∃ r2, r2 = r.set a (wXor (lw r a) (wShl w1 b)) := ⟨_, rfl⟩
  have HR2 := Lib.hid hr2
  have hl2 : r2.length = n := by rw [hr2, List.length_set, hl]
  rw [← hr2] at HO1
  obtain ⟨x, hx⟩ : ∃ x, x = lw r a := ⟨_, rfl⟩
  have HX := Lib.hid hx
  rw [← hx] at x0 HO1
  have hbl : b < r2.length := by omega
  have HBL := Lib.hid hbl
  have HL2 := Lib.hid hl2
  clear hga e1 hr2 hx ho hl hl2
  go_enter Tryd.func17, Tryd.ntmps17
  go_wp2_with fail
  refine region_plain 8 9 (fun w' => w' = w.drew) (by kernel_rfl) rfl ?_
  refine anyC_reads (by kernel_rfl) [0, 1, 2, 3, 4, 5, 6, 7] ?opa ?oha 1 _ _ _ (by kernel_rfl) ?oka
  case oha => (simp only [List.filterMap_cons, List.filterMap_nil, List.getElem?_toArray, List.getElem?_cons_zero, List.getElem?_cons_succ]; try rfl)
  repeat (
    refine readC_step (v := ?_) rfl (fun w' hw' => ?_) ?_
    rotate_left
    focus (subst hw'; go_simp; try with_reducible rfl)
    go_simp)
  refine readC_nil ?_
  refine anyC_one (i := 8) (by kernel_rfl) rfl rfl (.inr rfl) ?_
  go_simp
  refine anyC_end (by kernel_rfl) (.inl (by kernel_rfl)) ?_
  obtain ⟨W2, hW2⟩ : ∃ W2, W2 = (w.setCell ⟨g, a, none⟩ (.int .u32 (wN (wXor x (wShl w1 b))))).drew := ⟨_, rfl⟩
  rw [← hW2] at HO1
  have HH1 : Hid (Held [g] w W2) := Lib.hid (by rw [hW2]; exact ((Held.refl [g] w).setCell (p := ⟨g, a, none⟩) (by simp) _).drew1)
  obtain ⟨gb, hgb, _, _, y0, yf⟩ := HO1.out.cell1 (f := fun x : BitVec 32 => .int .u32 (wN x)) HBL.out
  obtain rfl : g = gb := by simpa using hgb
  have HO2 := Lib.hid (HO1.out.put1 (f := fun x : BitVec 32 => .int .u32 (wN x)) (k := b) (x := wXor (lw r2 b) (wShl w1 a)) HBL.out).drew
  rw [← lw_at r2 b HBL.out] at y0
  obtain ⟨y, hy⟩ : ∃ y, y = lw r2 b := ⟨_, rfl⟩
  have HY := Lib.hid hy
  rw [← hy] at y0 HO2
  have HW2 := Lib.hid hW2
  clear hgb hy x0 xf hW2
  go_wp2_with fail
  rw [← HW2.out]
  refine region_plain 8 9 (fun w' => w' = W2.drew) (by kernel_rfl) rfl ?_
  refine anyC_reads (by kernel_rfl) [0, 1, 2, 3, 4, 5, 6, 7] ?opb ?ohb 1 _ _ _ (by kernel_rfl) ?okb
  case ohb => (simp only [List.filterMap_cons, List.filterMap_nil, List.getElem?_toArray, List.getElem?_cons_zero, List.getElem?_cons_succ]; try rfl)
  repeat (
    refine readC_step (v := ?_) rfl (fun w' hw' => ?_) ?_
    rotate_left
    focus (subst hw'; go_simp; try with_reducible rfl)
    go_simp)
  refine readC_nil ?_
  refine anyC_one (i := 8) (by kernel_rfl) rfl rfl (.inr rfl) ?_
  go_simp
  refine anyC_end (by kernel_rfl) (.inl (by kernel_rfl)) ?_
  go_wp2_with fail
  refine bodyPost_end (v := .tuple #[]) (by simp [results, Tryd.results17, go_sem]) rfl ?_
  refine ⟨rfl, (HH1.out.setCell (p := ⟨g, b, none⟩) (by simp) _).drew1, ?_⟩
  have e : turnW r a b = r2.set b (wXor y (wShl w1 a)) := by unfold turnW; rw [← HX.out, HY.out, HR2.out, ← HX.out]
  rw [e]
  exact HO2.out
set_option maxRecDepth 100000 in
set_option maxHeartbeats 1000000 in
theorem tour_one (N : Nat) (A : Option Addr) (c i : Nat) (l : List Ed) (q : Bool) (w : World) (hg : GoodG N l) (hi : i < N) (hq : q = true ↔ conn N l i) (hr : Els w w.heap.size 1 wcell A (nearL N l)) (htab : TabOk w) (h0 : 0 < w.heap.size) :
    Calls Tryd.prog 14 #[.slice A N c, .int .i64 i] w fun e w' => e = .returned (.bool q) ∧ Below w.heap.size w w' := by
  have hN := hg.n10
  have hlen := nearL_length N l
  have HSP := Lib.hid (graph_Spread A N c (nearL N l) (wShl w1 i) (wSub (wShl w1 N) w1) w.drew hlen (by omega) hr.drew (htab.below (Below.refl _ w).drew h0) (by show 0 < w.heap.size; exact h0)
    (fun j hj => by rw [b_one] at hj; simp at hj; omega) (fun j hj => by rw [show wSub (wShl w1 N) w1 = maskW N from rfl, b_mask (by omega)] at hj; simpa using hj))
  have HG := Lib.hid hg
  have HQ := Lib.hid hq
  have HLEN := Lib.hid hlen
  clear hg hq htab hlen
  go_enter Tryd.func14, Tryd.ntmps14
  go_wp2_with fail
  refine region_plain 7 9 (fun w' => w' = w.drew) (by kernel_rfl) rfl ?_
  refine anyC_reads (by kernel_rfl) [0, 1, 2, 3, 4, 5, 6] ?opa ?oha 2 _ _ _ (by kernel_rfl) ?oka
  case oha => (simp only [List.filterMap_cons, List.filterMap_nil, List.getElem?_toArray, List.getElem?_cons_zero, List.getElem?_cons_succ]; try rfl)
  repeat (
    refine readC_step (v := ?_) rfl (fun w' hw' => ?_) ?_
    rotate_left
    focus (subst hw'; go_simp; try with_reducible rfl)
    go_simp)
  refine readC_nil ?_
  refine anyC_one (i := 7) (by kernel_rfl) rfl rfl (.inr rfl) ?_
  go_simp
  refine HSP.out.mono ?_
  clear HSP
  rintro e w2 ⟨x, rfl, hb2, hx⟩
  have hbit : ∀ j, x.getLsbD j = true ↔ Rch (Adj l) i j := fun j => by
    rw [hx j, ← rch_iff (rs_adj HG.out)]
    constructor
    · rintro ⟨i', h1, h2⟩
      rw [b_one] at h1
      have : i' = i := by simp at h1; omega
      exact this ▸ h2
    · intro h
      exact ⟨i, by rw [b_one]; simp; omega, h⟩
  have HBIT := Lib.hid hbit
  have hb2' : Below w.heap.size w w2 := (Below.refl _ w).drew.trans hb2
  have HB2 := Lib.hid hb2'
  have HE2 := Lib.hid (hr.below hb2')
  clear hx hbit hb2 hb2' hr
  refine anyC_one (i := 8) (by kernel_rfl) rfl rfl (.inl (by kernel_rfl)) ?_
  go_simp
  refine anyC_end (by kernel_rfl) (.inl (by kernel_rfl)) ?_
  go_wp2_with fail
  go_loopw [18] (fun s18 wr => ∃ k : Nat, k ≤ N ∧ s18 = .int .i64 k ∧ Below w2.heap.size w2 wr ∧ ∀ j, j < k → 0 < deg l j → Rch (Adj l) i j) (fun s18 _ => N - (intOf s18).toNat)
  case atStart => exact ⟨0, Nat.zero_le _, rfl, Below.refl _ _, fun j hj => by omega⟩
  case round =>
    rename World => wr
    obtain ⟨k, hk, rfl, hb, hall⟩ := hrel
    have HB := Lib.hid hb
    have HALL := Lib.hid hall
    by_cases hlt : k < N
    · have hkl : k < (nearL N l).length := by rw [HLEN.out]; exact hlt
      have he := HE2.out.below (hb.mono HB2.out.size)
      obtain ⟨b1, o1, rfl, _, x0⟩ := he.at1 (f := fun x : BitVec 32 => .int .u32 (wN x)) hkl
      rw [← lw_at _ k hkl] at x0
      have hd : lw (nearL N l) k ≠ w0 ↔ 0 < deg l k := by rw [near_ne0 HG.out hlt, deg_pos HG.out]
      obtain ⟨y, hy⟩ : ∃ y, y = lw (nearL N l) k := ⟨_, rfl⟩
      rw [← hy] at x0 hd
      have hseen : (wAnd (wShr x k) w1 == w0) = !x.getLsbD k := shr_and0 x k
      by_cases hy0 : y = w0
      · have hb0 : (y != w0) = false := by simp [hy0]
        have HNX : Hid (∀ j, j < k + 1 → 0 < deg l j → Rch (Adj l) i j) := Lib.hid fun j hj hdj => by
          by_cases hjk : j = k
          · subst hjk; exact absurd hy0 (hd.2 hdj)
          · exact HALL.out j (by omega) hdj
        clear hb hall hd hy hy0 he hseen
        go_wp2_with fail
        go_roundw
        case rel => exact ⟨k + 1, by omega, by go_num, HB.out, HNX.out⟩
        case measure => simp [intOf]; omega
      · have hb0 : (y != w0) = true := by simpa using hy0
        cases hxk : x.getLsbD k with
        | true =>
          rw [hxk] at hseen
          have hseen : (wAnd (wShr x k) w1 == w0) = false := hseen
          have HNX : Hid (∀ j, j < k + 1 → 0 < deg l j → Rch (Adj l) i j) := Lib.hid fun j hj hdj => by
            by_cases hjk : j = k
            · subst hjk; exact (HBIT.out j).1 hxk
            · exact HALL.out j (by omega) hdj
          clear hb hall hd hy hy0 he hxk
          go_wp2_with fail
          go_roundw
          case rel => exact ⟨k + 1, by omega, by go_num, HB.out, HNX.out⟩
          case measure => simp [intOf]; omega
        | false =>
          rw [hxk] at hseen
          have hseen : (wAnd (wShr x k) w1 == w0) = true := hseen
          have HF : Hid (q = false) := Lib.hid (by
            rw [← Bool.not_eq_true, HQ.out]
            intro hc
            have := (HBIT.out k).2 (hc k hlt (hd.1 hy0))
            rw [hxk] at this
            cases this)
          clear hb hall hd hy hy0 he hxk
          go_wp2_with fail
          go_ret
          exact ⟨by rw [HF.out]; rfl, HB2.out.trans (HB.out.mono HB2.out.size)⟩
    · obtain rfl : k = N := by omega
      have HF : Hid (q = true) := Lib.hid (HQ.out.2 fun j hj hd => HALL.out j hj hd)
      clear hb hall
      go_wp2_with fail
      go_ret
      exact ⟨by rw [HF.out]; rfl, HB2.out.trans (HB.out.mono HB2.out.size)⟩
end Go.Proofs.YtjkfogkpacmdlaaDoor
