/- Rings without a short cut: the reference's two tests. Conditions: the edges and the path read as lists. -/
import Derived.Test.YtfaifadfilndmaaDoorBareP
import Derived.Test.YtfaifadfilndmaaDoorRingR
import Derived.IntWalk
namespace Go.Proofs.YtfaifadfilndmaaDoor
open Go.RowKit

set_option maxRecDepth 100000 in
set_option maxHeartbeats 2000000 in
theorem ref_row (N : Nat) (A : Option Addr) (n c : Nat) (es : List Ed) (L : Option Addr) (m cl : Nat) (p : List Nat) (w : World) (hl : es.length = n) (hn : n ≤ 45) (hp : p.length = m) (hm : m ≤ 10)
    (hre : Els w w.heap.size 3 Ed.cells A es) (hrl : Els w w.heap.size 1 icell L (intsOf p)) :
    Calls Tryd.prog 75 #[.agg #[.int .i64 N, .slice A n c], .slice L m cl] w fun e w' => e = .returned (.bool (rowB es p)) ∧ Below w.heap.size w w' := by
  obtain ⟨S, hS⟩ : ∃ S, S = w.heap.size := ⟨_, rfl⟩
  have HP := Lib.hid hp
  have HRL := Lib.hid hrl
  have HNE : Hid (∀ (i j : Nat) (w1 : World), Below S w w1 → Calls Tryd.prog 66 #[.agg #[.int .i64 N, .slice A n c], .int .i64 i, .int .i64 j] w1 fun e w' => e = .returned (.bool (adj es i j)) ∧ Below w1.heap.size w1 w') := Lib.hid (fun i j w1 hb => by
    rw [hS] at hb
    exact ref_Near N i j A n c es w1 hl hn ((hre.below hb).more hb.size))
  have HB0 : Hid (Below S w (w.alloc (.cells #[.int .i64 N, .slice A n c] 24))) := Lib.hid (by rw [hS]; exact (Below.refl _ w).alloc (Nat.le_refl _) _)
  have HK0 : Hid (Blk (w.alloc (.cells #[.int .i64 N, .slice A n c] 24)) S 24 #[.int .i64 N, .slice A n c]) := Lib.hid (by rw [hS]; exact Blk.new w _ _)
  have HS := Lib.hid hS
  have HIFF := Lib.hid (rowB_iff es p)
  obtain ⟨rb, hrb⟩ : ∃ rb, rb = rowB es p := ⟨_, rfl⟩
  rw [← hrb] at HIFF ⊢
  rw [← hS] at HRL ⊢
  clear hl hn hp hre hrl hS hrb
  go_enter Tryd.func75, Tryd.ntmps75
  go_wp2_with fail
  rw [← HS.out]
  go_loopw [5] (fun s5 wr => ∃ k : Nat, k ≤ m ∧ s5 = .int .i64 k ∧ Below S w wr ∧ Blk wr S 24 #[.int .i64 N, .slice A n c] ∧ ∀ i j, i < k → j + 1 < i → adj es (p.getD i 0) (p.getD j 0) = false) (fun s5 _ => m - (intOf s5).toNat)
  case atStart => exact ⟨0, by omega, rfl, HB0.out, HK0.out, fun i j hi => by omega⟩
  case round =>
    clear HB0 HK0
    rename World => wr
    obtain ⟨k, hk, rfl, hb, hkb, hall⟩ := hrel
    have HB := Lib.hid hb
    have HK := Lib.hid hkb
    have HALL := Lib.hid hall
    have hz := hb.size
    rw [← HS.out] at hz
    have hklt := hkb.lt
    clear hb hkb hall
    by_cases hlt : k < m
    · go_wp2_with fail
      go_loopw [6] (fun s6 w2 => ∃ q : Nat, q ≤ k ∧ s6 = .int .i64 q ∧ Below S w w2 ∧ Blk w2 S 24 #[.int .i64 N, .slice A n c] ∧ ∀ j, j < q → j + 1 < k → adj es (p.getD k 0) (p.getD j 0) = false) (fun s6 _ => k - (intOf s6).toNat)
      case atStart => exact ⟨0, by omega, rfl, HB.out, HK.out, fun j hj => by omega⟩
      case round =>
        clear HB HK hz hklt
        rename World => w2
        obtain ⟨q, hq, rfl, hb, hkb, hrow⟩ := hrel
        have HB := Lib.hid hb
        have HK := Lib.hid hkb
        have HROW := Lib.hid hrow
        have hz := hb.size
        rw [← HS.out] at hz
        have hklt := hkb.lt
        clear hkb hrow
        by_cases hlq : q + 1 < k
        · have hlq1 : (q : Int) + 1 < (k : Int) := by omega
          have hki : k < (intsOf p).length := by rw [intsOf, List.length_map, HP.out]; exact hlt
          have hqi : q < (intsOf p).length := by rw [intsOf, List.length_map, HP.out]; omega
          have hgk : (intsOf p)[k] = ((p.getD k 0 : Nat) : Int) := by rw [getD_at p k (by rw [HP.out]; exact hlt)]; simp [intsOf]
          have hgq : (intsOf p)[q] = ((p.getD q 0 : Nat) : Int) := by rw [getD_at p q (by rw [HP.out]; omega)]; simp [intsOf]
          obtain ⟨x, hx⟩ : ∃ x, x = p.getD k 0 := ⟨_, rfl⟩
          obtain ⟨y, hy⟩ : ∃ y, y = p.getD q 0 := ⟨_, rfl⟩
          rw [← hx] at hgk
          rw [← hy] at hgq
          have hqm : q < m := by omega
          obtain ⟨b, off, hL, hrest⟩ := HRL.out.at1 hki
          have hcells : ∀ w' : World, Below w2.heap.size w2 w' → w'.cell? ⟨b, off + k, none⟩ = some (.int .i64 x) ∧ w'.cell? ⟨b, off + q, none⟩ = some (.int .i64 y) ∧ w'.cell? ⟨S, 0, none⟩ = some (.int .i64 N) ∧ w'.cell? ⟨S, 1, none⟩ = some (.slice A n c) := fun w' hb' => by
            have hbw := HB.out.trans (hb'.mono hz)
            obtain ⟨b1, o1, h1, _, h2⟩ := (HRL.out.below hbw).at1 hki
            obtain ⟨b2, o2, h3, _, h4⟩ := (HRL.out.below hbw).at1 hqi
            rw [hL] at h1 h3
            injection h1 with h1
            injection h1 with h1 h1'
            injection h3 with h3
            injection h3 with h3 h3'
            subst h1 h1' h3 h3'
            rw [hgk] at h2
            rw [hgq] at h4
            exact ⟨h2, h4, (HK.out.below hb' hklt).cell 0, (HK.out.below hb' hklt).cell 1⟩
          have HC := Lib.hid hcells
          have HNR := Lib.hid (HNE.out x y w2.drew hb.drew)
          subst hL
          obtain ⟨av, hav⟩ : ∃ av, av = adj es x y := ⟨_, rfl⟩
          rw [← hav] at HNR
          have HAV : Hid (av = adj es (p.getD k 0) (p.getD q 0)) := Lib.hid (by rw [hav, hx, hy])
          clear hrest hgk hgq hx hy hcells hav hb
          clear hki hqi
          go_wp2_with fail
          refine region_plain 9 10 (fun w' => Below w2.heap.size w2 w') (by kernel_rfl) rfl ?_
          refine anyC_reads (by kernel_rfl) [0, 1, 2, 3, 4, 5, 6, 7, 8] ?opa ?oha 1 _ _ _ (by kernel_rfl) ?oka
          case oha => (simp only [List.filterMap_cons, List.filterMap_nil, List.getElem?_toArray, List.getElem?_cons_zero, List.getElem?_cons_succ]; try rfl)
          repeat (
            refine readC_step (v := ?_) rfl (fun w' hw' => ?_) ?_
            rotate_left
            focus (obtain ⟨p0, p1, p2, p3⟩ := HC.out w' hw'; go_simp; try with_reducible rfl)
            go_simp)
          refine readC_nil ?_
          refine anyC_one (i := 9) (by kernel_rfl) rfl rfl (.inr (Below.refl _ w2).drew) ?_
          go_simp
          refine HNR.out.mono ?_
          clear HNR
          rintro e w3 ⟨rfl, hb3⟩
          have hb23 : Below w2.heap.size w2 w3 := ((Below.refl _ w2).drew).trans hb3
          have HB3 := Lib.hid (HB.out.trans (hb23.mono hz))
          have HK3 := Lib.hid (HK.out.below hb23 hklt)
          clear hb3 hb23
          refine anyC_end (by kernel_rfl) (.inl rfl) ?_
          cases av with
          | true =>
            have HF : Hid (rb = false) := Lib.hid (by
              rcases Bool.eq_false_or_eq_true rb with h | h
              · have := HIFF.out.1 h k q (by rw [HP.out]; exact hlt) hlq
                rw [← HAV.out] at this
                cases this
              · exact h)
            go_wp2_with fail
            go_ret
            exact ⟨ret_bool HF.out.symm, HB3.out⟩
          | false =>
            go_wp2_with fail
            go_roundw
            case rel => exact ⟨q + 1, by omega, by go_num, HB3.out, HK3.out, fun j hj hjk => by
              by_cases e : j = q
              · rw [e, ← HAV.out]
              · exact HROW.out j (by omega) hjk⟩
            case measure => simp [intOf]; omega
        · have hlq1 : ¬ ((q : Int) + 1 < (k : Int)) := by omega
          clear hb
          go_wp2_with fail
          go_roundw
          case rel => exact ⟨k + 1, by omega, by go_num, HB.out, HK.out, fun i j hi hj => by
            by_cases e : i = k
            · rw [e]; rw [e] at hj; exact HROW.out j (by omega) hj
            · exact HALL.out i j (by omega) hj⟩
          case measure => simp [intOf]; omega
    · obtain rfl : k = m := by omega
      have HT : Hid (rb = true) := Lib.hid (HIFF.out.2 fun i j hi hj => HALL.out i j (by rw [← HP.out]; exact hi) hj)
      go_wp2_with fail
      go_ret
      exact ⟨ret_bool HT.out.symm, HB.out⟩

set_option maxRecDepth 100000 in
set_option maxHeartbeats 2000000 in
theorem ref_bare (N : Nat) (A : Option Addr) (n c : Nat) (es : List Ed) (L : Option Addr) (m cl : Nat) (p : List Nat) (w : World) (hl : es.length = n) (hn : n ≤ 45) (hp : p.length = m) (hm : m ≤ 10)
    (hre : Els w w.heap.size 3 Ed.cells A es) (hrl : Els w w.heap.size 1 icell L (intsOf p)) :
    Calls Tryd.prog 74 #[.agg #[.int .i64 N, .slice A n c], .slice L m cl] w fun e w' => e = .returned (.bool (bareB es p)) ∧ Below w.heap.size w w' := by
  obtain ⟨S, hS⟩ : ∃ S, S = w.heap.size := ⟨_, rfl⟩
  have HP := Lib.hid hp
  have HRL := Lib.hid hrl
  have HNE : Hid (∀ (i j : Nat) (w1 : World), Below S w w1 → Calls Tryd.prog 66 #[.agg #[.int .i64 N, .slice A n c], .int .i64 i, .int .i64 j] w1 fun e w' => e = .returned (.bool (adj es i j)) ∧ Below w1.heap.size w1 w') := Lib.hid (fun i j w1 hb => by
    rw [hS] at hb
    exact ref_Near N i j A n c es w1 hl hn ((hre.below hb).more hb.size))
  have HB0 : Hid (Below S w (w.alloc (.cells #[.int .i64 N, .slice A n c] 24))) := Lib.hid (by rw [hS]; exact (Below.refl _ w).alloc (Nat.le_refl _) _)
  have HK0 : Hid (Blk (w.alloc (.cells #[.int .i64 N, .slice A n c] 24)) S 24 #[.int .i64 N, .slice A n c]) := Lib.hid (by rw [hS]; exact Blk.new w _ _)
  have HS := Lib.hid hS
  have HIFF := Lib.hid (bareB_iff es p)
  obtain ⟨rb, hrb⟩ : ∃ rb, rb = bareB es p := ⟨_, rfl⟩
  rw [← hrb] at HIFF ⊢
  rw [← hS] at HRL ⊢
  clear hl hn hp hre hrl hS hrb
  go_enter Tryd.func74, Tryd.ntmps74
  go_wp2_with fail
  rw [← HS.out]
  go_loopw [5] (fun s5 wr => ∃ k : Nat, k ≤ m ∧ s5 = .int .i64 k ∧ Below S w wr ∧ Blk wr S 24 #[.int .i64 N, .slice A n c] ∧ ∀ i j, i < k → j < i → i - j ≠ 1 → i - j ≠ p.length - 1 → adj es (p.getD i 0) (p.getD j 0) = false) (fun s5 _ => m - (intOf s5).toNat)
  case atStart => exact ⟨0, by omega, rfl, HB0.out, HK0.out, fun i j hi => by omega⟩
  case round =>
    clear HB0 HK0
    rename World => wr
    obtain ⟨k, hk, rfl, hb, hkb, hall⟩ := hrel
    have HB := Lib.hid hb
    have HK := Lib.hid hkb
    have HALL := Lib.hid hall
    have hz := hb.size
    rw [← HS.out] at hz
    have hklt := hkb.lt
    clear hb hkb hall
    by_cases hlt : k < m
    · go_wp2_with fail
      go_loopw [6] (fun s6 w2 => ∃ q : Nat, q ≤ k ∧ s6 = .int .i64 q ∧ Below S w w2 ∧ Blk w2 S 24 #[.int .i64 N, .slice A n c] ∧ ∀ j, j < q → k - j ≠ 1 → k - j ≠ p.length - 1 → adj es (p.getD k 0) (p.getD j 0) = false) (fun s6 _ => k - (intOf s6).toNat)
      case atStart => exact ⟨0, by omega, rfl, HB.out, HK.out, fun j hj => by omega⟩
      case round =>
        clear HB HK hz hklt
        rename World => w2
        obtain ⟨q, hq, rfl, hb, hkb, hrow⟩ := hrel
        have HB := Lib.hid hb
        have HK := Lib.hid hkb
        have HROW := Lib.hid hrow
        have hz := hb.size
        rw [← HS.out] at hz
        have hklt := hkb.lt
        clear hkb hrow
        by_cases hlq : q < k
        · have hlq1 : (q : Int) < (k : Int) := by omega
          have hd1 : IntKind.i64.wrap ((k : Int) - (q : Int)) = (k : Int) - (q : Int) := IntWalk.i64_in _ (by omega)
          have hd2 : IntKind.i64.wrap ((m : Int) - 1) = (m : Int) - 1 := IntWalk.i64_in _ (by omega)
          have hki : k < (intsOf p).length := by rw [intsOf, List.length_map, HP.out]; exact hlt
          have hqi : q < (intsOf p).length := by rw [intsOf, List.length_map, HP.out]; omega
          have hgk : (intsOf p)[k] = ((p.getD k 0 : Nat) : Int) := by rw [getD_at p k (by rw [HP.out]; exact hlt)]; simp [intsOf]
          have hgq : (intsOf p)[q] = ((p.getD q 0 : Nat) : Int) := by rw [getD_at p q (by rw [HP.out]; omega)]; simp [intsOf]
          obtain ⟨x, hx⟩ : ∃ x, x = p.getD k 0 := ⟨_, rfl⟩
          obtain ⟨y, hy⟩ : ∃ y, y = p.getD q 0 := ⟨_, rfl⟩
          rw [← hx] at hgk
          rw [← hy] at hgq
          have hqm : q < m := by omega
          obtain ⟨b, off, hL, hrest⟩ := HRL.out.at1 hki
          have hcells : ∀ w' : World, Below w2.heap.size w2 w' → w'.cell? ⟨b, off + k, none⟩ = some (.int .i64 x) ∧ w'.cell? ⟨b, off + q, none⟩ = some (.int .i64 y) ∧ w'.cell? ⟨S, 0, none⟩ = some (.int .i64 N) ∧ w'.cell? ⟨S, 1, none⟩ = some (.slice A n c) := fun w' hb' => by
            have hbw := HB.out.trans (hb'.mono hz)
            obtain ⟨b1, o1, h1, _, h2⟩ := (HRL.out.below hbw).at1 hki
            obtain ⟨b2, o2, h3, _, h4⟩ := (HRL.out.below hbw).at1 hqi
            rw [hL] at h1 h3
            injection h1 with h1
            injection h1 with h1 h1'
            injection h3 with h3
            injection h3 with h3 h3'
            subst h1 h1' h3 h3'
            rw [hgk] at h2
            rw [hgq] at h4
            exact ⟨h2, h4, (HK.out.below hb' hklt).cell 0, (HK.out.below hb' hklt).cell 1⟩
          have HC := Lib.hid hcells
          have HNR := Lib.hid (HNE.out x y w2.drew hb.drew)
          subst hL
          obtain ⟨av, hav⟩ : ∃ av, av = adj es x y := ⟨_, rfl⟩
          rw [← hav] at HNR
          have HAV : Hid (av = adj es (p.getD k 0) (p.getD q 0)) := Lib.hid (by rw [hav, hx, hy])
          clear hrest hgk hgq hx hy hcells hav hb
          clear hki hqi
          go_wp2_with fail
          refine region_plain 24 25 (fun w' => Below w2.heap.size w2 w') (by kernel_rfl) rfl ?_
          refine anyC_reads (by kernel_rfl) [0, 1, 2, 3, 4, 5, 6, 7, 8] ?opa ?oha 16 _ _ _ (by kernel_rfl) ?oka
          case oha => (simp only [List.filterMap_cons, List.filterMap_nil, List.getElem?_toArray, List.getElem?_cons_zero, List.getElem?_cons_succ]; try rfl)
          repeat (
            refine readC_step (v := ?_) rfl (fun w' hw' => ?_) ?_
            rotate_left
            focus (obtain ⟨p0, p1, p2, p3⟩ := HC.out w' hw'; go_simp; try with_reducible rfl)
            go_simp)
          refine readC_nil ?_
          refine anyC_one (i := 9) (by kernel_rfl) rfl rfl (.inr (Below.refl _ w2).drew) ?_
          go_simp
          refine HNR.out.mono ?_
          clear HNR
          rintro e w3 ⟨rfl, hb3⟩
          have hb23 : Below w2.heap.size w2 w3 := ((Below.refl _ w2).drew).trans hb3
          have HB3 := Lib.hid (HB.out.trans (hb23.mono hz))
          have HK3 := Lib.hid (HK.out.below hb23 hklt)
          have HB23 := Lib.hid hb23
          clear hb3 hb23
          cases av with
          | false =>
            go_simp
            refine anyC_reads (by kernel_rfl) [10, 11, 12, 13, 14, 15, 16, 17, 18, 19, 20, 21, 22, 23] ?opb ?ohb 1 _ _ _ (by kernel_rfl) ?okb
            case ohb => (simp only [List.filterMap_cons, List.filterMap_nil, List.getElem?_toArray, List.getElem?_cons_zero, List.getElem?_cons_succ]; try rfl)
            repeat (first
              | (refine readC_skip (by rfl) ?_
                 go_simp)
              | (refine readC_step (v := ?_) rfl (fun w' hw' => ?_) ?_
                 rotate_left
                 focus (go_simp; try with_reducible rfl)
                 go_simp))
            refine readC_nil ?_
            refine anyC_one (i := 24) (by kernel_rfl) rfl rfl (.inr HB23.out) ?_
            go_simp
            refine anyC_end (by kernel_rfl) (.inl rfl) ?_
            go_wp2_with fail
            go_roundw
            case rel => exact ⟨q + 1, by omega, by go_num, HB3.out, HK3.out, fun j hj h1 h2 => by
              by_cases e : j = q
              · subst e; exact HAV.out.symm
              · exact HROW.out j (by omega) h1 h2⟩
            case measure => simp [intOf]; omega
          | true =>
            by_cases h1 : k - q = 1
            · have e1 : ((k : Int) - (q : Int) != 1) = false := by simp; omega
              go_simp
              refine anyC_reads (by kernel_rfl) [10, 11, 12, 13, 14, 15, 16, 17, 18, 19, 20, 21, 22, 23] ?opc ?ohc 1 _ _ _ (by kernel_rfl) ?okc
              case ohc => (simp only [List.filterMap_cons, List.filterMap_nil, List.getElem?_toArray, List.getElem?_cons_zero, List.getElem?_cons_succ]; try rfl)
              repeat (first
                | (refine readC_skip (by rfl) ?_
                   go_simp)
                | (refine readC_step (v := ?_) rfl (fun w' hw' => ?_) ?_
                   rotate_left
                   focus (go_simp; try with_reducible rfl)
                   go_simp))
              refine readC_nil ?_
              refine anyC_one (i := 24) (by kernel_rfl) rfl rfl (.inr HB23.out) ?_
              go_simp
              refine anyC_end (by kernel_rfl) (.inl rfl) ?_
              go_wp2_with fail
              go_roundw
              case rel => exact ⟨q + 1, by omega, by go_num, HB3.out, HK3.out, fun j hj g1 g2 => by
                by_cases e : j = q
                · subst e; exact absurd h1 g1
                · exact HROW.out j (by omega) g1 g2⟩
              case measure => simp [intOf]; omega
            · have e1 : ((k : Int) - (q : Int) != 1) = true := by simp; omega
              by_cases h2 : k - q = m - 1
              · have e2 : ((k : Int) - (q : Int) != (m : Int) - 1) = false := by simp; omega
                go_simp
                refine anyC_reads (by kernel_rfl) [10, 11, 12, 13, 14, 15, 16, 17, 18, 19, 20, 21, 22, 23] ?opd ?ohd 1 _ _ _ (by kernel_rfl) ?okd
                case ohd => (simp only [List.filterMap_cons, List.filterMap_nil, List.getElem?_toArray, List.getElem?_cons_zero, List.getElem?_cons_succ]; try rfl)
                repeat (first
                  | (refine readC_skip (by rfl) ?_
                     go_simp)
                  | (refine readC_step (v := ?_) rfl (fun w' hw' => ?_) ?_
                     rotate_left
                     focus (go_simp; try with_reducible rfl)
                     go_simp))
                refine readC_nil ?_
                refine anyC_one (i := 24) (by kernel_rfl) rfl rfl (.inr HB23.out) ?_
                go_simp
                refine anyC_end (by kernel_rfl) (.inl rfl) ?_
                go_wp2_with fail
                go_roundw
                case rel => exact ⟨q + 1, by omega, by go_num, HB3.out, HK3.out, fun j hj g1 g2 => by
                  by_cases e : j = q
                  · subst e; exact absurd (h2.trans (by rw [HP.out])) g2
                  · exact HROW.out j (by omega) g1 g2⟩
                case measure => simp [intOf]; omega
              · have e2 : ((k : Int) - (q : Int) != (m : Int) - 1) = true := by simp; omega
                have HF : Hid (rb = false) := Lib.hid (by
                  rcases Bool.eq_false_or_eq_true rb with h | h
                  · have := HIFF.out.1 h k q (by rw [HP.out]; exact hlt) hlq h1 (by rw [HP.out]; exact h2)
                    rw [← HAV.out] at this
                    cases this
                  · exact h)
                go_simp
                refine anyC_reads (by kernel_rfl) [10, 11, 12, 13, 14, 15, 16, 17, 18, 19, 20, 21, 22, 23] ?ope ?ohe 1 _ _ _ (by kernel_rfl) ?oke
                case ohe => (simp only [List.filterMap_cons, List.filterMap_nil, List.getElem?_toArray, List.getElem?_cons_zero, List.getElem?_cons_succ]; try rfl)
                repeat (first
                  | (refine readC_skip (by rfl) ?_
                     go_simp)
                  | (refine readC_step (v := ?_) rfl (fun w' hw' => ?_) ?_
                     rotate_left
                     focus (go_simp; try with_reducible rfl)
                     go_simp))
                refine readC_nil ?_
                refine anyC_one (i := 24) (by kernel_rfl) rfl rfl (.inr HB23.out) ?_
                go_simp
                refine anyC_end (by kernel_rfl) (.inl rfl) ?_
                go_wp2_with fail
                go_ret
                exact ⟨ret_bool HF.out.symm, HB3.out⟩
        · have hlq1 : ¬ ((q : Int) < (k : Int)) := by omega
          clear hb
          go_wp2_with fail
          go_roundw
          case rel => exact ⟨k + 1, by omega, by go_num, HB.out, HK.out, fun i j hi hj g1 g2 => by
            by_cases e : i = k
            · subst e; exact HROW.out j (by omega) g1 g2
            · exact HALL.out i j (by omega) hj g1 g2⟩
          case measure => simp [intOf]; omega
    · obtain rfl : k = m := by omega
      have HT : Hid (rb = true) := Lib.hid (HIFF.out.2 fun i j hi hj g1 g2 => HALL.out i j (by rw [← HP.out]; exact hi) hj g1 g2)
      go_wp2_with fail
      go_ret
      exact ⟨ret_bool HT.out.symm, HB.out⟩
end Go.Proofs.YtfaifadfilndmaaDoor
