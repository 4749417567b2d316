/- The first ring of so many nodes: the reference's search. Conditions: the edges read as a list. -/
import Derived.Test.YtfaifadfilndmaaDoorRingA
import Derived.Test.YtfaifadfilndmaaDoorSnoc
namespace Go.Proofs.YtfaifadfilndmaaDoor
open Go.RowKit

/-- What the reference's search for a ring hands back. -/
def RingRes (r : Option (List Nat)) (R : Option Addr) (k : Nat) (w : World) : Prop :=
  match r with
  | some u => k = u.length ∧ Els w w.heap.size 1 icell R (intsOf u)
  | none => k = 0
theorem Ch_snoc {b : Nat → Nat → Bool} {i : Nat} : ∀ l : List Nat, Ch b l → (l ≠ [] → b (l.getLastD 0) i = true) → Ch b (l ++ [i])
  | [], _, _ => trivial
  | [a], _, h => ⟨h (by simp), trivial⟩
  | a :: c :: l, hc, h => ⟨hc.1, Ch_snoc (b := b) (c :: l) hc.2 (fun _ => by have := h (by simp); simpa [List.getLastD] using this)⟩
theorem lw_join {N : Nat} {es : List Ed} (hg : GoodG N es) {i : Nat} (hi : i < N) (j : Nat) : bitB (lw (nearL N es) i) (j : Int) = joinB es i j := by
  rw [bitB_nat, near_bit hg hi]
  rfl

set_option maxRecDepth 100000 in
set_option maxHeartbeats 2000000 in
theorem ref_ring (N : Nat) (A : Option Addr) (n c : Nat) (es : List Ed) (size : Nat) (hl : es.length = n) (hn : n ≤ 45) (hg : GoodG N es) (hN : N ≤ 10) (h3 : 3 ≤ size) (hsN : size ≤ N) : ∀ (f : Nat) (l : List Nat) (L : Option Addr) (m cl : Nat) (w : World), l.length = m → m + f = size → m ≤ cl → RowOk N l → Ch (joinB es) l →
    Els w w.heap.size 3 Ed.cells A es → Els w w.heap.size 1 icell L (intsOf l) →
    Calls Tryd.prog 52 #[.agg #[.int .i64 N, .slice A n c], .slice L m cl, .int .i64 size, .bool false] w fun e w' => ∃ (R : Option Addr) (k cr : Nat), e = .returned (.slice R k cr) ∧ Below w.heap.size w w' ∧ RingRes (rowF (nearL N es) true N f l) R k w' := by
  have HL := Lib.hid hl
  have HG := Lib.hid hg
  have HNN := Lib.hid hn
  clear hl hg hn
  intro f
  induction f with
  | zero =>
    intro l L m cl w hlm hmf hmc hok hch hre hrl
    obtain rfl : m = size := by omega
    have hb0 : Below w.heap.size w (w.alloc (.cells #[.int .i64 N, .slice A n c] 24)) := (Below.refl _ w).alloc (Nat.le_refl _) _
    have hk0 : Blk (w.alloc (.cells #[.int .i64 N, .slice A n c] 24)) w.heap.size 24 #[.int .i64 N, .slice A n c] := Blk.new w _ _
    have HR := Lib.hid (ref_IsRing N A n c es L m cl l _ HL.out HNN.out hlm h3 (by omega) hmc hok hch ((hre.below hb0).more hb0.size) ((hrl.below hb0).more hb0.size))
    have hne0 : l.isEmpty = false := by
      cases hl0 : l with
      | nil => rw [hl0] at hlm; simp at hlm; omega
      | cons a b => rfl
    have hlast : lastN l < N := by
      obtain ⟨q, hq⟩ : ∃ q, m = q + 1 := ⟨m - 1, by omega⟩
      have hlq : q < l.length := by omega
      rw [lastN_at (hlm.trans hq), List.getD_eq_getElem?_getD, List.getElem?_eq_getElem hlq]
      exact hok.2 _ (List.getElem_mem hlq)
    have hend : rowF (nearL N es) true N 0 l = if joinB es (lastN l) (l.getD 0 0) = true then some l else none := by
      rw [rowF]
      unfold endOk
      rw [hne0, lw_join HG.out hlast]
      rfl
    have HEND := Lib.hid hend
    have HM := Lib.hid hlm
    have HRL := Lib.hid hrl
    obtain ⟨bb, hbb⟩ : ∃ bb, bb = joinB es (lastN l) (l.getD 0 0) := ⟨_, rfl⟩
    rw [← hbb] at HEND HR
    have d0 := hk0.cell 0
    have d1 := hk0.cell 1
    have HB0 := Lib.hid hb0
    clear hb0 hk0 hend hne0 hlast hbb hlm hrl hre hok hch hmf
    go_enter Tryd.func52, Tryd.ntmps52
    go_wp2_with fail
    refine HR.out.mono ?_
    clear HR
    rintro e v1 ⟨rfl, hb1⟩
    have HB1 := Lib.hid (HB0.out.trans (hb1.mono HB0.out.size))
    clear hb1
    cases bb with
    | true =>
      go_wp2_with fail
      go_ret
      exact ⟨L, m, cl, rfl, HB1.out, by rw [HEND.out]; exact ⟨HM.out.symm, (HRL.out.below HB1.out).more HB1.out.size⟩⟩
    | false =>
      go_wp2_with fail
      go_ret
      exact ⟨none, 0, 0, rfl, HB1.out, by rw [HEND.out]; rfl⟩
  | succ f ih =>
    intro l L m cl w hlm hmf hmc hok hch hre hrl
    have HIH := Lib.hid ih
    have HOK := Lib.hid hok
    have HCH := Lib.hid hch
    have HM := Lib.hid hlm
    have HRE := Lib.hid hre
    have HRL := Lib.hid hrl
    have HMC := Lib.hid hmc
    have hmn : m < size := by omega
    have hmn' : ((m : Int) == (size : Int)) = false := by simp; omega
    have HF : Hid (rowF (nearL N es) true N (f + 1) l = (List.range N).findSome? (goOn (nearL N es) true N f l)) := Lib.hid rfl
    have hb0 : Below w.heap.size w (w.alloc (.cells #[.int .i64 N, .slice A n c] 24)) := (Below.refl _ w).alloc (Nat.le_refl _) _
    have hk0 : Blk (w.alloc (.cells #[.int .i64 N, .slice A n c] 24)) w.heap.size 24 #[.int .i64 N, .slice A n c] := Blk.new w _ _
    have HB0 := Lib.hid hb0
    have HK0 := Lib.hid hk0
    clear ih hok hch hlm hre hrl hb0 hk0 hmc
    go_enter Tryd.func52, Tryd.ntmps52
    go_wp2_with fail
    go_loopw [9] (fun i wr => ∃ k : Nat, k ≤ N ∧ i = .int .i64 k ∧ Below w.heap.size w wr ∧ Blk wr w.heap.size 24 #[.int .i64 N, .slice A n c] ∧ (List.range k).findSome? (goOn (nearL N es) true N f l) = none) (fun i _ => N - (intOf i).toNat)
    case atStart => exact ⟨0, by omega, rfl, HB0.out, HK0.out, rfl⟩
    case round =>
      clear HB0 HK0
      rename World => wr
      obtain ⟨k, hk, rfl, hb, hk0, hno⟩ := hrel
      have hz := hb.size
      have hSlt := hk0.lt
      have d0 := hk0.cell 0
      have d1 := hk0.cell 1
      have HB := Lib.hid hb
      have HK := Lib.hid hk0
      have HNO := Lib.hid hno
      clear hno hk0
      by_cases hlt : k < N
      · have HHAS := Lib.hid (Has_any L m cl (intsOf l) (k : Int) wr.heap.size wr.drew (by rw [intsOf, List.length_map]; exact HM.out) (by unfold maxLen; omega) ((HRL.out.below hb).more hz))
        rw [hasB_ints] at HHAS
        have hgo : goOn (nearL N es) true N f l k = if canGo (nearL N es) l k then rowF (nearL N es) true N f (l ++ [k]) else none := rfl
        have HGO := Lib.hid hgo
        have hcan : canGo (nearL N es) l k = (!l.contains k && (l.isEmpty || bitB (lw (nearL N es) (lastN l)) k)) := rfl
        have HCAN := Lib.hid hcan
        clear hgo hcan
        rcases (bool_or (l.contains k)).symm with hc | hc
        · rw [hc] at HHAS HCAN
          clear hc hb
          go_wp2_with fail
          refine region_plain 99 20 (fun w' => w' = wr.drew) (by kernel_rfl) rfl ?_
          refine anyC_reads (by kernel_rfl) [0, 1] ?opa ?oha 18 _ _ _ (by kernel_rfl) ?oka
          case oha => (simp only [List.filterMap_cons, List.filterMap_nil, List.getElem?_toArray, List.getElem?_cons_zero, List.getElem?_cons_succ]; try rfl)
          repeat (
            refine readC_step (v := ?_) rfl (fun w' hw' => ?_) ?_
            rotate_left
            focus (subst hw'; go_simp; try with_reducible rfl)
            go_simp)
          refine readC_nil ?_
          refine anyC_one (i := 2) (by kernel_rfl) rfl rfl (.inr rfl) ?_
          go_simp
          refine HHAS.out.mono ?_
          clear HHAS
          rintro e w' ⟨rfl, rfl⟩
          go_simp
          refine anyC_reads (by kernel_rfl) [3, 4, 5, 6, 7, 8, 9, 10, 11, 12, 13, 14, 15, 16, 17, 18, 19] ?oqa ?ora 0 _ _ _ (by kernel_rfl) ?osa
          case ora => (simp only [List.filterMap_cons, List.filterMap_nil, List.getElem?_toArray, List.getElem?_cons_zero, List.getElem?_cons_succ]; try rfl)
          repeat (first
            | (refine readC_skip (by rfl) ?_
               go_simp)
            | (refine readC_step (v := ?_) rfl (fun w' hw' => ?_) ?_
               rotate_left
               focus (subst hw'; go_simp; try with_reducible rfl)
               go_simp))
          refine readC_nil ?_
          refine anyC_end (by kernel_rfl) (.inr rfl) ?_
          go_wp2_with fail
          go_roundw
          case rel => exact ⟨k + 1, by omega, by go_num, HB.out.drew, HK.out.drew, range_none HNO.out (by rw [HGO.out, HCAN.out]; rfl)⟩
          case measure => simp [intOf]; omega
        · have HC := Lib.hid hc
          rw [hc] at HHAS HCAN
          clear hc
          rcases Nat.eq_zero_or_pos m with hmz | hmp
          · have hln : l = [] := List.length_eq_zero_iff.1 (HM.out.trans hmz)
            have HG2 : Hid (goOn (nearL N es) true N f l k = rowF (nearL N es) true N f (l ++ [k])) := Lib.hid (by rw [HGO.out, HCAN.out, hln]; rfl)
            have HCH2 : Hid (Ch (joinB es) (l ++ [k])) := Lib.hid (by rw [hln]; trivial)
            have hd : decide (0 < m) = false := by rw [hmz]; rfl
            clear hln HGO HCAN hmz hb
            go_wp2_with fail
            refine region_plain 99 20 (fun w' => w' = wr.drew) (by kernel_rfl) rfl ?_
            refine anyC_reads (by kernel_rfl) [0, 1] ?opb ?ohb 18 _ _ _ (by kernel_rfl) ?okb
            case ohb => (simp only [List.filterMap_cons, List.filterMap_nil, List.getElem?_toArray, List.getElem?_cons_zero, List.getElem?_cons_succ]; try rfl)
            repeat (
              refine readC_step (v := ?_) rfl (fun w' hw' => ?_) ?_
              rotate_left
              focus (subst hw'; go_simp; try with_reducible rfl)
              go_simp)
            refine readC_nil ?_
            refine anyC_one (i := 2) (by kernel_rfl) rfl rfl (.inr rfl) ?_
            go_simp
            refine HHAS.out.mono ?_
            clear HHAS
            rintro e w' ⟨rfl, rfl⟩
            go_simp
            refine anyC_reads (by kernel_rfl) [3, 4, 5, 6, 7, 8, 9, 10, 11, 12, 13, 14, 15, 16, 17, 18, 19] ?oqb ?orb 0 _ _ _ (by kernel_rfl) ?osb
            case orb => (simp only [List.filterMap_cons, List.filterMap_nil, List.getElem?_toArray, List.getElem?_cons_zero, List.getElem?_cons_succ]; try rfl)
            repeat (first
              | (refine readC_skip (by rfl) ?_
                 go_simp)
              | (refine readC_step (v := ?_) rfl (fun w' hw' => ?_) ?_
                 rotate_left
                 focus (subst hw'; go_simp; try with_reducible rfl)
                 go_simp))
            refine readC_nil ?_
            refine anyC_end (by kernel_rfl) (.inr rfl) ?_
            obtain ⟨w3, hw3⟩ : ∃ w3, w3 = wr.drew := ⟨_, rfl⟩
            rw [← hw3]
            have hb33 : Below w.heap.size w w3 := by rw [hw3]; exact HB.out.drew
            have hk33 : Blk w3 w.heap.size 24 #[.int .i64 N, .slice A n c] := by rw [hw3]; exact HK.out.drew
            have hz3 := hb33.size
            have HB3 := Lib.hid hb33
            have HK3 := Lib.hid hk33
            have d03 := hk33.cell 0
            have d13 := hk33.cell 1
            clear hw3 d0 d1 hb33 hk33
            have HO0 := Lib.hid (Own.empty w3 3 1 icell (fun _ => rfl))
            have HR1 := Lib.hid (HRL.out.below (HB3.out.alloc hz3 (.cells #[] 3)))
            have HLI : Hid ((intsOf l).length = m) := Lib.hid (by rw [intsOf, List.length_map]; exact HM.out)
            go_wp2_with (first
              | (at_builtin; go_loud (refine wpList_append_els rfl (.tmp 55) (.tmp 56) _ rfl w3.heap.size 1 3 (.int .i64 0) 8 Tryd.underlying31 (by kernel_rfl) rfl (by omega) icell _ (some ⟨w3.heap.size, 0, none⟩) 0 0 [] rfl rfl HO0.out _ _ _ (intsOf l) HLI.out rfl w.heap.size HR1.out (one_flat (fun a u hu => by simp at hu; rw [hu]; rfl) _) (by unfold maxLen; omega) (by omega) (by rw [size_alloc']; exact Nat.le_succ _) ?_; intro A2 cap2 w5 hown2 hgrow2 hloc2))
              | (at_builtin; go_loud (refine wpList_push rfl (.tmp 57) (.tmp 59) _ rfl w3.heap.size 1 3 (.int .i64 0) 8 Tryd.underlying31 (by kernel_rfl) rfl (by omega) icell w5 #[.int .i64 k] A2 _ cap2 ([] ++ intsOf l) (by simpa using HLI.out) rfl hown2 1 [(k : Int)] rfl rfl _ rfl rfl (by simp [Value.oneCell']) (by unfold maxLen; omega) (by omega) (snoc_size rfl hgrow2) ?_; intro A3 cap3 w6 hown3 hgrow3 hloc3; obtain ⟨b6, o6, z6⟩ := snoc_done rfl hown2 hgrow2 hown3 hgrow3; have hk6 := HK3.out.below b6 (HK3.out.lt); have d06 := hk6.cell 0; have d16 := hk6.cell 1; have HK6 := Lib.hid hk6)))
            have hb6 := HB3.out.trans (b6.mono hz3)
            have HB6 := Lib.hid hb6
            have hz6 := hb6.size
            have he6 : intsOf l ++ [(k : Int)] = intsOf (l ++ [k]) := by simp [intsOf]
            have hels := o6.els
            have hcap6 := o6.cap_le
            rw [he6] at hels
            rw [List.length_append, HLI.out] at hcap6
            have HCL := Lib.hid (HIH.out (l ++ [k]) A3 (m + 1) cap3 w6 (by rw [List.length_append, HM.out]; rfl) (by omega) hcap6 (HOK.out.snoc hlt HC.out) HCH2.out ((HRE.out.below hb6).more hz6) hels)
            clear hown2 hgrow2 hown3 hgrow3 hloc2 hloc3 b6 o6 hb6 he6 hels hk6
            first
              | (refine HCL.out.mono ?_)
              | (rw [show 0 + m + 1 = m + 1 by omega]; refine HCL.out.mono ?_)
            clear HCL
            rintro e w7 ⟨R, kk, cr, rfl, hb7, hres⟩
            have hz67 := HB6.out.size
            have HK7 := Lib.hid (HK6.out.below hb7 HK6.out.lt)
            have HB7 := Lib.hid (HB6.out.trans (hb7.mono hz6))
            clear hb7
            cases hrow : rowF (nearL N es) true N f (l ++ [k]) with
            | none =>
              rw [hrow] at hres
              have hg : kk = 0 := hres
              subst hg
              have HROW := Lib.hid hrow
              clear hrow hres
              go_wp2_with fail
              go_roundw
              case rel => exact ⟨k + 1, by omega, by go_num, HB7.out, HK7.out, range_none HNO.out (by rw [HG2.out]; exact HROW.out)⟩
              case measure => simp [intOf]; omega
            | some u =>
              rw [hrow] at hres
              have hul := rowF_length _ _ _ _ _ _ hrow
              rw [List.length_append, HM.out, List.length_singleton] at hul
              obtain ⟨hkk, he7⟩ := hres
              have hk0 : 0 < kk := by omega
              have HKK := Lib.hid hkk
              have HE7 := Lib.hid he7
              have HALL := Lib.hid (range_some hlt HNO.out (HG2.out.trans hrow))
              clear hrow he7 hkk hul
              go_wp2_with fail
              go_ret
              exact ⟨R, kk, cr, rfl, HB7.out, by rw [HF.out, HALL.out]; exact ⟨HKK.out, HE7.out⟩⟩
          · obtain ⟨q, hmq⟩ : ∃ q, m = q + 1 := ⟨m - 1, by omega⟩
            have hms : (m : Int) - 1 = (q : Int) := by omega
            have hqm : (q : Int) < (m : Int) := by omega
            have hzq : (0 : Int) ≤ (q : Int) := by omega
            have hd : decide (0 < m) = true := by rw [hmq]; simp
            have hwq : IntKind.i64.wrap (q : Int) = (q : Int) := wrap_le16 q (by omega)
            have hlq : q < l.length := by rw [HM.out]; omega
            have hzl : lastN l = l[q] := by rw [lastN_at (HM.out.trans hmq), List.getD_eq_getElem?_getD, List.getElem?_eq_getElem hlq]; rfl
            have hzn : lastN l < N := by rw [hzl]; exact HOK.out.2 _ (List.getElem_mem hlq)
            have hil : q < (intsOf l).length := by rw [intsOf, List.length_map]; exact hlq
            have hgl : (intsOf l)[q] = ((lastN l : Nat) : Int) := by rw [hzl]; simp [intsOf]
            have hne0 : l.isEmpty = false := by
              cases hl0 : l with
              | nil => rw [hl0] at hlq; simp at hlq
              | cons a b => rfl
            rw [hne0, lw_join HG.out hzn] at HCAN
            have HCH2 : Hid (joinB es (lastN l) k = true → Ch (joinB es) (l ++ [k])) := Lib.hid (fun h => Ch_snoc l HCH.out (fun _ => h))
            have hNE : Hid (Calls Tryd.prog 66 #[.agg #[.int .i64 N, .slice A n c], .int .i64 (lastN l : Nat), .int .i64 k] wr.drew fun e w' => e = .returned (.bool (joinB es (lastN l) k)) ∧ Below wr.drew.heap.size wr.drew w') := Lib.hid (ref_Near N (lastN l) k A n c es wr.drew HL.out HNN.out ((HRE.out.below hb.drew).more hb.drew.size))
            obtain ⟨b2, off2, rfl, _, g2⟩ := (HRL.out.below HB.out).at1 hil
            rw [hgl] at g2
            obtain ⟨bt, hbt⟩ : ∃ bt, bt = joinB es (lastN l) k := ⟨_, rfl⟩
            rw [← hbt] at hNE HCAN HCH2
            obtain ⟨z, hzz⟩ : ∃ z, z = lastN l := ⟨_, rfl⟩
            rw [← hzz] at g2 hzn hNE
            clear hgl hne0 hzl hzz hlq hil hmq hbt hb
            go_wp2_with fail
            refine region_plain 16 20 (fun w' => w' = wr.drew) (by kernel_rfl) rfl ?_
            refine anyC_reads (by kernel_rfl) [0, 1] ?opc ?ohc 18 _ _ _ (by kernel_rfl) ?okc
            case ohc => (simp only [List.filterMap_cons, List.filterMap_nil, List.getElem?_toArray, List.getElem?_cons_zero, List.getElem?_cons_succ]; try rfl)
            case okc =>
              repeat (
                refine readC_step (v := ?_) rfl (fun w' hw' => ?_) ?_
                rotate_left
                focus (subst hw'; go_simp; try with_reducible rfl)
                go_simp)
              refine readC_nil ?_
              refine anyC_one (i := 2) (by kernel_rfl) rfl rfl (.inr rfl) ?_
              go_simp
              refine HHAS.out.mono ?_
              clear HHAS
              rintro e w' ⟨rfl, rfl⟩
              go_simp
              refine anyC_reads (by kernel_rfl) [3, 4, 5, 6, 7, 8, 9, 10, 11, 12, 13, 14, 15] ?opd ?ohd 4 _ _ _ (by kernel_rfl) ?okd
              case ohd => (simp only [List.filterMap_cons, List.filterMap_nil, List.getElem?_toArray, List.getElem?_cons_zero, List.getElem?_cons_succ]; try rfl)
              case okd =>
                repeat (
                  refine readC_step (v := ?_) rfl (fun w' hw' => ?_) ?_
                  rotate_left
                  focus (subst hw'; go_simp; try with_reducible rfl)
                  go_simp)
                refine readC_nil ?_
                refine anyC_one (i := 16) (by kernel_rfl) rfl rfl (.inr rfl) ?_
                go_simp
                refine hNE.out.mono ?_
                clear hNE
                rintro e w3 ⟨rfl, hb3⟩
                have hb3' : Below wr.heap.size wr w3 := ((Below.refl _ wr).drew).trans hb3
                have hb33 := HB.out.trans (hb3'.mono hz)
                have hk33 := HK.out.below hb3' hSlt
                have hz3 := hb33.size
                have HB3 := Lib.hid hb33
                have HK3 := Lib.hid hk33
                have d03 := hk33.cell 0
                have d13 := hk33.cell 1
                clear hb3 hb3' hb33 hk33 g2 d0 d1
                go_simp
                refine anyC_one (i := 17) (by kernel_rfl) rfl rfl (.inl (by kernel_rfl)) ?_
                go_simp
                refine anyC_one (i := 18) (by kernel_rfl) rfl rfl (.inl (by kernel_rfl)) ?_
                go_simp
                refine anyC_one (i := 19) (by kernel_rfl) rfl rfl (.inl (by kernel_rfl)) ?_
                go_simp
                refine anyC_end (by kernel_rfl) (.inl (by kernel_rfl)) ?_
                cases bt with
                | false =>
                  go_wp2_with fail
                  go_roundw
                  case rel => exact ⟨k + 1, by omega, by go_num, HB3.out, HK3.out, range_none HNO.out (by rw [HGO.out, HCAN.out]; rfl)⟩
                  case measure => simp [intOf]; omega
                | true =>
                  have HG2 : Hid (goOn (nearL N es) true N f l k = rowF (nearL N es) true N f (l ++ [k])) := Lib.hid (by rw [HGO.out, HCAN.out]; rfl)
                  have HCH3 : Hid (Ch (joinB es) (l ++ [k])) := Lib.hid (by simpa using HCH2.out)
                  clear HCH2
                  have HCH2 := HCH3
                  clear HGO HCAN HCH3
                  have HO0 := Lib.hid (Own.empty w3 3 1 icell (fun _ => rfl))
                  have HR1 := Lib.hid (HRL.out.below (HB3.out.alloc hz3 (.cells #[] 3)))
                  have HLI : Hid ((intsOf l).length = m) := Lib.hid (by rw [intsOf, List.length_map]; exact HM.out)
                  go_wp2_with (first
                    | (at_builtin; go_loud (refine wpList_append_els rfl (.tmp 55) (.tmp 56) _ rfl w3.heap.size 1 3 (.int .i64 0) 8 Tryd.underlying31 (by kernel_rfl) rfl (by omega) icell _ (some ⟨w3.heap.size, 0, none⟩) 0 0 [] rfl rfl HO0.out _ _ _ (intsOf l) HLI.out rfl w.heap.size HR1.out (one_flat (fun a u hu => by simp at hu; rw [hu]; rfl) _) (by unfold maxLen; omega) (by omega) (by rw [size_alloc']; exact Nat.le_succ _) ?_; intro A2 cap2 w5 hown2 hgrow2 hloc2))
                    | (at_builtin; go_loud (refine wpList_push rfl (.tmp 57) (.tmp 59) _ rfl w3.heap.size 1 3 (.int .i64 0) 8 Tryd.underlying31 (by kernel_rfl) rfl (by omega) icell w5 #[.int .i64 k] A2 _ cap2 ([] ++ intsOf l) (by simpa using HLI.out) rfl hown2 1 [(k : Int)] rfl rfl _ rfl rfl (by simp [Value.oneCell']) (by unfold maxLen; omega) (by omega) (snoc_size rfl hgrow2) ?_; intro A3 cap3 w6 hown3 hgrow3 hloc3; obtain ⟨b6, o6, z6⟩ := snoc_done rfl hown2 hgrow2 hown3 hgrow3; have hk6 := HK3.out.below b6 (HK3.out.lt); have d06 := hk6.cell 0; have d16 := hk6.cell 1; have HK6 := Lib.hid hk6)))
                  have hb6 := HB3.out.trans (b6.mono hz3)
                  have HB6 := Lib.hid hb6
                  have hz6 := hb6.size
                  have he6 : intsOf l ++ [(k : Int)] = intsOf (l ++ [k]) := by simp [intsOf]
                  have hels := o6.els
                  have hcap6 := o6.cap_le
                  rw [he6] at hels
                  rw [List.length_append, HLI.out] at hcap6
                  have HCL := Lib.hid (HIH.out (l ++ [k]) A3 (m + 1) cap3 w6 (by rw [List.length_append, HM.out]; rfl) (by omega) hcap6 (HOK.out.snoc hlt HC.out) HCH2.out ((HRE.out.below hb6).more hz6) hels)
                  clear hown2 hgrow2 hown3 hgrow3 hloc2 hloc3 b6 o6 hb6 he6 hels hk6
                  first
                    | (refine HCL.out.mono ?_)
                    | (rw [show 0 + m + 1 = m + 1 by omega]; refine HCL.out.mono ?_)
                  clear HCL
                  rintro e w7 ⟨R, kk, cr, rfl, hb7, hres⟩
                  have hz67 := HB6.out.size
                  have HK7 := Lib.hid (HK6.out.below hb7 HK6.out.lt)
                  have HB7 := Lib.hid (HB6.out.trans (hb7.mono hz6))
                  clear hb7
                  cases hrow : rowF (nearL N es) true N f (l ++ [k]) with
                  | none =>
                    rw [hrow] at hres
                    have hg : kk = 0 := hres
                    subst hg
                    have HROW := Lib.hid hrow
                    clear hrow hres
                    go_wp2_with fail
                    go_roundw
                    case rel => exact ⟨k + 1, by omega, by go_num, HB7.out, HK7.out, range_none HNO.out (by rw [HG2.out]; exact HROW.out)⟩
                    case measure => simp [intOf]; omega
                  | some u =>
                    rw [hrow] at hres
                    have hul := rowF_length _ _ _ _ _ _ hrow
                    rw [List.length_append, HM.out, List.length_singleton] at hul
                    obtain ⟨hkk, he7⟩ := hres
                    have hk0 : 0 < kk := by omega
                    have HKK := Lib.hid hkk
                    have HE7 := Lib.hid he7
                    have HALL := Lib.hid (range_some hlt HNO.out (HG2.out.trans hrow))
                    clear hrow he7 hkk hul
                    go_wp2_with fail
                    go_ret
                    exact ⟨R, kk, cr, rfl, HB7.out, by rw [HF.out, HALL.out]; exact ⟨HKK.out, HE7.out⟩⟩
      · obtain rfl : k = N := by omega
        clear hb
        go_wp2_with fail
        go_ret
        exact ⟨none, 0, 0, rfl, HB.out, by rw [HF.out, HNO.out]; rfl⟩
end Go.Proofs.YtfaifadfilndmaaDoor
