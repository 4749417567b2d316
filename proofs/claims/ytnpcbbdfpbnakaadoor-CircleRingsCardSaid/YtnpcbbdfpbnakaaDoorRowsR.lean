/- The first row of players: the reference's search. Conditions: the words read as a list. -/
import Derived.Test.YtnpcbbdfpbnakaaDoorRowP
import Derived.Test.YtnpcbbdfpbnakaaDoorRowsA
import Derived.Test.YtnpcbbdfpbnakaaDoorBit
import Derived.Test.YtnpcbbdfpbnakaaDoorSnoc
import Derived.Test.YtnpcbbdfpbnakaaDoorSubP
namespace Go.Proofs.YtnpcbbdfpbnakaaDoor
open Go.RowKit
attribute [local go_sem ↓] w_and w_or w_xor w_andNot w_and1 w_and255 w_xor1 w_or0 w_shl w_shl1 w_shr w_sub w_add w_sub1 w_add1
attribute [local go_sem] w_eq0 w_ne0 w_eq1 w_eq w_ne

/-- What the reference's search hands back. -/
def RefRes (r : Option (List Nat)) (R : Option Addr) (k : Nat) (g : Bool) (w : World) : Prop :=
  match r with
  | some u => g = true ∧ k = u.length ∧ Els w w.heap.size 1 icell R (intsOf u)
  | none => g = false
theorem hasB_ints (l : List Nat) (k : Nat) : hasB (intsOf l) (k : Int) = l.contains k := by
  unfold hasB intsOf
  rw [Bool.eq_iff_iff, List.any_map, List.any_eq_true, List.contains_iff_mem]
  constructor
  · rintro ⟨x, hx, he⟩
    have he' : k = x := by simp at he; omega
    rw [he']; exact hx
  · intro h
    exact ⟨k, h, by simp⟩
def goOn (t : List (BitVec 32)) (ring : Bool) (n f : Nat) (l : List Nat) (i : Nat) : Option (List Nat) := if canGo t l i then rowF t ring n f (l ++ [i]) else none
theorem range_none {β : Type} {g : Nat → Option β} {k : Nat} (h : (List.range k).findSome? g = none) (hk : g k = none) : (List.range (k + 1)).findSome? g = none := by
  rw [List.range_succ]
  exact findSome_more h hk
theorem range_some {β : Type} {g : Nat → Option β} {k n : Nat} (hkn : k < n) (h : (List.range k).findSome? g = none) {b : β} (hk : g k = some b) : (List.range n).findSome? g = some b := by
  refine findSome_stop h hk ?_
  rw [← List.range_succ]
  exact ⟨(List.range (n - (k + 1))).map (fun x => (k + 1) + x), by rw [← List.range_add]; congr 1; omega⟩

set_option maxRecDepth 100000 in
set_option maxHeartbeats 1000000 in
theorem ref_rowOf (A : Option Addr) (n c : Nat) (t : List (BitVec 32)) (hl : t.length = n) (hn : n ≤ 8) (ring : Bool) : ∀ (f : Nat) (l : List Nat) (L : Option Addr) (m cl : Nat) (w : World), l.length = m → m + f = n → RowOk n l → Els w w.heap.size 1 wcell A t → Els w w.heap.size 1 icell L (intsOf l) →
    Calls Tryd.prog 61 #[.slice A n c, .slice L m cl, .bool ring] w fun e w' => ∃ (R : Option Addr) (k cr : Nat) (g : Bool), e = .returned (.tuple #[.slice R k cr, .bool g]) ∧ Below w.heap.size w w' ∧ RefRes (rowF t ring n f l) R k g w' := by
  have HL := Lib.hid hl
  clear hl
  intro f
  induction f with
  | zero =>
    intro l L m cl w hlm hmf hok hrt hrl
    obtain rfl : m = n := by omega
    have HOK := Lib.hid hok
    have HM := Lib.hid hlm
    have HRL := Lib.hid hrl
    cases ring with
    | false =>
      clear hok hlm hrt hrl hmf
      go_enter Tryd.func61, Tryd.ntmps61
      go_wp2_with fail
      refine region_plain 99 25 (fun w' => w' = w.drew) (by kernel_rfl) rfl ?_
      refine anyC_reads (by kernel_rfl) [0, 1, 2, 3, 4, 5, 6, 7, 8, 9, 10, 11, 12, 13, 14, 15, 16, 17, 18, 19, 20, 21, 22, 23, 24] ?opl ?ohl 0 _ _ _ (by kernel_rfl) ?okk
      case ohl => (simp only [List.filterMap_cons, List.filterMap_nil, List.getElem?_toArray, List.getElem?_cons_zero, List.getElem?_cons_succ]; try rfl)
      case okk =>
        repeat (first
          | (refine readC_skip (by rfl) ?_
             go_simp)
          | (refine readC_step (v := ?_) rfl (fun w' hw' => ?_) ?_
             rotate_left
             focus (subst hw'; go_simp; try with_reducible rfl)
             go_simp))
        refine readC_nil ?_
        refine anyC_end (by kernel_rfl) (.inr rfl) ?_
        go_wp2_with fail
        refine bodyPost_ret (v := .tuple #[.slice L m cl, .bool true]) (by simp [results, Tryd.results61, go_sem]) rfl ?_
        exact ⟨L, m, cl, true, rfl, (Below.refl _ w).drew, by rw [rowF, show endOk t false l = true from rfl]; exact ⟨rfl, HM.out.symm, HRL.out⟩⟩
    | true =>
      rcases Nat.eq_zero_or_pos m with hmz | hmp
      · subst hmz
        have hln : l = [] := List.length_eq_zero_iff.1 hlm
        have HLN := Lib.hid hln
        clear hok hlm hrt hrl hmf hln
        go_enter Tryd.func61, Tryd.ntmps61
        go_wp2_with fail
        refine region_plain 99 25 (fun w' => w' = w.drew) (by kernel_rfl) rfl ?_
        refine anyC_reads (by kernel_rfl) [0, 1, 2, 3, 4, 5, 6, 7, 8, 9, 10, 11, 12, 13, 14, 15, 16, 17, 18, 19, 20, 21, 22, 23, 24] ?opm ?ohm 0 _ _ _ (by kernel_rfl) ?okm
        case ohm => (simp only [List.filterMap_cons, List.filterMap_nil, List.getElem?_toArray, List.getElem?_cons_zero, List.getElem?_cons_succ]; try rfl)
        case okm =>
          repeat (first
            | (refine readC_skip (by rfl) ?_
               go_simp)
            | (refine readC_step (v := ?_) rfl (fun w' hw' => ?_) ?_
               rotate_left
               focus (subst hw'; go_simp; try with_reducible rfl)
               go_simp))
          refine readC_nil ?_
          refine anyC_end (by kernel_rfl) (.inr rfl) ?_
          go_wp2_with fail
          refine bodyPost_ret (v := .tuple #[.slice L 0 cl, .bool false]) (by simp [results, Tryd.results61, go_sem]) rfl ?_
          exact ⟨L, 0, cl, false, rfl, (Below.refl _ w).drew, by rw [rowF, HLN.out]; rfl⟩
      · obtain ⟨q, rfl⟩ : ∃ q, m = q + 1 := ⟨m - 1, by omega⟩
        have hlq : q < l.length := by rw [hlm]; omega
        have hzl : lastN l = l[q] := by rw [lastN_at hlm, List.getD_eq_getElem?_getD, List.getElem?_eq_getElem hlq]; rfl
        have hzn : lastN l < q + 1 := by rw [hzl]; exact hok.2 _ (List.getElem_mem hlq)
        have hil : q < (intsOf l).length := by rw [intsOf, List.length_map]; exact hlq
        have hi0 : 0 < (intsOf l).length := by omega
        have hgl : (intsOf l)[q] = ((lastN l : Nat) : Int) := by rw [hzl]; simp [intsOf]
        have hg0 : (intsOf l)[0] = ((l.getD 0 0 : Nat) : Int) := by
          rw [List.getD_eq_getElem?_getD, List.getElem?_eq_getElem (show 0 < l.length by omega)]
          simp [intsOf]
        have hne0 : l.isEmpty = false := by
          cases hl0 : l with
          | nil => rw [hl0] at hlq; simp at hlq
          | cons a b => rfl
        have hend : endOk t true l = bitB (lw t (lastN l)) (l.getD 0 0 : Nat) := by unfold endOk; rw [hne0]; rfl
        obtain ⟨b4, off4, h4e, _, g4⟩ := hrl.at1 hi0
        obtain ⟨b2, off2, rfl, hb2, g2⟩ := hrl.at1 hil
        obtain ⟨rfl, rfl⟩ : b2 = b4 ∧ off2 = off4 := by injection h4e with h; injection h with h1 h2 h3; exact ⟨h1, h2⟩
        rw [hgl] at g2
        rw [hg0, Nat.add_zero] at g4
        have htl : lastN l < t.length := by rw [HL.out]; exact hzn
        obtain ⟨b3, off3, rfl, hb3, g3⟩ := hrt.at1 htl
        rw [← lw_at t _ htl] at g3
        obtain ⟨z, hz⟩ : ∃ z, z = lastN l := ⟨_, rfl⟩
        obtain ⟨y0, hy0⟩ : ∃ y, y = l.getD 0 0 := ⟨_, rfl⟩
        rw [← hz] at g2 g3 hzn hend
        rw [← hy0] at g4 hend
        have hwq : IntKind.i64.wrap (q : Int) = (q : Int) := wrap_le8 q (by omega)
        have hq1 : (q : Int) < (q : Int) + 1 := by omega
        have hq0 : (0 : Int) < (q : Int) + 1 := by omega
        have hzi : (z : Int) < (q : Int) + 1 := by omega
        have HEND0 : Hid (rowF t true (q + 1) 0 l = if endOk t true l = true then some l else none) := Lib.hid rfl
        have HE := Lib.hid hend
        clear hgl hg0 hne0 hzl htl hz hlq hil hi0 hend hy0 h4e hmf hok hlm hrt hrl
        go_enter Tryd.func61, Tryd.ntmps61
        go_wp2_with fail
        refine region_plain 99 25 (fun w' => w' = w.drew) (by kernel_rfl) rfl ?_
        refine anyC_reads (by kernel_rfl) [0, 1, 2, 3, 4, 5, 6, 7, 8, 9, 10, 11, 12, 13, 14, 15, 16, 17, 18, 19] ?opn ?ohn 5 _ _ _ (by kernel_rfl) ?okn
        case ohn => (simp only [List.filterMap_cons, List.filterMap_nil, List.getElem?_toArray, List.getElem?_cons_zero, List.getElem?_cons_succ]; try rfl)
        case okn =>
          repeat (
            refine readC_step (v := ?_) rfl (fun w' hw' => ?_) ?_
            rotate_left
            focus (subst hw'; go_simp; try with_reducible rfl)
            go_simp)
          refine readC_nil ?_
          refine anyC_one (i := 20) (by kernel_rfl) rfl rfl (.inr rfl) ?_
          go_simp
          refine (Bit_any _ _ _).mono ?_
          rintro e w' ⟨rfl, rfl⟩
          rw [← HE.out]
          obtain ⟨be, hbe⟩ : ∃ be, be = endOk t true l := ⟨_, rfl⟩
          rw [← hbe] at HEND0 ⊢
          clear hbe HE
          go_simp
          refine anyC_reads (by kernel_rfl) [21, 22, 23, 24] ?opo ?oho 0 _ _ _ (by kernel_rfl) ?oko
          case oho => (simp only [List.filterMap_cons, List.filterMap_nil, List.getElem?_toArray, List.getElem?_cons_zero, List.getElem?_cons_succ]; try rfl)
          case oko =>
            repeat (
              refine readC_step (v := ?_) rfl (fun w' hw' => ?_) ?_
              rotate_left
              focus (subst hw'; go_simp; try with_reducible rfl)
              go_simp)
            refine readC_nil ?_
            refine anyC_end (by kernel_rfl) (.inr rfl) ?_
            go_wp2_with fail
            refine bodyPost_ret (v := .tuple #[.slice (some ⟨b2, off2, none⟩) (q + 1) cl, .bool be]) (by simp [results, Tryd.results61, go_sem]) rfl ?_
            refine ⟨some ⟨b2, off2, none⟩, q + 1, cl, be, rfl, (Below.refl _ w).drew, ?_⟩
            cases be with
            | true => rw [HEND0.out]; exact ⟨rfl, HM.out.symm, HRL.out⟩
            | false => rw [HEND0.out]; rfl
  | succ f ih =>
    intro l L m cl w hlm hmf hok hrt hrl
    have HIH := Lib.hid ih
    have HOK := Lib.hid hok
    have HM := Lib.hid hlm
    have HRT := Lib.hid hrt
    have HRL := Lib.hid hrl
    have hmn : m < n := by omega
    have hmn' : ((m : Int) == (n : Int)) = false := by simp; omega
    have HF : Hid (rowF t ring n (f + 1) l = (List.range n).findSome? (goOn t ring n f l)) := Lib.hid rfl
    clear ih hok hlm hrt hrl
    go_enter Tryd.func61, Tryd.ntmps61
    go_wp2_with fail
    go_loopw [8] (fun i wr => ∃ k : Nat, k ≤ n ∧ i = .int .i64 k ∧ Below w.heap.size w wr ∧ (List.range k).findSome? (goOn t ring n f l) = none) (fun i _ => n - (intOf i).toNat)
    case atStart => exact ⟨0, by omega, rfl, Below.refl _ _, rfl⟩
    case round =>
      rename World => wr
      obtain ⟨k, hk, rfl, hb, hno⟩ := hrel
      have hz := hb.size
      have HB := Lib.hid hb
      have HNO := Lib.hid hno
      clear hno
      by_cases hlt : k < n
      · have HHAS := Lib.hid (Has_any L m cl (intsOf l) (k : Int) wr.heap.size wr (by rw [intsOf, List.length_map]; exact HM.out) (by unfold maxLen; omega) ((HRL.out.below hb).more hz))
        rw [hasB_ints] at HHAS
        have hgo : goOn t ring n f l k = if canGo t l k then rowF t ring n f (l ++ [k]) else none := rfl
        have HGO := Lib.hid hgo
        have hcan : canGo t l k = (!l.contains k && (l.isEmpty || bitB (lw t (lastN l)) k)) := rfl
        have HCAN := Lib.hid hcan
        clear hgo hcan hb
        rcases (bool_or (l.contains k)).symm with hc | hc
        · rw [hc] at HHAS HCAN
          clear hc
          go_wp2_with fail
          refine HHAS.out.mono ?_
          clear HHAS
          rintro e w' ⟨rfl, rfl⟩
          go_wp2_with fail
          go_roundw
          case rel => exact ⟨k + 1, by omega, by go_num, HB.out, range_none HNO.out (by rw [HGO.out, HCAN.out]; rfl)⟩
          case measure => simp [intOf]; omega
        · have HC := Lib.hid hc
          rw [hc] at HHAS HCAN
          clear hc
          rcases Nat.eq_zero_or_pos m with hmz | hmp
          · have hln : l = [] := List.length_eq_zero_iff.1 (HM.out.trans hmz)
            have HG2 : Hid (goOn t ring n f l k = rowF t ring n f (l ++ [k])) := Lib.hid (by rw [HGO.out, HCAN.out, hln]; rfl)
            have hd : decide (0 < m) = false := by rw [hmz]; rfl
            clear hln HGO HCAN hmz
            go_wp2_with fail
            refine HHAS.out.mono ?_
            clear HHAS
            rintro e w' ⟨rfl, rfl⟩
            have HO0 := Lib.hid (Own.empty wr 3 1 icell (fun _ => rfl))
            have HR1 := Lib.hid (HRL.out.below (HB.out.alloc hz (.cells #[] 3)))
            have HLI : Hid ((intsOf l).length = m) := Lib.hid (by rw [intsOf, List.length_map]; exact HM.out)
            go_wp2_with (first
              | (at_builtin; go_loud (refine wpList_append_els rfl (.tmp 69) (.tmp 70) _ rfl wr.heap.size 1 3 (.int .i64 0) 8 Tryd.underlying32 (by kernel_rfl) rfl (by omega) icell _ (some ⟨wr.heap.size, 0, none⟩) 0 0 [] rfl rfl HO0.out _ _ _ (intsOf l) HLI.out rfl w.heap.size HR1.out (one_flat (fun a u hu => by simp at hu; rw [hu]; rfl) _) (by unfold maxLen; omega) (by omega) (by rw [size_alloc']; exact Nat.le_succ _) ?_; intro A2 cap2 w5 hown2 hgrow2 hloc2))
              | (at_builtin; go_loud (refine wpList_push rfl (.tmp 71) (.tmp 73) _ rfl wr.heap.size 1 3 (.int .i64 0) 8 Tryd.underlying32 (by kernel_rfl) rfl (by omega) icell w5 #[.int .i64 k] A2 _ cap2 ([] ++ intsOf l) (by simpa using HLI.out) rfl hown2 1 [(k : Int)] rfl rfl _ rfl rfl (by simp [Value.oneCell']) (by unfold maxLen; omega) (by omega) (snoc_size rfl hgrow2) ?_; intro A3 cap3 w6 hown3 hgrow3 hloc3)))
            obtain ⟨b6, o6, z6⟩ := snoc_done rfl hown2 hgrow2 hown3 hgrow3
            have hb6 := HB.out.trans (b6.mono hz)
            have HB6 := Lib.hid hb6
            have hz6 := hb6.size
            have he6 : intsOf l ++ [(k : Int)] = intsOf (l ++ [k]) := by simp [intsOf]
            have hels := o6.els
            rw [he6] at hels
            have HCL := Lib.hid (HIH.out (l ++ [k]) A3 (m + 1) cap3 w6 (by rw [List.length_append, HM.out]; rfl) (by omega) (HOK.out.snoc hlt HC.out) ((HRT.out.below hb6).more hz6) hels)
            clear hown2 hgrow2 hown3 hgrow3 hloc2 hloc3 b6 o6 hb6 he6 hels
            first
              | (refine HCL.out.mono ?_)
              | (rw [show 0 + m + 1 = m + 1 by omega]; refine HCL.out.mono ?_)
            clear HCL
            rintro e w7 ⟨R, kk, cr, g, rfl, hb7, hres⟩
            have HB7 := Lib.hid (HB6.out.trans (hb7.mono hz6))
            clear hb7
            cases hrow : rowF t ring n f (l ++ [k]) with
            | none =>
              rw [hrow] at hres
              have hg : g = false := hres
              subst hg
              have HROW := Lib.hid hrow
              clear hrow hres
              go_wp2_with fail
              go_roundw
              case rel => exact ⟨k + 1, by omega, by go_num, HB7.out, range_none HNO.out (by rw [HG2.out]; exact HROW.out)⟩
              case measure => simp [intOf]; omega
            | some u =>
              rw [hrow] at hres
              obtain ⟨rfl, rfl, he7⟩ := hres
              have HE7 := Lib.hid he7
              have HALL := Lib.hid (range_some hlt HNO.out (HG2.out.trans hrow))
              clear hrow he7
              go_wp2_with fail
              refine bodyPost_ret (v := .tuple #[.slice R u.length cr, .bool true]) (by simp [results, Tryd.results61, go_sem]) rfl ?_
              exact ⟨R, u.length, cr, true, rfl, HB7.out, by rw [HF.out, HALL.out]; exact ⟨rfl, rfl, HE7.out⟩⟩
          · obtain ⟨q, hmq⟩ : ∃ q, m = q + 1 := ⟨m - 1, by omega⟩
            have hms : (m : Int) - 1 = (q : Int) := by omega
            have hqm : (q : Int) < (m : Int) := by omega
            have hzq : (0 : Int) ≤ (q : Int) := by omega
            have hd : decide (0 < m) = true := by rw [hmq]; simp
            have hwq : IntKind.i64.wrap (q : Int) = (q : Int) := wrap_le8 q (by omega)
            have hlq : q < l.length := by rw [HM.out]; omega
            have hzl : lastN l = l[q] := by rw [lastN_at (HM.out.trans hmq), List.getD_eq_getElem?_getD, List.getElem?_eq_getElem hlq]; rfl
            have hzn : lastN l < n := by rw [hzl]; exact HOK.out.2 _ (List.getElem_mem hlq)
            have hil : q < (intsOf l).length := by rw [intsOf, List.length_map]; exact hlq
            have hgl : (intsOf l)[q] = ((lastN l : Nat) : Int) := by rw [hzl]; simp [intsOf]
            have hne0 : l.isEmpty = false := by
              cases hl0 : l with
              | nil => rw [hl0] at hlq; simp at hlq
              | cons a b => rfl
            rw [hne0] at HCAN
            obtain ⟨b2, off2, rfl, hb2, g2⟩ := (HRL.out.below HB.out).at1 hil
            rw [hgl] at g2
            have htl : lastN l < t.length := by rw [HL.out]; exact hzn
            obtain ⟨b3, off3, rfl, hb3, g3⟩ := (HRT.out.below HB.out).at1 htl
            rw [← lw_at t _ htl] at g3
            obtain ⟨z, hzz⟩ : ∃ z, z = lastN l := ⟨_, rfl⟩
            rw [← hzz] at g2 g3 hzn HCAN
            have hzi : (z : Int) < (n : Int) := by omega
            clear hgl hne0 hzl htl hzz hlq hil hmq
            go_wp2_with fail
            refine HHAS.out.mono ?_
            clear HHAS
            rintro e w' ⟨rfl, rfl⟩
            go_wp2_with fail
            refine (Bit_any _ _ _).mono ?_
            rintro e w' ⟨rfl, rfl⟩
            rcases bool_or (bitB (lw t z) k) with hbt | hbt
            · rw [hbt] at HCAN ⊢
              clear hbt
              go_wp2_with fail
              go_roundw
              case rel => exact ⟨k + 1, by omega, by go_num, HB.out, range_none HNO.out (by rw [HGO.out, HCAN.out]; rfl)⟩
              case measure => simp [intOf]; omega
            · rw [hbt] at HCAN ⊢
              have HG2 : Hid (goOn t ring n f l k = rowF t ring n f (l ++ [k])) := Lib.hid (by rw [HGO.out, HCAN.out]; rfl)
              clear hbt HGO HCAN
              have HO0 := Lib.hid (Own.empty wr 3 1 icell (fun _ => rfl))
              have HR1 := Lib.hid (HRL.out.below (HB.out.alloc hz (.cells #[] 3)))
              have HLI : Hid ((intsOf l).length = m) := Lib.hid (by rw [intsOf, List.length_map]; exact HM.out)
              go_wp2_with (first
                | (at_builtin; go_loud (refine wpList_append_els rfl (.tmp 69) (.tmp 70) _ rfl wr.heap.size 1 3 (.int .i64 0) 8 Tryd.underlying32 (by kernel_rfl) rfl (by omega) icell _ (some ⟨wr.heap.size, 0, none⟩) 0 0 [] rfl rfl HO0.out _ _ _ (intsOf l) HLI.out rfl w.heap.size HR1.out (one_flat (fun a u hu => by simp at hu; rw [hu]; rfl) _) (by unfold maxLen; omega) (by omega) (by rw [size_alloc']; exact Nat.le_succ _) ?_; intro A2 cap2 w5 hown2 hgrow2 hloc2))
                | (at_builtin; go_loud (refine wpList_push rfl (.tmp 71) (.tmp 73) _ rfl wr.heap.size 1 3 (.int .i64 0) 8 Tryd.underlying32 (by kernel_rfl) rfl (by omega) icell w5 #[.int .i64 k] A2 _ cap2 ([] ++ intsOf l) (by simpa using HLI.out) rfl hown2 1 [(k : Int)] rfl rfl _ rfl rfl (by simp [Value.oneCell']) (by unfold maxLen; omega) (by omega) (snoc_size rfl hgrow2) ?_; intro A3 cap3 w6 hown3 hgrow3 hloc3)))
              obtain ⟨b6, o6, z6⟩ := snoc_done rfl hown2 hgrow2 hown3 hgrow3
              have hb6 := HB.out.trans (b6.mono hz)
              have HB6 := Lib.hid hb6
              have hz6 := hb6.size
              have he6 : intsOf l ++ [(k : Int)] = intsOf (l ++ [k]) := by simp [intsOf]
              have hels := o6.els
              rw [he6] at hels
              have HCL := Lib.hid (HIH.out (l ++ [k]) A3 (m + 1) cap3 w6 (by rw [List.length_append, HM.out]; rfl) (by omega) (HOK.out.snoc hlt HC.out) ((HRT.out.below hb6).more hz6) hels)
              clear hown2 hgrow2 hown3 hgrow3 hloc2 hloc3 b6 o6 hb6 he6 hels
              first
                | (refine HCL.out.mono ?_)
                | (rw [show 0 + m + 1 = m + 1 by omega]; refine HCL.out.mono ?_)
              clear HCL
              rintro e w7 ⟨R, kk, cr, g, rfl, hb7, hres⟩
              have HB7 := Lib.hid (HB6.out.trans (hb7.mono hz6))
              clear hb7
              cases hrow : rowF t ring n f (l ++ [k]) with
              | none =>
                rw [hrow] at hres
                have hg : g = false := hres
                subst hg
                have HROW := Lib.hid hrow
                clear hrow hres
                go_wp2_with fail
                go_roundw
                case rel => exact ⟨k + 1, by omega, by go_num, HB7.out, range_none HNO.out (by rw [HG2.out]; exact HROW.out)⟩
                case measure => simp [intOf]; omega
              | some u =>
                rw [hrow] at hres
                obtain ⟨rfl, rfl, he7⟩ := hres
                have HE7 := Lib.hid he7
                have HALL := Lib.hid (range_some hlt HNO.out (HG2.out.trans hrow))
                clear hrow he7
                go_wp2_with fail
                refine bodyPost_ret (v := .tuple #[.slice R u.length cr, .bool true]) (by simp [results, Tryd.results61, go_sem]) rfl ?_
                exact ⟨R, u.length, cr, true, rfl, HB7.out, by rw [HF.out, HALL.out]; exact ⟨rfl, rfl, HE7.out⟩⟩
      · obtain rfl : k = n := by omega
        clear hb
        go_wp2_with fail
        refine bodyPost_ret (v := .tuple #[.slice none 0 0, .bool false]) (by simp [results, Tryd.results61, go_sem]) rfl ?_
        exact ⟨none, 0, 0, false, rfl, HB.out, by rw [HF.out, HNO.out]; rfl⟩
end Go.Proofs.YtnpcbbdfpbnakaaDoor
