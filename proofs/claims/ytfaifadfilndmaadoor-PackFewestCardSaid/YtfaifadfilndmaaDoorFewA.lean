/- How few boxes: the reference's search. Conditions: the sizes and the boxes read as lists. -/
import Derived.Test.YtfaifadfilndmaaDoorFewU
import Derived.Test.YtfaifadfilndmaaDoorInBox
import Derived.Test.YtfaifadfilndmaaDoorSnoc
import Derived.Test.YtfaifadfilndmaaDoorRegC
import Derived.Test.YtfaifadfilndmaaDoorSplitP
namespace Go.Proofs.YtfaifadfilndmaaDoor
open Go.RowKit

theorem fUsed_take (l : List Nat) (k : Nat) (h : k < l.length) : fUsed (l.take (k + 1)) = if fUsed (l.take k) ≤ l[k] then l[k] + 1 else fUsed (l.take k) := by
  rw [List.take_succ_eq_append_getElem h, fUsed_snoc]
def fBest (room : Int) (sz : Nat → Int) (n f : Nat) (l : List Nat) (k : Nat) : Int := (List.range k).foldl (fun best b => if decide (fIn sz l b + sz l.length ≤ room) = true then (if fRef room sz n f (l ++ [b]) < best then fRef room sz n f (l ++ [b]) else best) else best) (n + 1 : Nat)
theorem fBest_succ (room : Int) (sz : Nat → Int) (n f : Nat) (l : List Nat) (k : Nat) : fBest room sz n f l (k + 1) = if decide (fIn sz l k + sz l.length ≤ room) = true then (if fRef room sz n f (l ++ [k]) < fBest room sz n f l k then fRef room sz n f (l ++ [k]) else fBest room sz n f l k) else fBest room sz n f l k := by
  unfold fBest
  rw [List.range_succ, List.foldl_append]
  rfl
set_option maxRecDepth 100000 in
set_option maxHeartbeats 1000000 in
theorem ref_boxes (sz : List Int) (A : Option Addr) (n c : Nat) (room : Int) (g : Nat → Int) (hg : g = fun i => sz.getD i 0) (hs : sz.length = n) (h8 : n ≤ 8) (hb : ∀ i, 0 ≤ sz.getD i 0 ∧ sz.getD i 0 ≤ 1048576) (hr0 : 0 ≤ room) (hr1 : room ≤ 1048576) : ∀ (f : Nat) (l : List Nat) (L : Option Addr) (m cl : Nat) (w : World), l.length = m → m + f = n → fUsed l ≤ m →
    Els w w.heap.size 1 icell A sz → Els w w.heap.size 1 icell L (intsOf l) →
    Calls Tryd.prog 62 #[.slice A n c, .int .i64 room, .slice L m cl] w fun e w' => e = .returned (.int .i64 (fRef room g n f l)) ∧ Below w.heap.size w w' := by
  have HS := Lib.hid hs
  have HGG := Lib.hid hg
  have HB := Lib.hid hb
  clear hs hb hg
  intro f
  induction f with
  | zero =>
    intro l L m cl w hlm hmf hu hrt hrl
    obtain rfl : m = n := by omega
    have HM := Lib.hid hlm
    have HRL := Lib.hid hrl
    have HU : Hid (fRef room g m 0 l = fUsed l) := Lib.hid rfl
    clear hlm hmf hrt hrl
    go_enter Tryd.func62, Tryd.ntmps62
    go_wp2_with fail
    go_loopw [7, 15] (fun u i wr => ∃ k : Nat, k ≤ m ∧ i = .int .i64 k ∧ u = .int .i64 (fUsed (l.take k)) ∧ w = wr) (fun _ i _ => m - (intOf i).toNat)
    case atStart => exact ⟨0, by omega, rfl, rfl, rfl⟩
    case round =>
      rename World => wr
      obtain ⟨k, hk, rfl, rfl, rfl⟩ := hrel
      by_cases hlt : k < m
      · have hkl : k < l.length := by rw [HM.out]; exact hlt
        have hil : k < (intsOf l).length := by rw [intsOf, List.length_map]; exact hkl
        obtain ⟨b2, off2, rfl, _, g2⟩ := HRL.out.at1 hil
        have hg : (intsOf l)[k] = ((l[k] : Nat) : Int) := by simp [intsOf]
        rw [hg] at g2
        have HT := Lib.hid (fUsed_take l k hkl)
        obtain ⟨b, hbb⟩ : ∃ b, b = l[k] := ⟨_, rfl⟩
        rw [← hbb] at g2 HT
        obtain ⟨u, huu⟩ : ∃ u, u = fUsed (l.take k) := ⟨_, rfl⟩
        rw [← huu] at HT ⊢
        have hb8 : b < m := by
          have h1 := fUsed_mem (List.getElem_mem hkl)
          rw [← hbb] at h1
          omega
        clear hg hil hbb huu
        by_cases hub : u ≤ b
        · go_wp2_with fail
          go_roundw
          case rel => exact ⟨k + 1, by omega, by go_num, by rw [HT.out, if_pos hub]; go_num, trivial⟩
          case measure => simp [intOf]; omega
        · go_wp2_with fail
          go_roundw
          case rel => exact ⟨k + 1, by omega, by go_num, by rw [HT.out, if_neg hub], trivial⟩
          case measure => simp [intOf]; omega
      · obtain rfl : k = m := by omega
        have hall : l.take k = l := List.take_of_length_le (by rw [HM.out]; omega)
        rw [hall]
        go_wp2_with fail
        go_ret
        exact ⟨ret_i64 HU.out.symm, Below.refl _ _⟩
  | succ f ih =>
    intro l L m cl w hlm hmf hu hrt hrl
    have HIH := Lib.hid ih
    have hmn' : m < n := by omega
    have HM := Lib.hid hlm
    have HRL := Lib.hid hrl
    have HRT := Lib.hid hrt
    have hmn : ((m : Int) == (n : Int)) = false := by simp; omega
    have HU : Hid (fRef room g n (f + 1) l = fBest room g n f l (fUsed l + 1)) := Lib.hid (by rw [fRef_step]; rfl)
    clear ih hlm hrt hrl
    go_enter Tryd.func62, Tryd.ntmps62
    go_wp2_with fail
    go_loopw [7, 15] (fun u i wr => ∃ k : Nat, k ≤ m ∧ i = .int .i64 k ∧ u = .int .i64 (fUsed (l.take k)) ∧ w = wr) (fun _ i _ => m - (intOf i).toNat)
    case atStart => exact ⟨0, by omega, rfl, rfl, rfl⟩
    case round =>
      rename World => wr
      obtain ⟨k, hk, rfl, rfl, rfl⟩ := hrel
      by_cases hlt : k < m
      · have hkl : k < l.length := by rw [HM.out]; exact hlt
        have hil : k < (intsOf l).length := by rw [intsOf, List.length_map]; exact hkl
        obtain ⟨b2, off2, rfl, _, g2⟩ := HRL.out.at1 hil
        have hg : (intsOf l)[k] = ((l[k] : Nat) : Int) := by simp [intsOf]
        rw [hg] at g2
        have HT := Lib.hid (fUsed_take l k hkl)
        obtain ⟨b, hbb⟩ : ∃ b, b = l[k] := ⟨_, rfl⟩
        rw [← hbb] at g2 HT
        obtain ⟨u, huu⟩ : ∃ u, u = fUsed (l.take k) := ⟨_, rfl⟩
        rw [← huu] at HT ⊢
        have hb8 : b < m := by
          have h1 := fUsed_mem (List.getElem_mem hkl)
          rw [← hbb] at h1
          omega
        clear hg hil hbb huu
        by_cases hub : u ≤ b
        · go_wp2_with fail
          go_roundw
          case rel => exact ⟨k + 1, by omega, by go_num, by rw [HT.out, if_pos hub]; go_num, trivial⟩
          case measure => simp [intOf]; omega
        · go_wp2_with fail
          go_roundw
          case rel => exact ⟨k + 1, by omega, by go_num, by rw [HT.out, if_neg hub], trivial⟩
          case measure => simp [intOf]; omega
      · have hall : l.take k = l := List.take_of_length_le (by rw [HM.out]; omega)
        rw [hall]
        obtain ⟨U, hU⟩ : ∃ U, U = fUsed l := ⟨_, rfl⟩
        rw [← hU] at HU hu ⊢
        have HUU := Lib.hid hU
        clear hall hU
        go_wp2_with fail
        clear hlt hk
        go_loopw [10, 11] (fun best b wr => ∃ k : Nat, k ≤ U + 1 ∧ b = .int .i64 k ∧ best = .int .i64 (fBest room g n f l k) ∧ Below w.heap.size w wr) (fun _ b _ => U + 1 - (intOf b).toNat)
        case atStart => exact ⟨0, by omega, rfl, rfl, Below.refl _ _⟩
        case round =>
          rename World => wr
          obtain ⟨q, hq, rfl, rfl, hb⟩ := hrel
          have hz := hb.size
          have HBL := Lib.hid hb
          by_cases hqU : q ≤ U
          · have hml : m < sz.length := by rw [HS.out]; omega
            obtain ⟨b3, off3, rfl, _, g3⟩ := (HRT.out.below (HBL.out.drew)).at1 hml
            rw [← getD_at sz m hml 0] at g3
            have hx := HB.out m
            have hin := inB_bounds (sz := sz) (R := intsOf l) (n := m) (by rw [intsOf, List.length_map]; exact HM.out) (by omega) HB.out (q : Int)
            have hcall := ref_inBoxI sz (intsOf l) (q : Int) (some ⟨b3, off3, none⟩) L n m c cl w.heap.size w.heap.size wr.drew HS.out (by rw [intsOf, List.length_map]; exact HM.out) (by omega) h8 HB.out (HRT.out.below HBL.out.drew) (HRL.out.below HBL.out.drew)
            have HST := Lib.hid (fBest_succ room g n f l q)
            rw [inB_few, ← HGG.out] at hin hcall
            obtain ⟨v, hv⟩ : ∃ v, v = fIn g l q := ⟨_, rfl⟩
            obtain ⟨y, hy⟩ : ∃ y, y = sz.getD m 0 := ⟨_, rfl⟩
            have hy' : y = g l.length := by rw [hy, HM.out, HGG.out]
            rw [← hv] at hin hcall HST
            rw [← hy'] at HST
            rw [← hy] at g3 hx
            have HCALL := Lib.hid hcall
            clear hcall hv hy hy' hml hb
            obtain ⟨bq, hbq⟩ : ∃ bq, bq = fBest room g n f l q := ⟨_, rfl⟩
            rw [← hbq] at HST ⊢
            clear hbq
            have hwv : IntKind.i64.wrap (v + y) = v + y := IntWalk.i64_in _ (by omega)
            by_cases hfit : v + y ≤ room
            · have hd : decide (v + y ≤ room) = true := decide_eq_true hfit
              rw [hd, if_pos rfl] at HST
              clear hd
              go_wp2_with fail
              refine region_plain 99 12 (fun w' => w' = wr.drew) (by kernel_rfl) rfl ?_
              refine anyC_reads (by kernel_rfl) [0, 1, 2, 4, 5, 6, 7, 8, 10] ?opl ?ohl 3 _ _ _ (by kernel_rfl) ?okk
              case ohl => (simp only [List.filterMap_cons, List.filterMap_nil, List.getElem?_toArray, List.getElem?_cons_zero, List.getElem?_cons_succ]; try rfl)
              repeat (
                refine readC_step (v := ?_) rfl (fun w' hw' => ?_) ?_
                rotate_left
                focus (subst hw'; go_simp; try with_reducible rfl)
                go_simp)
              refine readC_nil ?_
              refine anyC_one (i := 3) (by kernel_rfl) rfl rfl (.inr rfl) ?_
              go_simp
              refine HCALL.out.mono ?_
              clear HCALL
              rintro e w' ⟨rfl, rfl⟩
              go_simp
              refine anyC_reads (by kernel_rfl) [9, 11] ?opo ?oho 0 _ _ _ (by kernel_rfl) ?oko
              case oho => (simp only [List.filterMap_cons, List.filterMap_nil, List.getElem?_toArray, List.getElem?_cons_zero, List.getElem?_cons_succ]; try rfl)
              repeat (
                refine readC_step (v := ?_) rfl (fun w' hw' => ?_) ?_
                rotate_left
                focus (subst hw'; go_simp; try with_reducible rfl)
                go_simp)
              refine readC_nil ?_
              refine anyC_end (by kernel_rfl) (.inr rfl) ?_
              obtain ⟨W, hW⟩ : ∃ W, W = wr.drew := ⟨_, rfl⟩
              rw [← hW]
              have hbW : Below w.heap.size w W := by rw [hW]; exact HBL.out.drew
              have hzW := hbW.size
              have HBW := Lib.hid hbW
              have HO0 := Lib.hid (Own.empty W 3 1 icell (fun _ => rfl))
              have HR1 := Lib.hid (HRL.out.below (hbW.alloc hzW (.cells #[] 3)))
              have HLI : Hid ((intsOf l).length = m) := Lib.hid (by rw [intsOf, List.length_map]; exact HM.out)
              clear hbW hW hz
              go_wp2_with (first
                | (at_builtin; go_loud (refine wpList_append_els rfl (.tmp 53) (.tmp 54) _ rfl W.heap.size 1 3 (.int .i64 0) 8 Tryd.underlying31 (by kernel_rfl) rfl (by omega) icell _ (some ⟨W.heap.size, 0, none⟩) 0 0 [] rfl rfl HO0.out _ _ _ (intsOf l) HLI.out rfl w.heap.size HR1.out (one_flat (fun a u hu => by simp at hu; rw [hu]; rfl) _) (by unfold maxLen; omega) (by omega) (by rw [size_alloc']; exact Nat.le_succ _) ?_; intro A2 cap2 w5 hown2 hgrow2 hloc2))
                | (at_builtin; go_loud (refine wpList_push rfl (.tmp 55) (.tmp 57) _ rfl W.heap.size 1 3 (.int .i64 0) 8 Tryd.underlying31 (by kernel_rfl) rfl (by omega) icell w5 #[.int .i64 q] A2 _ cap2 ([] ++ intsOf l) (by simpa using HLI.out) rfl hown2 1 [(q : Int)] rfl rfl _ rfl rfl (by simp [Value.oneCell']) (by unfold maxLen; omega) (by omega) (snoc_size rfl hgrow2) ?_; intro A3 cap3 w6 hown3 hgrow3 hloc3)))
              obtain ⟨b6, o6, z6⟩ := snoc_done rfl hown2 hgrow2 hown3 hgrow3
              have hb6 := HBW.out.trans (b6.mono hzW)
              have HB6 := Lib.hid hb6
              have hz6 := hb6.size
              have he6 : intsOf l ++ [(q : Int)] = intsOf (l ++ [q]) := by simp [intsOf]
              have hels := o6.els
              rw [he6] at hels
              have huq : fUsed (l ++ [q]) ≤ m + 1 := by rw [fUsed_snoc, ← HUU.out]; split <;> omega
              have HCL := Lib.hid (HIH.out (l ++ [q]) A3 (m + 1) cap3 w6 (by rw [List.length_append, HM.out]; rfl) (by omega) huq ((HRT.out.below hb6).more hz6) hels)
              clear hown2 hgrow2 hown3 hgrow3 hloc2 hloc3 b6 o6 hb6 he6 hels huq
              first
                | (refine HCL.out.mono ?_)
                | (rw [show 0 + m + 1 = m + 1 by omega]; refine HCL.out.mono ?_)
              clear HCL
              rintro e w7 ⟨rfl, hb7⟩
              have HB7 := Lib.hid (HB6.out.trans (hb7.mono hz6))
              clear hb7
              obtain ⟨r, hr⟩ : ∃ r, r = fRef room g n f (l ++ [q]) := ⟨_, rfl⟩
              rw [← hr] at HST
              rw [← hr]
              clear hr
              by_cases hlt : r < bq
              · go_wp2_with fail
                go_roundw
                case rel => exact ⟨q + 1, by omega, by go_num, by rw [HST.out, if_pos hlt], HB7.out⟩
                case measure => simp [intOf]; omega
              · go_wp2_with fail
                go_roundw
                case rel => exact ⟨q + 1, by omega, by go_num, by rw [HST.out, if_neg (by omega)], HB7.out⟩
                case measure => simp [intOf]; omega
            · have hd : decide (v + y ≤ room) = false := decide_eq_false hfit
              rw [hd, if_neg (by simp)] at HST
              clear hd
              go_wp2_with fail
              refine region_plain 99 12 (fun w' => w' = wr.drew) (by kernel_rfl) rfl ?_
              refine anyC_reads (by kernel_rfl) [0, 1, 2, 4, 5, 6, 7, 8, 10] ?opl2 ?ohl2 3 _ _ _ (by kernel_rfl) ?okk2
              case ohl2 => (simp only [List.filterMap_cons, List.filterMap_nil, List.getElem?_toArray, List.getElem?_cons_zero, List.getElem?_cons_succ]; try rfl)
              repeat (
                refine readC_step (v := ?_) rfl (fun w' hw' => ?_) ?_
                rotate_left
                focus (subst hw'; go_simp; try with_reducible rfl)
                go_simp)
              refine readC_nil ?_
              refine anyC_one (i := 3) (by kernel_rfl) rfl rfl (.inr rfl) ?_
              go_simp
              refine HCALL.out.mono ?_
              clear HCALL
              rintro e w' ⟨rfl, rfl⟩
              go_simp
              refine anyC_reads (by kernel_rfl) [9, 11] ?opo2 ?oho2 0 _ _ _ (by kernel_rfl) ?oko2
              case oho2 => (simp only [List.filterMap_cons, List.filterMap_nil, List.getElem?_toArray, List.getElem?_cons_zero, List.getElem?_cons_succ]; try rfl)
              repeat (
                refine readC_step (v := ?_) rfl (fun w' hw' => ?_) ?_
                rotate_left
                focus (subst hw'; go_simp; try with_reducible rfl)
                go_simp)
              refine readC_nil ?_
              refine anyC_end (by kernel_rfl) (.inr rfl) ?_
              go_wp2_with fail
              go_roundw
              case rel => exact ⟨q + 1, by omega, by go_num, by rw [HST.out], HBL.out.drew⟩
              case measure => simp [intOf]; omega
          · obtain rfl : q = U + 1 := by omega
            go_wp2_with fail
            go_ret
            exact ⟨ret_i64 HU.out.symm, HBL.out⟩
end Go.Proofs.YtfaifadfilndmaaDoor
