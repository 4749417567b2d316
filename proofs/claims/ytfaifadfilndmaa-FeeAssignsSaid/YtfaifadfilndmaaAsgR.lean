/- Who gets what: the reference's search walked. Conditions: the rows of fees read as lists. -/
import Derived.Test.YtfaifadfilndmaaAsgA
import Derived.Test.YtfaifadfilndmaaOrdS
import Derived.Test.YtfaifadfilndmaaSnoc
import Derived.Test.YtfaifadfilndmaaDiffer
namespace Go.Proofs.Ytfaifadfilndmaa
open Go.RowKit

/-- Rows of numbers that lie below a bound. -/
structure Grid (w : World) (B n : Nat) (A : Option Addr) (ls : List (Sls Int)) : Prop where
  out : Els w B 1 rcell A ls
  row : ∀ s ∈ ls, Els w B 1 icell s.A s.l
  len : ls.length = n
  wide : ∀ s ∈ ls, s.l.length = n
theorem Grid.below {w w' : World} {B n : Nat} {A : Option Addr} {ls : List (Sls Int)} (h : Grid w B n A ls) (hb : Below B w w') : Grid w' B n A ls := ⟨h.out.below hb, fun s hs => (h.row s hs).below hb, h.len, h.wide⟩
theorem Grid.more {w : World} {B B' n : Nat} {A : Option Addr} {ls : List (Sls Int)} (h : Grid w B n A ls) (hB : B ≤ B') : Grid w B' n A ls := ⟨h.out.more hB, fun s hs => (h.row s hs).more hB, h.len, h.wide⟩
def gridF (ls : List (Sls Int)) (i j : Nat) : Int := ((ls.map (·.l)).getD i []).getD j 0
theorem gridF_at {ls : List (Sls Int)} {i j : Nat} (hi : i < ls.length) : gridF ls i j = ls[i].l.getD j 0 := by
  unfold gridF
  show ((ls.map (·.l))[i]?.getD []).getD j 0 = _
  rw [List.getElem?_map, List.getElem?_eq_getElem hi]
  rfl
def rowS (ls : List (Sls Int)) (i : Nat) : Sls Int := ls.getD i ⟨none, 0, []⟩
/-- The same, by name. -/
theorem Grid.cells {w : World} {B n : Nat} {A : Option Addr} {ls : List (Sls Int)} (h : Grid w B n A ls) {i : Nat} (hi : i < n) : ∃ (b off : Nat), A = some ⟨b, off, none⟩ ∧ b < B ∧ w.cell? ⟨b, off + i, none⟩ = some (.slice (rowS ls i).A n (rowS ls i).c) ∧
    ∀ j, j < n → ∃ b2 off2, (rowS ls i).A = some ⟨b2, off2, none⟩ ∧ b2 < B ∧ w.cell? ⟨b2, off2 + j, none⟩ = some (.int .i64 (gridF ls i j)) := by
  have hil : i < ls.length := by rw [h.len]; exact hi
  have hm := List.getElem_mem hil
  have he : rowS ls i = ls[i] := getD_at ls i hil _
  rw [he]
  obtain ⟨b, off, hA, hb, hc⟩ := h.out.at1 hil
  have hw := h.wide _ hm
  have hr := h.row _ hm
  refine ⟨b, off, hA, hb, ?_, fun j hj => ?_⟩
  · rw [hc]; unfold Sls.val; rw [hw]
  · obtain ⟨b2, off2, hA2, hb2, hc2⟩ := hr.at1 (k := j) (by omega)
    refine ⟨b2, off2, hA2, hb2, ?_⟩
    rw [hc2, gridF_at hil, getD_at _ j (by omega) 0]
/-- The cells on the way to a fee. -/
theorem Grid.at_ {w : World} {B n : Nat} {A : Option Addr} {ls : List (Sls Int)} (h : Grid w B n A ls) {i : Nat} (hi : i < n) : ∃ (b off : Nat) (A2 : Option Addr) (c2 : Nat), A = some ⟨b, off, none⟩ ∧ b < B ∧ w.cell? ⟨b, off + i, none⟩ = some (.slice A2 n c2) ∧
    ∀ j, j < n → ∃ b2 off2, A2 = some ⟨b2, off2, none⟩ ∧ b2 < B ∧ w.cell? ⟨b2, off2 + j, none⟩ = some (.int .i64 (gridF ls i j)) := by
  have hil : i < ls.length := by rw [h.len]; exact hi
  have hm := List.getElem_mem hil
  obtain ⟨b, off, hA, hb, hc⟩ := h.out.at1 hil
  have hw := h.wide _ hm
  have hr := h.row _ hm
  refine ⟨b, off, ls[i].A, ls[i].c, hA, hb, ?_, fun j hj => ?_⟩
  · rw [hc]; unfold Sls.val; rw [hw]
  · obtain ⟨b2, off2, hA2, hb2, hc2⟩ := hr.at1 (k := j) (by omega)
    refine ⟨b2, off2, hA2, hb2, ?_⟩
    rw [hc2, gridF_at hil, getD_at _ j (by omega) 0]

set_option maxRecDepth 100000 in
set_option maxHeartbeats 1000000 in
theorem ref_assign (ls : List (Sls Int)) (A : Option Addr) (n c B : Nat) (h8 : n ≤ 8) (hbd : ∀ i j, -1048576 ≤ gridF ls i j ∧ gridF ls i j ≤ 1048576) : ∀ (f : Nat) (l : List Nat) (L : Option Addr) (m cl : Nat) (w : World), l.length = m → m + f = n → PathOk n l → B ≤ w.heap.size → Grid w B n A ls → Own w 0 3 1 icell L cl (intsOf l) →
    Calls Try.prog 27 #[.slice A n c, .slice L m cl] w fun e w' => ∃ (A' : Option Addr) (k cap : Nat), e = .returned (.tuple #[.slice A' k cap, .int .i64 (asgF (gridF ls) n f l).2]) ∧ k = (asgF (gridF ls) n f l).1.length ∧ Below w.heap.size w w' ∧ Own w' 0 3 1 icell A' cap (intsOf (asgF (gridF ls) n f l).1) := by
  have HBD := Lib.hid hbd
  clear hbd
  intro f
  induction f with
  | zero =>
    intro l L m cl w hlm hmf hok hBw hgr hol
    obtain rfl : m = n := by omega
    have HOL := Lib.hid hol
    have HM := Lib.hid hlm
    clear hol hgr hlm
    have hmm : ((m : Int) == (m : Int)) = true := by simp
    go_enter Try.func27, Try.ntmps27
    go_wp2_with fail
    refine bodyPost_ret (v := .tuple #[.slice L m cl, .int .i64 0]) (by simp [results, Try.results27, go_sem]) rfl ?_
    exact ⟨L, m, cl, rfl, HM.out.symm, Below.refl _ _, HOL.out⟩
  | succ f ih =>
    intro l L m cl w hlm hmf hok hBw hgr hol
    obtain ⟨b0, off0, A2, c2, hA, hb0, g0, hcells⟩ := hgr.at_ (i := m) (by omega)
    subst hA
    have HCELL := Lib.hid hcells
    have HIH := Lib.hid ih
    have HM := Lib.hid hlm
    have HOL := Lib.hid hol
    have HOK := Lib.hid hok
    have HGR := Lib.hid hgr
    have hmn' : ((m : Int) == (n : Int)) = false := by simp; omega
    clear ih hlm hol hok hcells hgr g0
    go_enter Try.func27, Try.ntmps27
    go_wp2_with fail
    go_loopw [9, 7, 8] (fun s9 s7 s8 wr => ∃ (k : Nat) (A7 : Option Addr) (q c7 : Nat) (b : List Nat × Int), k ≤ n ∧ s9 = .int .i64 k ∧ s7 = .slice A7 q c7 ∧ s8 = .int .i64 b.2 ∧ q = b.1.length ∧ (List.range k).foldl (asgS (gridF ls l.length) (fun j => l.contains j) (fun j => asgF (gridF ls) n f (l ++ [j]))) ([], farI) = b ∧ Below w.heap.size w wr ∧ Own wr 0 3 1 icell A7 c7 (intsOf b.1)) (fun s9 _ _ _ => n - (intOf s9).toNat)
    case atStart => exact ⟨0, none, 0, 0, ([], farI), by omega, rfl, rfl, rfl, rfl, rfl, Below.refl _ _, Own.nil _ _ _ (fun _ => rfl)⟩
    case round =>
      rename World => wr
      obtain ⟨k, A7, q, c7, b, hk, rfl, rfl, rfl, hq, hfold, hb, ho⟩ := hrel
      have hz := hb.size
      have HB := Lib.hid hb
      have HO := Lib.hid ho
      have HF := Lib.hid hfold
      have HQ := Lib.hid hq
      clear hb ho hq hfold
      by_cases hlt : k < n
      · have HHAS := Lib.hid (Has_any L m cl (intsOf l) (k : Int) wr.heap.size wr (by rw [intsOf, List.length_map]; exact HM.out) (by unfold maxLen; omega) ((HOL.out.els.below HB.out).more hz))
        rw [hasB_intsL] at HHAS
        have hnx : asgS (gridF ls l.length) (fun j => l.contains j) (fun j => asgF (gridF ls) n f (l ++ [j])) b k = if l.contains k then b else if (asgF (gridF ls) n f (l ++ [k])).2 + gridF ls l.length k < b.2 then ((asgF (gridF ls) n f (l ++ [k])).1, (asgF (gridF ls) n f (l ++ [k])).2 + gridF ls l.length k) else b := rfl
        have HNX := Lib.hid hnx
        clear hnx
        rcases bool_orL (l.contains k) with hc | hc
        · have hpk := HOK.out.snoc hlt hc
          have hbk := asg_bound h8 HBD.out f (l ++ [k]) hpk (by rw [List.length_append, List.length_singleton, HM.out]; omega)
          have hfk := HBD.out m k
          have HPK := Lib.hid hpk
          rw [hc, HM.out] at HNX
          rw [hc] at HHAS
          clear hc hpk
          go_wp2_with fail
          refine HHAS.out.mono ?_
          clear HHAS
          rintro e w' ⟨rfl, rfl⟩
          have HO0 := Lib.hid (Own.empty wr 3 1 icell (fun _ => rfl))
          have HR1 := Lib.hid ((HOL.out.els.below HB.out).below ((Below.refl w.heap.size wr).alloc hz (.cells #[] 3)))
          have HLI : Hid ((intsOf l).length = m) := Lib.hid (by rw [intsOf, List.length_map]; exact HM.out)
          go_wp2_with (first
            | (at_builtin; go_loud (refine wpList_append_els rfl (.tmp 30) (.tmp 31) _ rfl wr.heap.size 1 3 (.int .i64 0) 8 Try.underlying23 (by kernel_rfl) rfl (by omega) icell _ (some ⟨wr.heap.size, 0, none⟩) 0 0 [] rfl rfl HO0.out _ _ _ (intsOf l) HLI.out rfl w.heap.size HR1.out (one_flat (fun a u hu => by simp at hu; rw [hu]; rfl) _) (by unfold maxLen; omega) (by omega) (by rw [size_alloc']; exact Nat.le_succ _) ?_; intro A2 cap2 w5 hown2 hgrow2 hloc2))
            | (at_builtin; go_loud (refine wpList_push rfl (.tmp 32) (.tmp 34) _ rfl wr.heap.size 1 3 (.int .i64 0) 8 Try.underlying23 (by kernel_rfl) rfl (by omega) icell w5 #[.int .i64 k] A2 _ cap2 ([] ++ intsOf l) (by simpa using HLI.out) rfl hown2 1 [(k : Int)] rfl rfl _ rfl rfl (by simp [Value.oneCell']) (by unfold maxLen; omega) (by omega) (snoc_size rfl hgrow2) ?_; intro A3 cap3 w6 hown3 hgrow3 hloc3)))
          obtain ⟨b6, o6, z6⟩ := snoc_done rfl hown2 hgrow2 hown3 hgrow3
          have hb6 := HB.out.trans (b6.mono hz)
          have hz6 := hb6.size
          have he6 : intsOf l ++ [(k : Int)] = intsOf (l ++ [k]) := by simp [intsOf]
          rw [he6] at o6
          have HCL := Lib.hid (HIH.out (l ++ [k]) A3 (m + 1) cap3 w6 (by rw [List.length_append, HM.out]; rfl) (by omega) HPK.out (by omega) (HGR.out.below (hb6.mono hBw)) (o6.weaken (Nat.zero_le _)))
          have HB6 := Lib.hid hb6
          have HO6 := Lib.hid (HO.out.below b6 (Nat.le_refl _))
          clear hown2 hgrow2 hown3 hgrow3 hloc2 hloc3 b6 o6 hb6 he6
          first
            | (refine HCL.out.mono ?_)
            | (rw [show 0 + m + 1 = m + 1 by omega]; refine HCL.out.mono ?_)
          clear HCL
          rintro e w7 ⟨A7', k7, c7', rfl, hk7, hb7, ho7⟩
          have hbw7 := HB6.out.trans (hb7.mono hz6)
          have HB7 := Lib.hid hbw7
          have HO7 := Lib.hid (HO6.out.below hb7 (Nat.le_refl _))
          have HX7 := Lib.hid ho7
          have HK7 := Lib.hid hk7
          obtain ⟨b0', off0', A2', c2', hA', hb0', g0, hcells⟩ := (HGR.out.below (hbw7.mono hBw)).at_ (i := m) (by omega)
          injection hA' with hA'
          injection hA' with hA1 hA2
          subst hA1 hA2
          obtain ⟨b2, off2, rfl, _, g1⟩ := hcells k hlt
          obtain ⟨x, hx⟩ : ∃ x, x = gridF ls m k := ⟨_, rfl⟩
          obtain ⟨r, hr⟩ : ∃ r, r = asgF (gridF ls) n f (l ++ [k]) := ⟨_, rfl⟩
          rw [← hx] at g1 HNX hfk
          rw [← hr] at HX7 HK7 HNX hbk ⊢
          obtain ⟨rl, rx⟩ := r
          dsimp only at HX7 HK7 HNX hbk ⊢
          have hws : IntKind.i64.wrap (rx + x) = rx + x := IntWalk.i64_in _ (by omega)
          clear hb7 ho7 hk7 hcells hbw7 hx hr
          by_cases hbt : rx + x < b.2
          · have HST := HNX.out
            rw [if_neg (by simp), if_pos hbt] at HST
            have HST := Lib.hid HST
            clear HNX
            go_wp2_with fail
            go_roundw
            case rel => exact ⟨k + 1, A7', k7, c7', (rl, rx + x), by omega, by go_num, rfl, rfl, HK7.out, by rw [foldR_succ, HF.out, HM.out, HST.out], HB7.out, HX7.out⟩
            case measure => simp [intOf]; omega
          · have HST := HNX.out
            rw [if_neg (by simp), if_neg hbt] at HST
            have HST := Lib.hid HST
            clear HNX
            go_wp2_with fail
            go_roundw
            case rel => exact ⟨k + 1, A7, q, c7, b, by omega, by go_num, rfl, rfl, HQ.out, by rw [foldR_succ, HF.out, HM.out, HST.out], HB7.out, HO7.out⟩
            case measure => simp [intOf]; omega
        · rw [hc] at HHAS HNX
          clear hc
          go_wp2_with fail
          refine HHAS.out.mono ?_
          clear HHAS
          rintro e w' ⟨rfl, rfl⟩
          go_wp2_with fail
          go_roundw
          case rel => exact ⟨k + 1, A7, q, c7, b, by omega, by go_num, rfl, rfl, HQ.out, by rw [foldR_succ, HF.out, HNX.out]; simp, HB.out, HO.out⟩
          case measure => simp [intOf]; omega
      · obtain rfl : k = n := by omega
        have HFF : Hid (asgF (gridF ls) k (f + 1) l = b) := Lib.hid HF.out
        go_wp2_with fail
        refine bodyPost_ret (v := .tuple #[.slice A7 q c7, .int .i64 b.2]) (by simp [results, Try.results27, go_sem]) rfl ?_
        exact ⟨A7, q, c7, by rw [HFF.out], by rw [HFF.out]; exact HQ.out, HB.out, by rw [HFF.out]; exact HO.out⟩

set_option maxRecDepth 100000 in
theorem ref_Assign (ls : List (Sls Int)) (A : Option Addr) (n c : Nat) (h8 : n ≤ 8) (hbd : ∀ i j, -1048576 ≤ gridF ls i j ∧ gridF ls i j ≤ 1048576) (w : World) (hg : Grid w w.heap.size n A ls) :
    Calls Try.prog 10 #[.slice A n c] w fun e w' => ∃ (A' : Option Addr) (k cap : Nat), e = .returned (.tuple #[.slice A' k cap, .int .i64 (asgF (gridF ls) n n []).2]) ∧ k = (asgF (gridF ls) n n []).1.length ∧ Below w.heap.size w w' ∧ Own w' 0 3 1 icell A' cap (intsOf (asgF (gridF ls) n n []).1) := by
  have H := Lib.hid (ref_assign ls A n c w.heap.size h8 hbd n [] none 0 0 w rfl (by omega) ⟨by simp, fun i hi => by cases hi⟩ (Nat.le_refl _) hg (Own.nil w 0 3 (c := 1) (f := icell) (fun _ => rfl)))
  clear hg hbd
  go_enter Try.func10, Try.ntmps10
  go_wp2_with fail
  refine H.out.mono ?_
  clear H
  rintro e w1 ⟨A', k, cap, rfl, hk, hb, ho⟩
  have HB := Lib.hid hb
  have HK := Lib.hid hk
  have HO := Lib.hid ho
  clear hb hk ho
  go_wp2_with fail
  refine bodyPost_ret (v := .tuple #[.slice A' k cap, .int .i64 (asgF (gridF ls) n n []).2]) (by simp [results, Try.results10, go_sem]) rfl ?_
  exact ⟨A', k, cap, rfl, HK.out, HB.out, HO.out⟩
end Go.Proofs.Ytfaifadfilndmaa
