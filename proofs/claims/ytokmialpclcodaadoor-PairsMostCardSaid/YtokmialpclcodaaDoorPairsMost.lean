/- The law PairsMost: both tell the same. Conditions: the words read as a list; the table. -/
import Derived.Test.YtokmialpclcodaaDoorMostM
import Derived.Test.YtokmialpclcodaaDoorMostS
import Derived.Test.YtokmialpclcodaaDoorEq
import Derived.Test.YtokmialpclcodaaDoorOpen
namespace Go.Proofs.YtokmialpclcodaaDoor
open Go.RowKit

set_option maxRecDepth 100000 in
set_option maxHeartbeats 1000000 in
theorem law_PairsMost (A : Option Addr) (n c : Nat) (l : List (BitVec 32)) (w : World) (htab : TabOk w) (hl : l.length = n) (hn : n ≤ maxLen) (hc : n ≤ c) (hr : Els w w.heap.size 1 wcell A l) :
    Calls Tryd.prog 3 #[.slice A n c] w fun e w' => e = .returned (.bool true) ∧ Below w.heap.size w w' := by
  have HL := Lib.hid hl
  have HM := Lib.hid hn
  have HK := Lib.hid (pairs_Most l n hl hn A c hc w hr htab)
  have HR := Lib.hid hr
  clear hl hr htab
  go_enter Tryd.func3, Tryd.ntmps3
  go_wp2_with fail
  refine HK.out.mono ?_
  clear HK
  rintro e w1 ⟨A1, k, cap, rfl, hb1, hne, he⟩
  have HB1 := Lib.hid hb1
  have hr1 := HR.out.below hb1
  have hsz := hb1.size
  have HR1 := Lib.hid (hr1.more hsz)
  have HPC := Lib.hid (ref_PairsCheck A n c l w1 HL.out HM.out (hr1.more hsz))
  have HNE := Lib.hid hne
  have HE := Lib.hid he
  clear hb1 hr1 hne he
  by_cases h0 : pairsCheck l = 0
  · obtain ⟨rfl, hels⟩ := HE.out h0
    obtain ⟨h8, hw⟩ := pairs_in h0
    rw [HL.out] at h8
    have HP := Lib.hid (ref_Pairs l k c A w1 HL.out h8 hw HR1.out)
    have HELS := Lib.hid hels
    rw [h0] at HPC ⊢
    clear h0 hels hw
    go_wp2_with fail
    refine HPC.out.mono ?_
    clear HPC
    rintro e w' ⟨rfl, rfl⟩
    go_wp2_with fail
    refine HP.out.mono ?_
    clear HP
    rintro e w2 ⟨A2, cap2, rfl, hb2, hown2⟩
    have HI := Lib.hid (Ints_same A1 A2 k cap cap2 (pairsTo l k).1 _ _ w2 (pairsTo_length l k) HM.out ((HELS.out.below hb2).more hb2.size) hown2.els)
    have HB2 := Lib.hid (HB1.out.trans (hb2.mono hsz))
    clear hb2 hown2
    go_wp2_with fail
    refine HI.out.mono ?_
    clear HI
    rintro e w' ⟨rfl, md, rfl⟩
    go_wp2_with fail
    go_ret
    exact ⟨rfl, below_drewN HB2.out _⟩
  · have h1 : (pairsCheck l != 0) = true := by simpa using h0
    obtain rfl := HNE.out h0
    obtain ⟨x, hx⟩ : ∃ x, x = pairsCheck l := ⟨_, rfl⟩
    rw [← hx] at h1 HPC ⊢
    clear h0 hx HNE HE
    go_wp2_with fail
    refine HPC.out.mono ?_
    clear HPC
    rintro e w' ⟨rfl, rfl⟩
    go_wp2_with fail
    go_ret
    exact ⟨rfl, HB1.out⟩
theorem PairsMost_row (C : Sls Int) (W : World) (htab : TabOk W) (hC : C.Good W W.heap.size 1 (fun n : Int => [.int .u32 n]) OkU) :
    Calls Tryd.prog 3 #[C.val] W fun e w' => e = .returned (.bool true) ∧ Below W.heap.size W w' :=
  law_PairsMost C.A C.l.length C.c (C.l.map wordOf) W htab (by simp) hC.1 hC.2.1 (hC.2.2.1.map_ wordOf fun a ha => by rw [wcell, wN_wordOf (hC.2.2.2 a ha).1 (hC.2.2.2 a ha).2])
end Go.Proofs.YtokmialpclcodaaDoor
