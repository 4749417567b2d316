/- The law PackFewest: both tell the same. Conditions: the sizes read as a list; the table of the bits. -/
import Derived.Test.YtfaifadfilndmaaDoorFewC
import Derived.Test.YtfaifadfilndmaaDoorOpen
namespace Go.Proofs.YtfaifadfilndmaaDoor
open Go.RowKit

set_option maxRecDepth 100000 in
set_option maxHeartbeats 1000000 in
theorem law_PackFewest (sz : List Int) (room : Int) (A : Option Addr) (n c : Nat) (w : World) (hl : sz.length = n) (hn : n ≤ maxLen) (hr : Els w w.heap.size 1 zcell A sz) (htab : TabOk w) :
    Calls Tryd.prog 8 #[.slice A n c, .int .i64 room] w fun e w' => e = .returned (.bool true) ∧ Below w.heap.size w w' := by
  have HF := Lib.hid (pack_Fewest sz room A n c w hl hn hr htab)
  have HL := Lib.hid hl
  have HN := Lib.hid hn
  have HR := Lib.hid hr
  clear hl hr htab
  go_enter Tryd.func8, Tryd.ntmps8
  go_wp2_with fail
  refine HF.out.mono ?_
  clear HF
  rintro e w1 ⟨x, rfl, hb1, hbad, hgood⟩
  have HC := Lib.hid (ref_PackCheck sz room A n c w1 HL.out HN.out ((HR.out.below hb1).more hb1.size))
  have HB1 := Lib.hid hb1
  clear hb1
  by_cases h0 : packCheck sz room = 0
  · obtain ⟨b, hb, rfl⟩ := hgood h0
    obtain ⟨h8, hr1, hr2, hsz⟩ := pack_ok h0
    rw [HL.out] at h8
    have hsame := few_same (by omega) hsz hb
    have HS := Lib.hid hsame
    have HSZ := Lib.hid hsz
    rw [h0] at HC ⊢
    clear hbad hgood hb hsame hsz h0
    go_wp2_with fail
    refine HC.out.mono ?_
    clear HC
    rintro e w2 ⟨rfl, rfl⟩
    have HRF := Lib.hid (ref_Fewest sz A n c room w1 HL.out h8 (fun i => ⟨(HSZ.out i).1, Int.le_trans (HSZ.out i).2 hr2⟩) (by omega) hr2 ((HR.out.below HB1.out).more HB1.out.size))
    rw [HS.out] at HRF
    go_wp2_with fail
    refine HRF.out.mono ?_
    clear HRF
    rintro e w3 ⟨rfl, hb3⟩
    have HB3 := Lib.hid (HB1.out.trans (hb3.mono HB1.out.size))
    clear hb3
    go_wp2_with fail
    go_ret
    exact ⟨rfl, HB3.out⟩
  · obtain rfl := hbad h0
    have h1 : (packCheck sz room == 0) = false := by simpa using h0
    obtain ⟨tc, htc⟩ : ∃ tc, tc = packCheck sz room := ⟨_, rfl⟩
    rw [← htc] at h1 HC ⊢
    clear h0 htc hbad hgood
    go_wp2_with fail
    refine HC.out.mono ?_
    clear HC
    rintro e w2 ⟨rfl, rfl⟩
    go_wp2_with fail
    go_ret
    exact ⟨rfl, HB1.out⟩
theorem PackFewest_row (s : Sls Int) (room : Int) (w : World) (htab : TabOk w) (h : s.Good w w.heap.size 1 (fun n : Int => [.int .i64 n]) OkI) (_ : OkI room) :
    Calls Tryd.prog 8 #[s.val, .int .i64 room] w fun e w' => e = .returned (.bool true) ∧ Below w.heap.size w w' :=
  law_PackFewest s.l room s.A s.l.length s.c w rfl h.1 h.2.2.1 htab
end Go.Proofs.YtfaifadfilndmaaDoor
