/- The statement ColourGreedy: its law's walk. Conditions: the edges and the order read as lists; the table. -/
import Derived.Test.YtfaifadfilndmaaDoorGreedR
import Derived.Test.YtfaifadfilndmaaDoorEq
import Derived.Test.YtfaifadfilndmaaDoorOpen
namespace Go.Proofs.YtfaifadfilndmaaDoor
open Go.RowKit

set_option maxRecDepth 100000 in
set_option maxHeartbeats 2000000 in
theorem law_ColourGreedy (N : Int) (A : Option Addr) (n c : Nat) (l : List Ed) (O : Option Addr) (ko co : Nat) (o : List Int) (w : World) (htab : TabOk w) (hl : l.length = n) (hn : n ≤ maxLen) (hc : n ≤ c) (hr : Els w w.heap.size 3 Ed.cells A l) (hol : o.length = ko) (hko : ko ≤ maxLen) (hkc : ko ≤ co) (ho : Els w w.heap.size 1 icell O o) :
    Calls Tryd.prog 9 #[.agg #[.int .i64 N, .slice A n c], .slice O ko co] w fun e w' => e = .returned (.bool true) ∧ Below w.heap.size w w' := by
  have h0w : 0 < w.heap.size := Nat.lt_of_le_of_lt (Nat.zero_le _) htab.1
  have hb0 := (Below.refl w.heap.size w).alloc (Nat.le_refl _) (.cells #[.int .i64 N, .slice A n c] 24)
  have hB0 := Blk.new w 24 #[.int .i64 N, .slice A n c]
  have HW := Lib.hid (colour_Greedy N A n c l O ko co o (w.alloc (.cells #[.int .i64 N, .slice A n c] 24)) hl hn ((hr.alloc (Nat.le_refl _) _).more (by rw [size_alloc']; omega)) hol hko ((ho.alloc (Nat.le_refl _) _).more (by rw [size_alloc']; omega)) (htab.below hb0 h0w))
  have HL := Lib.hid hl
  have HR := Lib.hid hr
  have HM := Lib.hid hn
  have HC := Lib.hid hc
  have HOL := Lib.hid hol
  have HO := Lib.hid ho
  have HKC := Lib.hid hkc
  have HKO := Lib.hid hko
  have HB0 := Lib.hid hb0
  have HK0 := Lib.hid hB0
  have c0 := hB0.cell 0
  have c1 := hB0.cell 1
  clear hr hb0 hB0 hl hn hc htab hol ho hkc hko
  go_enter Tryd.func9, Tryd.ntmps9
  go_wp2_with fail
  refine HW.out.mono ?_
  clear HW
  rintro e v1 ⟨A1, k, cap1, er, rfl, hb1, hbad, hgood⟩
  have hk1 := HK0.out.below hb1 (by rw [size_alloc']; omega)
  have hb1' := HB0.out.trans (hb1.mono (by rw [size_alloc']; omega))
  have hz1 := hb1'.size
  have hlt1 := hk1.lt
  have HB1 := Lib.hid hb1'
  have HK1 := Lib.hid hk1
  have HBAD := Lib.hid hbad
  have HGOOD := Lib.hid hgood
  clear c0 c1 hb1 hb1' hbad hgood
  have c0 := hk1.cell 0
  have c1 := hk1.cell 1
  clear hk1
  have HGC := Lib.hid (ref_GraphCheck N A n c l v1 HL.out HM.out HC.out ((HR.out.below HB1.out).more hz1))
  go_wp2_with fail
  refine HGC.out.mono ?_
  clear HGC
  rintro e v2 ⟨rfl, hb2⟩
  have hk2 := HK1.out.below hb2 hlt1
  have hb2' := HB1.out.trans (hb2.mono hz1)
  have hz2 := hb2'.size
  have hz12 := hb2.size
  have HB2 := Lib.hid hb2'
  have HB12 := Lib.hid hb2
  clear c0 c1 hb2 hb2'
  have c0 := hk2.cell 0
  have c1 := hk2.cell 1
  clear hk2
  by_cases h0 : graphCheck N l = 0
  · obtain ⟨m, rfl, hno, hyes⟩ := HGOOD.out h0
    obtain ⟨m', hm', hg⟩ := graph_good h0
    obtain rfl : m = m' := by omega
    have hm10 := hg.n10
    have HE := Lib.hid (ref_Each m O ko co o w.heap.size v2 HOL.out HKO.out HKC.out (HO.out.below HB2.out))
    have HG := Lib.hid hg
    rw [h0]
    clear h0 hm' hg HBAD HGOOD
    by_cases hok : GreedOk m o
    · obtain ⟨rfl, rfl, od, hod, hodn, hodm, hels1⟩ := hyes hok
      have hee : eachG k o = true := decide_eq_true hok
      have hkk : ko = k := by rw [← HOL.out]; exact hok.2
      subst hkk
      have hodl : od.length = ko := by have h := HOL.out; rw [hod, intsOf, List.length_map] at h; exact h
      have HS := Lib.hid (ref_Greedy ko A n c l O co od v2 HL.out HG.out ((HR.out.below HB2.out).more hz2) hodl hodm HKC.out (by rw [← hod]; exact (HO.out.below HB2.out).more hz2))
      have HPE := Lib.hid (prg_end l hodm hodn hodl)
      have HE1 := Lib.hid hels1
      rw [hee] at HE
      clear hno hyes hok hod hodn hodm hels1 hee hodl
      go_wp2_with fail
      refine HE.out.mono ?_
      clear HE
      rintro e w' ⟨rfl, rfl⟩
      go_wp2_with fail
      refine HS.out.mono ?_
      clear HS
      rintro e v3 ⟨A3, rfl, hb3, hels3⟩
      have HB3 := Lib.hid (HB2.out.trans (hb3.mono hz2))
      have HB23 := Lib.hid (hb3.mono hz12)
      have he1 := (HE1.out.below HB12.out).below HB23.out
      rw [HPE.out] at he1
      have HI := Lib.hid (Ints_same A1 A3 ko cap1 ko (refG l ko od ko) v1.heap.size v3.heap.size v3 (refG_length _ _ _ _) (by unfold maxLen; omega) he1 hels3)
      clear hb3 hels3 he1 HE1
      go_wp2_with fail
      refine HI.out.mono ?_
      clear HI
      rintro e v4 ⟨rfl, q, rfl⟩
      go_wp2_with fail
      go_ret
      exact ⟨rfl, below_drewN HB3.out q⟩
    · obtain ⟨rfl, rfl⟩ := hno hok
      have hee : eachG m o = false := decide_eq_false hok
      rw [hee] at HE
      clear hno hyes hok hee
      go_wp2_with fail
      refine HE.out.mono ?_
      clear HE
      rintro e w' ⟨rfl, rfl⟩
      go_wp2_with fail
      go_ret
      exact ⟨rfl, HB2.out⟩
  · obtain ⟨rfl, rfl⟩ := HBAD.out h0
    have h1 : (graphCheck N l != 0) = true := by simpa using h0
    have h3 : (graphCheck N l == 0) = false := by simpa using h0
    have h4 : decide (graphCheck N l = 0) = false := decide_eq_false h0
    have h2 : (graphCheck N l == graphCheck N l) = true := by simp
    clear HBAD HGOOD
    generalize graphCheck N l = x at h0 h1 h2 h3 h4
    clear h0
    go_wp2_with fail
    go_ret
    exact ⟨rfl, HB2.out⟩
theorem ColourGreedy_row (N : Int) (s : Sls (Int × Int × Int)) (t : Sls Int) (w : World) (htab : TabOk w) (_hN : OkI N) (h : s.Good w w.heap.size 3 (fun p => [.int .i64 p.1, .int .i64 p.2.1, .int .i64 p.2.2]) (fun p => OkI p.1 ∧ OkI p.2.1 ∧ OkI p.2.2)) (ht : t.Good w w.heap.size 1 (fun x => [.int .i64 x]) OkI) :
    Calls Tryd.prog 9 #[.agg #[.int .i64 N, s.val], t.val] w fun e w' => e = .returned (.bool true) ∧ Below w.heap.size w w' :=
  law_ColourGreedy N s.A s.l.length s.c (s.l.map Ed.of) t.A t.l.length t.c t.l w htab (by simp) h.1 h.2.1 (h.2.2.1.map_ Ed.of fun _ _ => rfl) rfl ht.1 ht.2.1 ht.2.2.1
end Go.Proofs.YtfaifadfilndmaaDoor
