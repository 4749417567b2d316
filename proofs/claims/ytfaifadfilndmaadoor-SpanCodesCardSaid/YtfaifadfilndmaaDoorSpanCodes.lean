/- The statement SpanCodes: its law's walk. Conditions: the edges read as a list; the table. -/
import Derived.Test.YtfaifadfilndmaaDoorCodeA
import Derived.Test.YtfaifadfilndmaaDoorGraphB
import Derived.Test.YtfaifadfilndmaaDoorEq
import Derived.Test.YtfaifadfilndmaaDoorOpen
namespace Go.Proofs.YtfaifadfilndmaaDoor
open Go.RowKit

set_option maxRecDepth 100000 in
set_option maxHeartbeats 1000000 in
theorem law_SpanCodes (N : Int) (A : Option Addr) (n c : Nat) (l : List Ed) (w : World) (htab : TabOk w) (hl : l.length = n) (hn : n ≤ maxLen) (hc : n ≤ c) (hr : Els w w.heap.size 3 Ed.cells A l) :
    Calls Tryd.prog 5 #[.agg #[.int .i64 N, .slice A n c]] w fun e w' => e = .returned (.bool true) ∧ Below w.heap.size w w' := by
  have h0w : 0 < w.heap.size := Nat.lt_of_le_of_lt (Nat.zero_le _) htab.1
  have hb0 := (Below.refl w.heap.size w).alloc (Nat.le_refl _) (.cells #[.int .i64 N, .slice A n c] 24)
  have hB0 := Blk.new w 24 #[.int .i64 N, .slice A n c]
  have HW := Lib.hid (span_Code N A n c l (w.alloc (.cells #[.int .i64 N, .slice A n c] 24)) hl hn ((hr.alloc (Nat.le_refl _) _).more (by rw [size_alloc']; omega)) (htab.below hb0 h0w))
  have HL := Lib.hid hl
  have HR := Lib.hid hr
  have HM := Lib.hid hn
  have HC := Lib.hid hc
  have HB0 := Lib.hid hb0
  have HK0 := Lib.hid hB0
  have c0 := hB0.cell 0
  have c1 := hB0.cell 1
  clear hr hb0 hB0 hl hn hc htab
  go_enter Tryd.func5, Tryd.ntmps5
  go_wp2_with fail
  refine HW.out.mono ?_
  clear HW
  rintro e v1 ⟨A1, k, cap1, er, rfl, hb1, hbad, hgood⟩
  have hk1 := HK0.out.below hb1 (by rw [size_alloc']; omega)
  have hb1' := HB0.out.trans (hb1.mono (by rw [size_alloc']; omega))
  have hz1 := hb1'.size
  have hlt1 := hk1.lt
  have HB1 := Lib.hid hb1'
  have HK1 := Lib.hid hk1
  have HBAD := Lib.hid hbad
  have HGOOD := Lib.hid hgood
  clear c0 c1 hb1 hb1' hbad hgood
  have c0 := hk1.cell 0
  have c1 := hk1.cell 1
  clear hk1
  have HGC := Lib.hid (ref_GraphCheck N A n c l v1 HL.out HM.out HC.out ((HR.out.below HB1.out).more hz1))
  go_wp2_with fail
  refine HGC.out.mono ?_
  clear HGC
  rintro e v2 ⟨rfl, hb2⟩
  have hk2 := HK1.out.below hb2 hlt1
  have hb2' := HB1.out.trans (hb2.mono hz1)
  have hz2 := hb2'.size
  have hz12 := hb2.size
  have hlt2 := hk2.lt
  have HB2 := Lib.hid hb2'
  have HB12 := Lib.hid hb2
  have HK2 := Lib.hid hk2
  clear c0 c1 hb2 hb2'
  have c0 := hk2.cell 0
  have c1 := hk2.cell 1
  clear hk2
  by_cases h0 : graphCheck N l = 0
  · obtain ⟨m, rfl, hg⟩ := graph_good h0
    obtain ⟨hno, hyes⟩ := HGOOD.out h0 m rfl
    have hm10 := hg.n10
    have HT := Lib.hid (ref_Tree m A n c l v2 HL.out hg ((HR.out.below HB2.out).more hz2))
    have HNO := Lib.hid hno
    have HYES := Lib.hid hyes
    have HG := Lib.hid hg
    have HTB : Hid (treeB m l = true → TreeP m l) := Lib.hid treeB_is
    have HCODE : Hid (∀ v : World, treeB m l = true → Below w.heap.size w v → Calls Tryd.prog 20 #[.agg #[.int .i64 m, .slice A n c]] v fun e w' => ∃ (A1 : Option Addr) (c1 : Nat), e = .returned (.slice A1 (m - 2 : Nat) c1) ∧ Below v.heap.size v w' ∧ Els w' w'.heap.size 1 icell A1 (intsOf (codeF m (m - 2) l))) := Lib.hid (fun v ht hb =>
      ref_Code m A n c l v HL.out HG.out (treeB_is ht) ((HR.out.below hb).more hb.size))
    rw [h0]
    obtain ⟨tb, htb⟩ : ∃ tb, tb = treeB m l := ⟨_, rfl⟩
    rw [← htb] at HT HNO HYES HCODE
    clear h0 hg HBAD HGOOD hno hyes htb
    go_wp2_with fail
    refine HT.out.mono ?_
    clear HT
    rintro e v3 ⟨rfl, hb3⟩
    have HB3 := Lib.hid (HB2.out.trans (hb3.mono hz2))
    have HB13 := Lib.hid (HB12.out.trans (hb3.mono hz12))
    have hz3 := HB3.out.size
    have hz13 := HB13.out.size
    have hk3 := HK2.out.below hb3 hlt2
    clear c0 c1
    have c0 := hk3.cell 0
    have c1 := hk3.cell 1
    clear hb3 hk3
    cases tb with
    | false =>
      obtain ⟨rfl, rfl⟩ := HNO.out rfl
      clear HNO HYES HCODE
      go_wp2_with fail
      go_ret
      exact ⟨rfl, HB3.out⟩
    | true =>
      obtain ⟨rfl, rfl, hels⟩ := HYES.out rfl
      have HE := Lib.hid hels
      have HCC := Lib.hid (HCODE.out v3 rfl HB3.out)
      have HLN := Lib.hid (codeF_len m (m - 2) l)
      obtain ⟨L, hL⟩ : ∃ L, L = codeF m (m - 2) l := ⟨_, rfl⟩
      rw [← hL] at HE HCC HLN
      clear HNO HYES HCODE hels hL
      go_wp2_with fail
      refine HCC.out.mono ?_
      clear HCC
      rintro e v4 ⟨A4, c4, rfl, hb4, hels4⟩
      have HI := Lib.hid (Ints_same A1 A4 (m - 2) cap1 c4 (intsOf L) v1.heap.size v4.heap.size v4 (by rw [intsOf, List.length_map]; exact HLN.out) (by unfold maxLen; omega) ((HE.out.below HB13.out).below (hb4.mono hz13)) hels4)
      have HB4 := Lib.hid (HB3.out.trans (hb4.mono hz3))
      clear hb4 hels4
      go_wp2_with fail
      refine HI.out.mono ?_
      clear HI
      rintro e v5 ⟨rfl, q, rfl⟩
      go_wp2_with fail
      go_ret
      exact ⟨rfl, below_drewN HB4.out q⟩
  · obtain ⟨rfl, rfl⟩ := HBAD.out h0
    have h1 : (graphCheck N l != 0) = true := by simpa using h0
    have h3 : (graphCheck N l == 0) = false := by simpa using h0
    have h2 : (graphCheck N l == graphCheck N l) = true := by simp
    clear HBAD HGOOD
    generalize graphCheck N l = x at h0 h1 h2 h3
    clear h0
    go_wp2_with fail
    go_ret
    exact ⟨rfl, HB2.out⟩
theorem SpanCodes_row (N : Int) (s : Sls (Int × Int × Int)) (w : World) (htab : TabOk w) (_hN : OkI N) (h : s.Good w w.heap.size 3 (fun p => [.int .i64 p.1, .int .i64 p.2.1, .int .i64 p.2.2]) (fun p => OkI p.1 ∧ OkI p.2.1 ∧ OkI p.2.2)) :
    Calls Tryd.prog 5 #[.agg #[.int .i64 N, s.val]] w fun e w' => e = .returned (.bool true) ∧ Below w.heap.size w w' :=
  law_SpanCodes N s.A s.l.length s.c (s.l.map Ed.of) w htab (by simp) h.1 h.2.1 (h.2.2.1.map_ Ed.of fun _ _ => rfl)
end Go.Proofs.YtfaifadfilndmaaDoor
