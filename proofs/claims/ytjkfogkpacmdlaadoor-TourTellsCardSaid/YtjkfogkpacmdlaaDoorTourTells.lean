/- The statement TourTells: its law's walk. Conditions: the edges read as a list; the table. -/
import Derived.Test.YtjkfogkpacmdlaaDoorTourB
import Derived.Test.YtjkfogkpacmdlaaDoorTourD
import Derived.Test.YtjkfogkpacmdlaaDoorGraphB
import Derived.Test.YtjkfogkpacmdlaaDoorEq
import Derived.Test.YtjkfogkpacmdlaaDoorOpen
namespace Go.Proofs.YtjkfogkpacmdlaaDoor
open Go.RowKit Go.Shelf

theorem tourT_nil {N : Nat} {l : List Ed} : tourT N l = [] ↔ ¬ mayT N l (stT N l) (stT N l) := by
  unfold tourT
  by_cases h : mayT N l (stT N l) (stT N l)
  · rw [if_pos h]; exact Iff.intro (fun h => by cases h) (fun k => absurd h k)
  · rw [if_neg h]; exact Iff.intro (fun _ => h) (fun _ => rfl)
set_option maxRecDepth 100000 in
set_option maxHeartbeats 2000000 in
theorem law_TourTells (N : Int) (A : Option Addr) (n c : Nat) (l : List Ed) (w : World) (htab : TabOk w) (hl : l.length = n) (hn : n ≤ maxLen) (hc : n ≤ c) (hr : Els w w.heap.size 3 Ed.cells A l) :
    Calls Tryd.prog 3 #[.agg #[.int .i64 N, .slice A n c]] w fun e w' => e = .returned (.bool true) ∧ Below w.heap.size w w' := by
  have hb0 := (Below.refl w.heap.size w).alloc (Nat.le_refl _) (.cells #[.int .i64 N, .slice A n c] 24)
  have hk0 := Blk.new w 24 #[.int .i64 N, .slice A n c]
  have HC1 : Hid (∀ v, Below w.heap.size w v → ∀ v', Below v.heap.size v v' → Below w.heap.size w v') := Lib.hid fun v hv v' hv' => hv.trans (hv'.mono hv.size)
  have HP : Hid (∀ v, Below w.heap.size w v → Calls Tryd.prog 5 #[.agg #[.int .i64 N, .slice A n c]] v fun e w' => ∃ (A' : Option Addr) (k cap : Nat) (x : Int) (q : List Int), e = .returned (.tuple #[.slice A' k cap, .int .i64 x]) ∧ Below v.heap.size v w' ∧
      (graphCheck N l ≠ 0 → x = graphCheck N l ∧ k = 0) ∧ (graphCheck N l = 0 → q.length = k ∧ TourRes N.toNat l x k q ∧ Els w' w'.heap.size 1 icell A' q)) := Lib.hid fun v hv =>
    tour_Tour N A n c l v hl hn ((hr.below hv).more hv.size) (htab.below hv htab.1)
  have HQ : Hid (∀ v, Below w.heap.size w v → Calls Tryd.prog 6 #[.agg #[.int .i64 N, .slice A n c]] v fun e w' => e = .returned (.int .i64 (graphCheck N l)) ∧ Below v.heap.size v w') := Lib.hid fun v hv =>
    ref_GraphCheck N A n c l v hl hn hc ((hr.below hv).more hv.size)
  have HT : Hid (∀ m : Nat, N = m → 0 < m → GoodG m l → ∀ v, Below w.heap.size w v → Calls Tryd.prog 7 #[.agg #[.int .i64 m, .slice A n c]] v fun e w' => ∃ (A' : Option Addr) (k cap : Nat), e = .returned (.slice A' k cap) ∧ Below v.heap.size v w' ∧ (tourT m l).length = k ∧ Els w' w'.heap.size 1 icell A' (tourT m l)) := Lib.hid fun m _ hm hg v hv =>
    ref_Tour m A n c l v hl hg hm ((hr.below hv).more hv.size)
  have HB0 := Lib.hid hb0
  have HK0 := Lib.hid hk0
  have c0 := hk0.cell 0
  have c1 := hk0.cell 1
  clear hb0 hk0 hl hr htab
  go_enter Tryd.func3, Tryd.ntmps3
  go_wp2_with fail
  refine (HP.out _ HB0.out).mono ?_
  rintro e v1 ⟨A1, k1, cap1, x1, q1, rfl, hb1, hbad, hgood⟩
  have HBAD := Lib.hid hbad
  have HGOOD := Lib.hid hgood
  have HB1 := Lib.hid (HC1.out _ HB0.out _ hb1)
  have hk1 := HK0.out.below hb1 HK0.out.lt
  have HK1 := Lib.hid hk1
  clear c0 c1 hb1 hbad hgood
  have c0 := hk1.cell 0
  have c1 := hk1.cell 1
  clear hk1
  go_wp2_with fail
  refine (HQ.out _ HB1.out).mono ?_
  rintro e v2 ⟨rfl, hb2⟩
  have HB2 := Lib.hid (HC1.out _ HB1.out _ hb2)
  have hk2 := HK1.out.below hb2 HK1.out.lt
  have HK2 := Lib.hid hk2
  have HB12 := Lib.hid hb2
  clear c0 c1 hb2
  have c0 := hk2.cell 0
  have c1 := hk2.cell 1
  clear hk2
  by_cases h0 : graphCheck N l = 0
  · obtain ⟨m, rfl, hg⟩ := graph_good h0
    obtain ⟨hq1, htr, hels⟩ := HGOOD.out h0
    rw [h0]
    by_cases hm0 : m = 0
    · subst hm0
      obtain ⟨rfl, rfl⟩ := htr.1 rfl
      go_wp2_with fail
      go_ret
      exact ⟨rfl, HB2.out⟩
    · have hmp : 0 < m := by omega
      have hm0b : ((m : Int) == 0) = false := by simp; omega
      have HT1 := Lib.hid (HT.out m rfl hmp hg v2 HB2.out)
      have HT2 := Lib.hid (HT.out m rfl hmp hg)
      have HTR := Lib.hid htr
      have HELS := Lib.hid hels
      have h45 := hg.m45
      have hlenT : (tourT m l).length ≤ 46 := by
        unfold tourT
        split
        · rw [List.length_cons, tourR_len]; omega
        · simp
      have hz2 := HB12.out.size
      clear h0 hg htr hels HT hm0
      go_wp2_with fail
      refine HT1.out.mono ?_
      clear HT1
      rintro e v3 ⟨A3, k3, c3, rfl, hb3, hlen3, _⟩
      have HB3 := Lib.hid (HC1.out _ HB2.out _ hb3)
      have HB13 := Lib.hid (HB12.out.trans (hb3.mono hz2))
      have hk3 := HK2.out.below hb3 HK2.out.lt
      clear c0 c1 hb3
      have c0 := hk3.cell 0
      have c1 := hk3.cell 1
      clear hk3
      by_cases hT : tourT m l = []
      · obtain ⟨rfl, rfl⟩ := HTR.out.2.1 hmp (tourT_nil.1 hT)
        obtain rfl : k3 = 0 := by rw [← hlen3, hT]; rfl
        clear hT
        go_wp2_with fail
        go_ret
        exact ⟨rfl, HB3.out⟩
      · have hmay : mayT m l (stT m l) (stT m l) := Classical.byContradiction fun h => hT (tourT_nil.2 h)
        obtain ⟨rfl, rfl⟩ := HTR.out.2.2 hmp hmay
        have hk3 : ((k3 : Int) == 0) = false := by
          have : 0 < k3 := by rw [← hlen3]; exact List.length_pos_iff.2 hT
          simp; omega
        have HT3 := Lib.hid (HT2.out v3 HB3.out)
        have HQ1 := Lib.hid hq1
        clear hT hmay
        go_wp2_with fail
        refine HT3.out.mono ?_
        clear HT3
        rintro e v4 ⟨A4, k4, c4, rfl, hb4, hlen4, hels4⟩
        obtain rfl : k4 = k1 := hlen4.symm.trans HQ1.out
        have HI := Lib.hid (Ints_same A1 A4 k4 cap1 c4 (tourT m l) v1.heap.size v4.heap.size v4 hlen4 (by unfold maxLen; omega) (HELS.out.below (HB13.out.trans (hb4.mono HB13.out.size))) hels4)
        have HB4 := Lib.hid (HC1.out _ HB3.out _ hb4)
        clear hb4 hels4 hlen4 hlen3
        go_wp2_with fail
        refine HI.out.mono ?_
        clear HI
        rintro e v5 ⟨rfl, qn, rfl⟩
        go_wp2_with fail
        go_ret
        exact ⟨rfl, below_drewN HB4.out qn⟩
  · obtain ⟨rfl, rfl⟩ := HBAD.out h0
    have h1 : (graphCheck N l != 0) = true := by simpa using h0
    have h2 : (graphCheck N l == 0) = false := by simpa using h0
    have h3 : (graphCheck N l == graphCheck N l) = true := by simp
    obtain ⟨x, hx⟩ : ∃ x, x = graphCheck N l := ⟨_, rfl⟩
    rw [← hx] at h1 h2 h3 ⊢
    clear h0 hx
    go_wp2_with fail
    go_ret
    exact ⟨rfl, HB2.out⟩
theorem TourTells_row (N : Int) (s : Sls (Int × Int × Int)) (w : World) (htab : TabOk w) (_hN : OkI N) (h : s.Good w w.heap.size 3 (fun p => [.int .i64 p.1, .int .i64 p.2.1, .int .i64 p.2.2]) (fun p => OkI p.1 ∧ OkI p.2.1 ∧ OkI p.2.2)) :
    Calls Tryd.prog 3 #[.agg #[.int .i64 N, s.val]] w fun e w' => e = .returned (.bool true) ∧ Below w.heap.size w w' :=
  law_TourTells N s.A s.l.length s.c (s.l.map Ed.of) w htab (by simp) h.1 h.2.1 (h.2.2.1.map_ Ed.of fun _ _ => rfl)
end Go.Proofs.YtjkfogkpacmdlaaDoor
