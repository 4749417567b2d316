/- The statement SpanMany: its law's walk. Conditions: the edges read as a list; the table. -/
import Derived.Test.YtbbdiondhnmnaaaDoorSpanMany35
import Derived.Test.YtbbdiondhnmnaaaDoorSpanMany41
import Derived.Test.YtbbdiondhnmnaaaDoorSpanMany36
import Derived.Test.YtbbdiondhnmnaaaDoorSpanMany4
namespace Go.Proofs.YtbbdiondhnmnaaaDoor
open Go.RowKit

theorem rP_congr {w : Nat → Nat → Int} {p p' : Nat → Nat} {N : Nat} (h : ∀ j, j < N → p j = p' j) : ∀ k, rP w p N k = rP w p' N k
  | 0 => rfl
  | k + 1 => by
    have hs : sP p N k = sP p' N k := by
      apply Nat.eq_of_testBit_eq
      intro j
      rw [sP_bit, sP_bit]
      by_cases hj : j < N
      · rw [h j hj]
      · rw [decide_eq_false hj, Bool.false_and, Bool.false_and]
    rw [rP, rP, hs, rP_congr h k]
theorem parts_are {N : Nat} {l : List Ed} (hg : GoodG N l) : ∃ p : Nat → Nat, ∀ j, j < N → IsPart l j (p j) := by
  have h : ∀ j, ∃ q, j < N → IsPart l j q := fun j => by
    by_cases hj : j < N
    · obtain ⟨y, hy⟩ := spread_word (nearL N l) (wShl w1 j) (maskW N)
      exact ⟨tz y, fun _ => (part_tz hg hj hy).2⟩
    · exact ⟨0, fun h => absurd h hj⟩
  exact ⟨fun j => (h j).choose, fun j hj => (h j).choose_spec hj⟩
set_option maxRecDepth 100000 in
set_option maxHeartbeats 1000000 in
theorem law_SpanMany (N : Int) (A : Option Addr) (n c : Nat) (l : List Ed) (w : World) (htab : TabOk w) (hl : l.length = n) (hn : n ≤ maxLen) (hc : n ≤ c) (hr : Els w w.heap.size 3 Ed.cells A l) :
    Calls Tryd.prog 3 #[.agg #[.int .i64 N, .slice A n c]] w fun e w' => e = .returned (.bool true) ∧ Below w.heap.size w w' := by
  have h0w : 0 < w.heap.size := Nat.lt_of_le_of_lt (Nat.zero_le _) htab.1
  have hb0 := (Below.refl w.heap.size w).alloc (Nat.le_refl _) (.cells #[.int .i64 N, .slice A n c] 24)
  have hB0 := Blk.new w 24 #[.int .i64 N, .slice A n c]
  have hr1 := (hr.alloc (Nat.le_refl _) (.cells #[.int .i64 N, .slice A n c] 24)).more (show w.heap.size ≤ (w.alloc (.cells #[.int .i64 N, .slice A n c] 24)).heap.size by rw [size_alloc']; omega)
  have HL := Lib.hid hl
  have HR := Lib.hid hr
  have HM := Lib.hid hn
  have HC := Lib.hid hc
  have HB0 := Lib.hid hb0
  have HK0 := Lib.hid hB0
  have c0 := hB0.cell 0
  have c1 := hB0.cell 1
  have HGC := fun v hv => Lib.hid (ref_GraphCheck N A n c l v hl hn hc ((hr.below hv).more (Below.size hv)))
  by_cases h0 : graphCheck N l = 0
  · obtain ⟨m, rfl, hg⟩ := graph_good h0
    obtain ⟨p, hp⟩ := parts_are hg
    have HW := Lib.hid (span_Many_good m n c A l p (w.alloc (.cells #[.int .i64 m, .slice A n c] 24)) hl hg h0 hp hr1 (htab.below hb0 h0w))
    have HRM := fun v hv => Lib.hid (ref_Many m n c A l v hl hg ((hr.below hv).more (Below.size hv)))
    have HP := Lib.hid hp
    obtain ⟨z, hz⟩ : ∃ z, z = rP (wL l) p m m := ⟨_, rfl⟩
    rw [← hz] at HW
    have HZ := Lib.hid hz
    have H0 := Lib.hid h0
    clear hr hb0 hB0 hl hn hc htab hg hp h0 hz hr1
    go_enter Tryd.func3, Tryd.ntmps3
    go_wp2_with fail
    refine HW.out.mono ?_
    clear HW
    rintro e v1 ⟨rfl, hb1⟩
    have hk1 := HK0.out.below hb1 (by rw [size_alloc']; omega)
    have hb1' := HB0.out.trans (hb1.mono (by rw [size_alloc']; omega))
    have HG1 := HGC v1 hb1'
    have hz1 := hb1'.size
    have hlt1 := hk1.lt
    have HB1 := Lib.hid hb1'
    have HK1 := Lib.hid hk1
    clear c0 c1 hb1 hb1' HGC
    have c0 := hk1.cell 0
    have c1 := hk1.cell 1
    clear hk1
    go_wp2_with fail
    refine HG1.out.mono ?_
    clear HG1
    rintro e v2 ⟨rfl, hb2⟩
    have hk2 := HK1.out.below hb2 hlt1
    have hb2' := HB1.out.trans (hb2.mono hz1)
    have HR2 := HRM v2 hb2'
    have hz2 := hb2'.size
    have HB2 := Lib.hid hb2'
    clear c0 c1 hb2 hb2' HRM
    have c0 := hk2.cell 0
    have c1 := hk2.cell 1
    clear hk2
    rw [H0.out]
    go_wp2_with fail
    refine HR2.out.mono ?_
    clear HR2
    rintro e v3 ⟨⟨p', hp', rfl⟩, hb3⟩
    have he : rP (wL l) p' m m = z := by
      rw [HZ.out]
      exact rP_congr (fun j hj => (hp' j hj).same (HP.out j hj)) m
    rw [he]
    have HB3 := Lib.hid (HB2.out.trans (hb3.mono hz2))
    clear hb3 he hp'
    have hzz : (z == z) = true := by simp
    go_wp2_with fail
    go_ret
    exact ⟨rfl, HB3.out⟩
  · have HW := Lib.hid (span_Many_bad N n c A l (w.alloc (.cells #[.int .i64 N, .slice A n c] 24)) hl hn hr1 h0)
    have h1 : (graphCheck N l != 0) = true := by simpa using h0
    generalize graphCheck N l = x at HW HGC h0 h1
    clear hr hb0 hB0 hl hn hc htab h0 hr1
    go_enter Tryd.func3, Tryd.ntmps3
    go_wp2_with fail
    refine HW.out.mono ?_
    clear HW
    rintro e v1 ⟨rfl, hb1⟩
    have hk1 := HK0.out.below hb1 (by rw [size_alloc']; omega)
    have hb1' := HB0.out.trans (hb1.mono (by rw [size_alloc']; omega))
    have HG1 := HGC v1 hb1'
    have hz1 := hb1'.size
    have HB1 := Lib.hid hb1'
    clear c0 c1 hb1 hb1' HGC
    have c0 := hk1.cell 0
    have c1 := hk1.cell 1
    clear hk1
    go_wp2_with fail
    refine HG1.out.mono ?_
    clear HG1
    rintro e v2 ⟨rfl, hb2⟩
    have HB2 := Lib.hid (HB1.out.trans (hb2.mono hz1))
    clear c0 c1 hb2
    have hxx : (x == x) = true := by simp
    go_wp2_with fail
    go_ret
    exact ⟨rfl, HB2.out⟩
theorem SpanMany_row (N : Int) (s : Sls (Int × Int × Int)) (w : World) (htab : TabOk w) (_hN : OkI N) (h : s.Good w w.heap.size 3 (fun p => [.int .i64 p.1, .int .i64 p.2.1, .int .i64 p.2.2]) (fun p => OkI p.1 ∧ OkI p.2.1 ∧ OkI p.2.2)) :
    Calls Tryd.prog 3 #[.agg #[.int .i64 N, s.val]] w fun e w' => e = .returned (.bool true) ∧ Below w.heap.size w w' :=
  law_SpanMany N s.A s.l.length s.c (s.l.map Ed.of) w htab (by simp) h.1 h.2.1 (h.2.2.1.map_ Ed.of fun _ _ => rfl)
end Go.Proofs.YtbbdiondhnmnaaaDoor
