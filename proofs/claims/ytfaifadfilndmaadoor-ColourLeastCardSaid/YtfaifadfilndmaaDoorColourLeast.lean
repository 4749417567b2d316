/- The statement ColourLeast: its law's walk. Conditions: the edges read as a list; the table. -/
import Derived.Test.YtfaifadfilndmaaDoorHueD
import Derived.Test.YtfaifadfilndmaaDoorEq
import Derived.Test.YtfaifadfilndmaaDoorOpen
namespace Go.Proofs.YtfaifadfilndmaaDoor
open Go.RowKit

set_option maxRecDepth 100000 in
set_option maxHeartbeats 2000000 in
theorem ref_Colours (N : Nat) (A : Option Addr) (n c : Nat) (es : List Ed) (w : World) (hl : es.length = n) (hg : GoodG N es) (hr : Els w w.heap.size 3 Ed.cells A es) :
    Calls Tryd.prog 33 #[.agg #[.int .i64 N, .slice A n c]] w fun e w' => ∃ (R : Option Addr) (cr k : Nat) (u : List Nat), e = .returned (.tuple #[.int .i64 k, .slice R u.length cr]) ∧ Below w.heap.size w w' ∧ HueIs es N k u ∧ Els w' w'.heap.size 1 icell R (intsOf u) := by
  have hN := hg.n10
  obtain ⟨S, hS⟩ : ∃ S, S = w.heap.size := ⟨_, rfl⟩
  obtain ⟨W1, hW1⟩ : ∃ W1, W1 = w.alloc (.cells #[.int .i64 N, .slice A n c] 24) := ⟨_, rfl⟩
  have hb1 : Below S w W1 := by rw [hW1, hS]; exact (Below.refl _ w).alloc (Nat.le_refl _) _
  have hk1 : Blk W1 S 24 #[.int .i64 N, .slice A n c] := by rw [hW1, hS]; exact Blk.new w _ _
  rw [← hS] at hr
  have HR := Lib.hid hr
  have HG := Lib.hid hg
  have HL := Lib.hid hl
  have HS := Lib.hid hS
  have HW1 := Lib.hid hW1
  have HB1 := Lib.hid hb1
  have HK1 := Lib.hid hk1
  clear hr hg hl hS hW1 hb1 hk1
  go_enter Tryd.func33, Tryd.ntmps33
  go_wp2_with fail
  rw [← HW1.out, ← HS.out]
  clear HW1
  go_loopw [4] (fun v wr => ∃ k : Nat, k ≤ N ∧ v = .int .i64 k ∧ Below S w wr ∧ Blk wr S 24 #[.int .i64 N, .slice A n c] ∧ (∀ j, j < k → paintF es j N [] = none)) (fun v _ => N + 1 - (intOf v).toNat)
  case atStart => exact ⟨0, by omega, rfl, HB1.out, HK1.out, fun j hj => by omega⟩
  case round =>
    clear HB1 HK1
    rename World => wr
    obtain ⟨k, hk, rfl, hb, hkb, hno⟩ := hrel
    have hz : S ≤ wr.heap.size := by have := hb.size; rw [← HS.out] at this; exact this
    have HC := Lib.hid (ref_paint N A n c es k (by omega) HL.out HG.out N [] none 0 0 wr rfl (by omega) ((HR.out.below hb).more hz) Els.nil)
    have d0 := hkb.cell 0
    have d1 := hkb.cell 1
    have hSlt := hkb.lt
    have HB := Lib.hid hb
    have HK := Lib.hid hkb
    have HNO := Lib.hid hno
    clear hb hkb hno
    go_wp2_with fail
    refine HC.out.mono ?_
    clear HC
    rintro e w2 ⟨R, kk, cr, b, rfl, hb2, hres⟩
    have HB2 := Lib.hid (HB.out.trans (hb2.mono hz))
    have HK2 := Lib.hid (HK.out.below hb2 hSlt)
    clear hb2 d0 d1
    cases hrow : paintF es k N [] with
    | none =>
      rw [hrow] at hres
      have hbf : b = false := hres
      subst hbf
      have hno2 : ∀ j, j < k + 1 → paintF es j N [] = none := fun j hj => by
        by_cases hjk : j = k
        · rw [hjk]; exact hrow
        · exact HNO.out j (by omega)
      have hk1 := hue_none hno2
      have HNO2 := Lib.hid hno2
      clear hrow hres hno2
      go_wp2_with fail
      go_roundw
      case rel => exact ⟨k + 1, hk1, by go_num, HB2.out, HK2.out, HNO2.out⟩
      case measure => simp [intOf]; omega
    | some u =>
      rw [hrow] at hres
      obtain ⟨rfl, rfl, he⟩ := hres
      have HE := Lib.hid he
      have HROW := Lib.hid hrow
      clear hrow he
      go_wp2_with fail
      refine bodyPost_ret (v := .tuple #[.int .i64 k, .slice R u.length cr]) (by simp [results, Tryd.results33, go_sem]) rfl ?_
      exact ⟨R, cr, k, u, rfl, by rw [← HS.out]; exact HB2.out, ⟨HNO.out, HROW.out⟩, HE.out⟩

set_option maxRecDepth 100000 in
set_option maxHeartbeats 2000000 in
theorem colour_Least (N : Int) (A : Option Addr) (n c : Nat) (l : List Ed) (w : World) (hl : l.length = n) (hn : n ≤ maxLen) (hr : Els w w.heap.size 3 Ed.cells A l) (htab : TabOk w) :
    Calls Tryd.prog 32 #[.agg #[.int .i64 N, .slice A n c]] w fun e w' => ∃ (R : Option Addr) (kk m cap : Nat) (er : Int), e = .returned (.tuple #[.int .i64 kk, .slice R m cap, .int .i64 er]) ∧ Below w.heap.size w w' ∧
      (graphCheck N l ≠ 0 → er = graphCheck N l ∧ kk = 0 ∧ m = 0) ∧ (graphCheck N l = 0 → ∃ (q : Nat) (u : List Nat), N = q ∧ HueIs l q kk u ∧ er = 0 ∧ m = u.length ∧ u.length = q ∧ Els w' w'.heap.size 1 icell R (intsOf u)) := by
  have h0w : 0 < w.heap.size := Nat.lt_of_le_of_lt (Nat.zero_le _) htab.1
  have hb0 := (Below.refl w.heap.size w).alloc (Nat.le_refl _) (.cells #[.int .i64 N, .slice A n c] 24)
  have hB0 := Blk.new w 24 #[.int .i64 N, .slice A n c]
  have HW := Lib.hid (graph_Check N A n c l (w.alloc (.cells #[.int .i64 N, .slice A n c] 24)) hl hn ((hr.alloc (Nat.le_refl _) _).more (by rw [size_alloc']; omega)))
  have HL := Lib.hid hl
  have HR := Lib.hid hr
  have HT := Lib.hid htab
  have HB0 := Lib.hid hb0
  have HK0 := Lib.hid hB0
  have c0 := hB0.cell 0
  have c1 := hB0.cell 1
  clear hr hb0 hB0 hl htab
  go_enter Tryd.func32, Tryd.ntmps32
  go_wp2_with fail
  refine HW.out.mono ?_
  clear HW
  rintro e v1 ⟨rfl, hb1⟩
  have hk1 := HK0.out.below hb1 (by rw [size_alloc']; omega)
  have hb1' := HB0.out.trans (hb1.mono (by rw [size_alloc']; omega))
  have hz1 := hb1'.size
  have HB1 := Lib.hid hb1'
  have HK1 := Lib.hid hk1
  clear c0 c1 hb1 hb1' hk1
  by_cases h0 : graphCheck N l = 0
  · obtain ⟨m, rfl, hg⟩ := graph_good h0
    have HZ := Lib.hid h0
    have HG := Lib.hid hg
    have hm := hg.n10
    obtain ⟨S, hS⟩ : ∃ S, S = w.heap.size := ⟨_, rfl⟩
    have HS := Lib.hid hS
    rw [← hS] at hz1 h0w ⊢
    have HB1' : Hid (Below S w v1) := by rw [hS]; exact HB1
    have HK1' : Hid (Blk v1 S 24 #[.int .i64 m, .slice A n c]) := by rw [hS]; exact HK1
    have HR' : Hid (Els w S 3 Ed.cells A l) := by rw [hS]; exact HR
    rw [h0]
    clear h0 hg hS HB1 HK1 HR HB0 HK0
    go_wp2_with fail
    go_loopw [6] (fun v wr => ∃ k : Nat, k ≤ m ∧ v = .int .i64 k ∧ Below S w wr ∧ Blk wr S 24 #[.int .i64 m, .slice A n c] ∧ (∀ j, j < k → paintF l j m [] = none)) (fun v _ => m + 1 - (intOf v).toNat)
    case atStart => exact ⟨0, by omega, rfl, HB1'.out, HK1'.out, fun j hj => by omega⟩
    case round =>
      clear HB1' HK1'
      rename World => wr
      obtain ⟨k, hk, rfl, hb, hkb, hno⟩ := hrel
      have hz : S ≤ wr.heap.size := by have := hb.size; rw [← HS.out] at this; exact this
      have HF := Lib.hid (col_fresh m A n c l wr HL.out HG.out ((HR'.out.below hb).more hz))
      have d0 := hkb.cell 0
      have d1 := hkb.cell 1
      have hSlt := hkb.lt
      have HB := Lib.hid hb
      have HK := Lib.hid hkb
      have HNO := Lib.hid hno
      clear hb hkb hno
      go_wp2_with fail
      refine HF.out.mono ?_
      clear HF
      rintro e w2 ⟨Q, g, B, A1, rfl, hb2, hwB, hBQ, hq2, hn2, ho2⟩
      have hb2' := HB.out.trans (hb2.mono hz)
      have hk2 := HK.out.below hb2 hSlt
      have htb2 : TabOk w2 := HT.out.below hb2' h0w
      have HCP := Lib.hid (col_paint m l HG.out A1 m m B Q g k (by omega) (by omega) hBQ m [] 0 w2 rfl (by omega) hn2 hq2 (by rw [hueL_nil]; exact ho2) htb2)
      have hSg : S ≤ g := Nat.le_trans (Nat.le_trans hz hwB) (own_lt ho2).1
      have hgQ : g ≠ Q := own_blk_ne ho2 hq2 (by decide)
      have hSB : S < B := Nat.lt_of_lt_of_le hSlt hwB
      have hQS : S ≠ Q := by omega
      have hSg2 : S ≠ g := by have := (own_lt ho2).1; omega
      have HB2 := Lib.hid hb2'
      have HK2 := Lib.hid hk2
      have HQ2 := Lib.hid hq2
      clear hb2 hb2' hk2 hn2 ho2 htb2 hq2 d0 d1
      go_wp2_with fail
      refine HCP.out.mono ?_
      clear HCP
      rintro e w3 ⟨hh3, hres⟩
      have HB3 : Hid (Below S w w3) := Lib.hid (HB2.out.trans (hh3.to (B := S) (by have := HB2.out.size; rw [← HS.out] at this; exact this) (by simp; omega)))
      have hq3 := HQ2.out.held hh3 (by simp; omega)
      have HK3 := Lib.hid (HK2.out.held hh3 (by simp; omega))
      have x1 := hq3.cell 1
      clear hh3 hq3
      cases hrow : paintF l k m [] with
      | none =>
        rw [hrow] at hres
        obtain ⟨rfl, _⟩ := hres
        have hno2 : ∀ j, j < k + 1 → paintF l j m [] = none := fun j hj => by
          by_cases hjk : j = k
          · rw [hjk]; exact hrow
          · exact HNO.out j (by omega)
        have hk1 := hue_none hno2
        have HNO2 := Lib.hid hno2
        clear hrow hno2
        go_wp2_with fail
        go_roundw
        case rel => exact ⟨k + 1, hk1, by go_num, HB3.out, HK3.out, HNO2.out⟩
        case measure => simp [intOf]; omega
      | some u =>
        rw [hrow] at hres
        obtain ⟨rfl, ho3⟩ := hres
        have hul := paintF_length _ _ _ _ _ hrow
        rw [List.length_nil, Nat.zero_add] at hul
        have HE := Lib.hid ho3.els
        have HROW := Lib.hid hrow
        have HUL := Lib.hid hul
        clear hrow ho3 hul
        go_wp2_with fail
        go_quiet (fail)
        go_wp2_with fail
        refine bodyPost_ret (v := .tuple #[.int .i64 k, .slice (some ⟨g, 0, none⟩) m m, .int .i64 0]) (by simp [results, Tryd.results32, go_sem]) rfl ?_
        exact ⟨some ⟨g, 0, none⟩, k, m, m, 0, rfl, by rw [← HS.out]; exact below_drewN HB3.out _, fun h => absurd HZ.out h, fun _ => ⟨m, u, rfl, ⟨HNO.out, HROW.out⟩, rfl, HUL.out.symm, HUL.out, HE.out⟩⟩
  · have h1 : (graphCheck N l != 0) = true := by simpa using h0
    have H0 := Lib.hid h0
    obtain ⟨x, hx⟩ : ∃ x, x = graphCheck N l := ⟨_, rfl⟩
    rw [← hx] at h1 ⊢
    have HX := Lib.hid hx
    clear h0 hx
    go_wp2_with fail
    refine bodyPost_ret (v := .tuple #[.int .i64 0, .slice none 0 0, .int .i64 x]) (by simp [results, Tryd.results32, go_sem]) rfl ?_
    exact ⟨none, 0, 0, 0, x, rfl, HB1.out, fun _ => ⟨HX.out, rfl, rfl⟩, fun h => absurd h H0.out⟩

set_option maxRecDepth 100000 in
set_option maxHeartbeats 1000000 in
theorem law_ColourLeast (N : Int) (A : Option Addr) (n c : Nat) (l : List Ed) (w : World) (htab : TabOk w) (hl : l.length = n) (hn : n ≤ maxLen) (hc : n ≤ c) (hr : Els w w.heap.size 3 Ed.cells A l) :
    Calls Tryd.prog 10 #[.agg #[.int .i64 N, .slice A n c]] w fun e w' => e = .returned (.bool true) ∧ Below w.heap.size w w' := by
  have h0w : 0 < w.heap.size := Nat.lt_of_le_of_lt (Nat.zero_le _) htab.1
  have hb0 := (Below.refl w.heap.size w).alloc (Nat.le_refl _) (.cells #[.int .i64 N, .slice A n c] 24)
  have hB0 := Blk.new w 24 #[.int .i64 N, .slice A n c]
  have HW := Lib.hid (colour_Least N A n c l (w.alloc (.cells #[.int .i64 N, .slice A n c] 24)) hl hn ((hr.alloc (Nat.le_refl _) _).more (by rw [size_alloc']; omega)) (htab.below hb0 h0w))
  have HL := Lib.hid hl
  have HR := Lib.hid hr
  have HM := Lib.hid hn
  have HC := Lib.hid hc
  have HB0 := Lib.hid hb0
  have HK0 := Lib.hid hB0
  have c0 := hB0.cell 0
  have c1 := hB0.cell 1
  clear hr hb0 hB0 hl hn hc htab
  go_enter Tryd.func10, Tryd.ntmps10
  go_wp2_with fail
  refine HW.out.mono ?_
  clear HW
  rintro e v1 ⟨A1, kk, k, cap1, er, rfl, hb1, hbad, hgood⟩
  have hk1 := HK0.out.below hb1 (by rw [size_alloc']; omega)
  have hb1' := HB0.out.trans (hb1.mono (by rw [size_alloc']; omega))
  have hz1 := hb1'.size
  have hlt1 := hk1.lt
  have HB1 := Lib.hid hb1'
  have HK1 := Lib.hid hk1
  have HBAD := Lib.hid hbad
  have HGOOD := Lib.hid hgood
  clear c0 c1 hb1 hb1' hbad hgood
  have c0 := hk1.cell 0
  have c1 := hk1.cell 1
  clear hk1
  have HGC := Lib.hid (ref_GraphCheck N A n c l v1 HL.out HM.out HC.out ((HR.out.below HB1.out).more hz1))
  go_wp2_with fail
  refine HGC.out.mono ?_
  clear HGC
  rintro e v2 ⟨rfl, hb2⟩
  have hk2 := HK1.out.below hb2 hlt1
  have hb2' := HB1.out.trans (hb2.mono hz1)
  have hz2 := hb2'.size
  have hz12 := hb2.size
  have HB2 := Lib.hid hb2'
  have HB12 := Lib.hid hb2
  clear c0 c1 hb2 hb2'
  have c0 := hk2.cell 0
  have c1 := hk2.cell 1
  clear hk2
  by_cases h0 : graphCheck N l = 0
  · obtain ⟨m, u, rfl, hhue, rfl, rfl, hum, hels1⟩ := HGOOD.out h0
    obtain ⟨m', hm', hg⟩ := graph_good h0
    obtain rfl : m = m' := by omega
    have hm10 := hg.n10
    have HS := Lib.hid (ref_Colours m A n c l v2 HL.out hg ((HR.out.below HB2.out).more hz2))
    have HHUE := Lib.hid hhue
    have HE1 := Lib.hid hels1
    rw [h0]
    have HUM := Lib.hid hum
    clear h0 hm' hg HBAD HGOOD hhue hels1 hum
    go_wp2_with fail
    refine HS.out.mono ?_
    clear HS
    rintro e v3 ⟨A3, c3, k3, u3, rfl, hb3, hhue3, hels3⟩
    obtain ⟨rfl, rfl⟩ := HueIs.same hhue3 HHUE.out
    have HB3 := Lib.hid (HB2.out.trans (hb3.mono hz2))
    have HB23 := Lib.hid (hb3.mono hz12)
    have HI := Lib.hid (Ints_same A1 A3 u3.length cap1 c3 (intsOf u3) v1.heap.size v3.heap.size v3 (by rw [intsOf, List.length_map]) (by unfold maxLen; have := HUM.out; omega) ((HE1.out.below HB12.out).below HB23.out) hels3)
    clear hb3 hhue3 hels3 HHUE HE1
    go_wp2_with fail
    refine HI.out.mono ?_
    clear HI
    rintro e v4 ⟨rfl, q, rfl⟩
    go_wp2_with fail
    go_ret
    exact ⟨rfl, below_drewN HB3.out q⟩
  · obtain ⟨rfl, rfl, rfl⟩ := HBAD.out h0
    have h1 : (graphCheck N l != 0) = true := by simpa using h0
    have h2 : (graphCheck N l == graphCheck N l) = true := by simp
    clear HBAD HGOOD
    generalize graphCheck N l = x at h0 h1 h2
    clear h0
    go_wp2_with fail
    go_ret
    exact ⟨rfl, HB2.out⟩
theorem ColourLeast_row (N : Int) (s : Sls (Int × Int × Int)) (w : World) (htab : TabOk w) (_hN : OkI N) (h : s.Good w w.heap.size 3 (fun p => [.int .i64 p.1, .int .i64 p.2.1, .int .i64 p.2.2]) (fun p => OkI p.1 ∧ OkI p.2.1 ∧ OkI p.2.2)) :
    Calls Tryd.prog 10 #[.agg #[.int .i64 N, s.val]] w fun e w' => e = .returned (.bool true) ∧ Below w.heap.size w w' :=
  law_ColourLeast N s.A s.l.length s.c (s.l.map Ed.of) w htab (by simp) h.1 h.2.1 (h.2.2.1.map_ Ed.of fun _ _ => rfl)
end Go.Proofs.YtfaifadfilndmaaDoor
