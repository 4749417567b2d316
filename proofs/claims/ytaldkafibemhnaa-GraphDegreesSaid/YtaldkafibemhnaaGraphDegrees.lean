/- How many edges each node has: the program's walk, the statement's walk. Conditions: the edges read as a list. -/
import Derived.Test.YtaldkafibemhnaaNear
import Derived.Test.YtaldkafibemhnaaGraphB
import Derived.Test.YtaldkafibemhnaaEq
import Derived.Test.YtaldkafibemhnaaOpen
namespace Go.Proofs.Ytaldkafibemhnaa
open Go.RowKit

def degL (N : Nat) (l : List Ed) : List Int := (List.range N).map fun i : Nat => (deg l i : Int)
theorem degL_length (N : Nat) (l : List Ed) : (degL N l).length = N := by simp [degL]
theorem degL_succ (N : Nat) (l : List Ed) : degL (N + 1) l = degL N l ++ [(deg l N : Int)] := map_range_succ _ _

set_option maxRecDepth 100000 in
set_option maxHeartbeats 1000000 in
theorem graph_Degrees (N : Int) (A : Option Addr) (n c : Nat) (l : List Ed) (w : World) (hl : l.length = n) (hn : n ≤ maxLen) (hr : Els w w.heap.size 3 Ed.cells A l) :
    Calls Try.prog 34 #[.agg #[.int .i64 N, .slice A n c]] w fun e w' => ∃ A' k cap, e = .returned (.tuple #[.slice A' k cap, .int .i64 (graphCheck N l)]) ∧ Below w.heap.size w w' ∧
      (graphCheck N l ≠ 0 → k = 0) ∧ (graphCheck N l = 0 → ∃ m : Nat, N = m ∧ k = m ∧ Els w' w'.heap.size 1 icell A' (degL m l)) := by
  have hb0 := (Below.refl w.heap.size w).alloc (Nat.le_refl _) (.cells #[.int .i64 N, .slice A n c] 30)
  have hB0 := Blk.new w 30 #[.int .i64 N, .slice A n c]
  have HW := Lib.hid (graph_Check N A n c l (w.alloc (.cells #[.int .i64 N, .slice A n c] 30)) hl hn ((hr.alloc (Nat.le_refl _) _).more (by rw [size_alloc']; omega)))
  have HL := Lib.hid hl
  have HR := Lib.hid hr
  have HB0 := Lib.hid hb0
  have HK0 := Lib.hid hB0
  have c0 := hB0.cell 0
  have c1 := hB0.cell 1
  clear hr hb0 hB0 hl
  go_enter Try.func34, Try.ntmps34
  go_wp2_with fail
  refine HW.out.mono ?_
  clear HW
  rintro e v1 ⟨rfl, hb1⟩
  have hk1 := HK0.out.below hb1 (by rw [size_alloc']; omega)
  have hb1' := HB0.out.trans (hb1.mono (by rw [size_alloc']; omega))
  have hz1 := hb1'.size
  have hlt1 := hk1.lt
  have HB1 := Lib.hid hb1'
  have HK1 := Lib.hid hk1
  clear c0 c1 hb1 hb1'
  have c0 := hk1.cell 0
  have c1 := hk1.cell 1
  clear hk1
  by_cases h0 : graphCheck N l = 0
  · obtain ⟨m, rfl, hg⟩ := graph_good h0
    have HZ := Lib.hid h0
    have HG := Lib.hid hg
    have hm := hg.n10
    have HN := Lib.hid (graph_Near m A n c l v1 HL.out hg ((HR.out.below HB1.out).more hz1))
    rw [h0]
    clear h0 hg
    go_wp2_with fail
    refine HN.out.mono ?_
    clear HN
    rintro e v2 ⟨A1, rfl, hb2, hown2⟩
    have hb2' := HB1.out.trans (hb2.mono hz1)
    have hz2 := hb2'.size
    have HB2 := Lib.hid hb2'
    have HE2 := Lib.hid hown2.els
    clear hb2 hb2' hown2 c0 c1 HK1
    go_wp2_with fail
    go_loopw [16, 5] (fun i s wr => ∃ (k : Nat) (A2 : Option Addr) (cap : Nat), k ≤ m ∧ i = .int .i64 k ∧ s = .slice A2 k cap ∧ Below v2.heap.size v2 wr ∧ Own wr v2.heap.size 3 1 icell A2 cap (degL k l)) (fun i _ _ => m - (intOf i).toNat)
    case atStart => exact ⟨0, none, 0, by omega, rfl, rfl, Below.refl _ _, Own.nil _ _ _ (fun _ => rfl)⟩
    case round =>
      obtain ⟨k, A2, cap, hk, rfl, rfl, hb, hown⟩ := hrel
      have hs4 := hb.size
      have HO := Lib.hid hown
      have HB := Lib.hid hb
      clear hown hb
      by_cases hlt : k < m
      · obtain ⟨b, off, rfl, _, g0⟩ := (HE2.out.below HB.out).at1 (k := k) (by rw [nearL_length]; exact hlt)
        rw [← lw_at _ k (by rw [nearL_length]; exact hlt)] at g0
        have hpop := pop_near HG.out hlt
        have hdl := deg_le l k
        have h45 := HG.out.m45
        generalize lw (nearL m l) k = x at g0 hpop
        obtain ⟨d, hd⟩ : ∃ d, d = deg l k := ⟨_, rfl⟩
        rw [← hd] at hpop hdl
        have HP := Lib.hid hpop
        have HD := Lib.hid hd
        clear hpop hd
        go_wp2_with fail
        refine (OnesCount32_any _ _).mono ?_
        rintro e w' ⟨rfl, q, rfl⟩
        rw [HP.out]
        go_wp2_with (at_builtin; go_loud (refine wpList_push rfl _ _ _ rfl v2.heap.size 1 3 (.int .i64 0) 8 Try.underlying44 (by kernel_rfl) rfl (by omega) icell (wr.drewN q) #[.int .i64 d] A2 k cap (degL k l) (degL_length k l) rfl (HO.out.drewN q) 1 [(d : Int)] rfl rfl _ rfl rfl (by simp [Value.oneCell']) (by unfold maxLen; omega) (by omega) hs4 ?_; intro A3 cap3 w4 hown3 hgrow hloc))
        go_roundw
        case rel => exact ⟨k + 1, A3, cap3, by omega, by go_num, rfl, ((below_drewN HB.out q).alloc hs4 _).grown hgrow (by rw [size_alloc']; exact Nat.le_succ_of_le hs4) (fun g hg => (HO.out.lt g hg).1), by rw [degL_succ, ← HD.out]; exact hown3⟩
        case measure => simp [intOf]; omega
      · obtain rfl : k = m := by omega
        go_wp2_with fail
        refine bodyPost_ret (v := .tuple #[.slice A2 k cap, .int .i64 0]) (by simp [results, Try.results34, go_sem]) rfl ?_
        exact ⟨A2, k, cap, by rw [HZ.out], HB2.out.trans (HB.out.mono hz2), fun h => absurd HZ.out h, fun _ => ⟨k, rfl, rfl, HO.out.els⟩⟩
  · have h1 : (graphCheck N l != 0) = true := by simpa using h0
    have H0 := Lib.hid h0
    obtain ⟨x, hx⟩ : ∃ x, x = graphCheck N l := ⟨_, rfl⟩
    rw [← hx] at h1 ⊢
    have HX := Lib.hid hx
    clear h0 hx
    go_wp2_with fail
    refine bodyPost_ret (v := .tuple #[.slice none 0 0, .int .i64 x]) (by simp [results, Try.results34, go_sem]) rfl ?_
    exact ⟨none, 0, 0, by rw [HX.out], HB1.out, fun _ => rfl, fun h => absurd h H0.out⟩

set_option maxRecDepth 100000 in
set_option maxHeartbeats 1000000 in
theorem law_GraphDegrees (N : Int) (A : Option Addr) (n c : Nat) (l : List Ed) (w : World) (hl : l.length = n) (hn : n ≤ maxLen) (hc : n ≤ c) (hr : Els w w.heap.size 3 Ed.cells A l) :
    Calls Try.prog 11 #[.agg #[.int .i64 N, .slice A n c]] w fun e w' => e = .returned (.bool true) ∧ Below w.heap.size w w' := by
  have hb0 := (Below.refl w.heap.size w).alloc (Nat.le_refl _) (.cells #[.int .i64 N, .slice A n c] 30)
  have hB0 := Blk.new w 30 #[.int .i64 N, .slice A n c]
  have HW := Lib.hid (graph_Degrees N A n c l (w.alloc (.cells #[.int .i64 N, .slice A n c] 30)) hl hn ((hr.alloc (Nat.le_refl _) _).more (by rw [size_alloc']; omega)))
  have HL := Lib.hid hl
  have HR := Lib.hid hr
  have HM := Lib.hid hn
  have HC := Lib.hid hc
  have HB0 := Lib.hid hb0
  have HK0 := Lib.hid hB0
  have c0 := hB0.cell 0
  have c1 := hB0.cell 1
  clear hr hb0 hB0 hl hn hc
  go_enter Try.func11, Try.ntmps11
  go_wp2_with fail
  refine HW.out.mono ?_
  clear HW
  rintro e v1 ⟨A1, k, cap1, rfl, hb1, hbad, hgood⟩
  have hk1 := HK0.out.below hb1 (by rw [size_alloc']; omega)
  have hb1' := HB0.out.trans (hb1.mono (by rw [size_alloc']; omega))
  have hz1 := hb1'.size
  have hlt1 := hk1.lt
  have HB1 := Lib.hid hb1'
  have HK1 := Lib.hid hk1
  have HBAD := Lib.hid hbad
  have HGOOD := Lib.hid hgood
  clear c0 c1 hb1 hb1' hbad hgood
  have c0 := hk1.cell 0
  have c1 := hk1.cell 1
  clear hk1
  have HGC := Lib.hid (ref_GraphCheck N A n c l v1 HL.out HM.out HC.out ((HR.out.below HB1.out).more hz1))
  go_wp2_with fail
  refine HGC.out.mono ?_
  clear HGC
  rintro e v2 ⟨rfl, hb2⟩
  have hk2 := HK1.out.below hb2 hlt1
  have hb2' := HB1.out.trans (hb2.mono hz1)
  have hz2 := hb2'.size
  have hz12 := hb2.size
  have HB2 := Lib.hid hb2'
  have HK2 := Lib.hid hk2
  have HB12 := Lib.hid hb2
  clear c0 c1 hb2 hb2' hk2
  by_cases h0 : graphCheck N l = 0
  · obtain ⟨m, rfl, rfl, hels⟩ := HGOOD.out h0
    obtain ⟨m', hm', hg⟩ := graph_good h0
    obtain rfl : k = m' := by omega
    have hm10 := hg.n10
    have hn45 : n ≤ 45 := by have := hg.m45; have := HL.out; omega
    have HE := Lib.hid (hels.below HB12.out)
    rw [h0]
    clear h0 hels hm' hg HBAD HGOOD
    go_wp2_with fail
    go_loopw [7, 6] (fun i s wr => ∃ (j : Nat) (A2 : Option Addr) (cap : Nat), j ≤ k ∧ i = .int .i64 j ∧ s = .slice A2 j cap ∧ Below v2.heap.size v2 wr ∧ Own wr v2.heap.size 3 1 icell A2 cap (degL j l)) (fun i _ _ => k - (intOf i).toNat)
    case atStart => exact ⟨0, none, 0, by omega, rfl, rfl, Below.refl _ _, Own.nil _ _ _ (fun _ => rfl)⟩
    case round =>
      obtain ⟨j, A2, cap, hj, rfl, rfl, hb, hown⟩ := hrel
      have hs4 := hb.size
      have hkr := HK2.out.below hb HK2.out.lt
      have c0 := hkr.cell 0
      have c1 := hkr.cell 1
      have hltr := hkr.lt
      have HO := Lib.hid hown
      have HB := Lib.hid hb
      clear hown hb hkr
      by_cases hlt : j < k
      · have HD := Lib.hid (ref_Degree k j A n c l wr HL.out hn45 ((HR.out.below (HB2.out.trans (HB.out.mono hz2))).more (by omega)))
        have hdl := deg_le l j
        have hll := HL.out
        obtain ⟨d, hd⟩ : ∃ d, d = deg l j := ⟨_, rfl⟩
        rw [← hd] at hdl
        have HDD := Lib.hid hd
        clear hd hll
        go_wp2_with fail
        refine HD.out.mono ?_
        clear HD
        rintro e w5 ⟨rfl, hb5⟩
        rw [← HDD.out]
        have hz5 := hb5.size
        have hown5 := HO.out.below hb5 (Nat.le_refl _)
        have hb25 := HB.out.trans (hb5.mono hs4)
        have HO5 := Lib.hid hown5
        have HB5 := Lib.hid hb25
        clear hb5 hown5 hb25 c0 c1
        go_wp2_with (at_builtin; go_loud (refine wpList_push rfl _ _ _ rfl v2.heap.size 1 3 (.int .i64 0) 8 Try.underlying44 (by kernel_rfl) rfl (by omega) icell w5 #[.int .i64 d] A2 j cap (degL j l) (degL_length j l) rfl HO5.out 1 [(d : Int)] rfl rfl _ rfl rfl (by simp [Value.oneCell']) (by unfold maxLen; omega) (by omega) (by omega) ?_; intro A3 cap3 w4 hown3 hgrow hloc))
        go_roundw
        case rel => exact ⟨j + 1, A3, cap3, by omega, by go_num, rfl, (HB5.out.alloc (by omega) _).grown hgrow (by rw [size_alloc']; omega) (fun g hg => (HO5.out.lt g hg).1), by rw [degL_succ, ← HDD.out]; exact hown3⟩
        case measure => simp [intOf]; omega
      · obtain rfl : j = k := by omega
        have HI := Lib.hid (Ints_same A1 A2 j cap1 cap (degL j l) v1.heap.size wr.heap.size wr (degL_length j l) (by unfold maxLen; omega) (((HE.out).below (HB.out.mono hz12))) HO.out.els)
        go_wp2_with fail
        refine HI.out.mono ?_
        clear HI
        rintro e v4 ⟨rfl, q, rfl⟩
        go_wp2_with fail
        go_ret
        exact ⟨rfl, below_drewN (HB2.out.trans (HB.out.mono hz2)) q⟩
  · have hk := HBAD.out h0
    subst hk
    have h1 : (graphCheck N l != 0) = true := by simpa using h0
    have h2 : (graphCheck N l == graphCheck N l) = true := by simp
    clear HBAD HGOOD
    generalize graphCheck N l = x at h1 h2
    clear h0
    go_wp2_with fail
    go_ret
    exact ⟨rfl, HB2.out⟩
theorem GraphDegrees_row (N : Int) (s : Sls (Int × Int × Int)) (w : World) (_hN : OkI N) (h : s.Good w w.heap.size 3 (fun p => [.int .i64 p.1, .int .i64 p.2.1, .int .i64 p.2.2]) (fun p => OkI p.1 ∧ OkI p.2.1 ∧ OkI p.2.2)) :
    Calls Try.prog 11 #[.agg #[.int .i64 N, s.val]] w fun e w' => e = .returned (.bool true) ∧ Below w.heap.size w w' :=
  law_GraphDegrees N s.A s.l.length s.c (s.l.map Ed.of) w (by simp) h.1 h.2.1 (h.2.2.1.map_ Ed.of fun _ _ => rfl)
end Go.Proofs.Ytaldkafibemhnaa
