/- The reference's check of a graph computes the one function graphCheck; the law GraphChecks. Conditions: the edges read as a list. -/
import Derived.Test.YtbbdiondhnmnaaaDoorSpanMany18
namespace Go.Proofs.YtbbdiondhnmnaaaDoor
open Go.RowKit

theorem same_pair (f e : Ed) : (f.pair == e.pair) = decide ((f.a = e.a ∧ f.b = e.b) ∨ (f.a = e.b ∧ f.b = e.a)) := by
  unfold Ed.pair
  rw [Bool.eq_iff_iff, beq_iff_eq, decide_eq_true_iff, Prod.mk.injEq]
  omega

set_option maxRecDepth 100000 in
set_option maxHeartbeats 2000000 in
theorem ref_GraphCheck (N : Int) (A : Option Addr) (n c : Nat) (l : List Ed) (w : World) (hl : l.length = n) (hn : n ≤ maxLen) (hc : n ≤ c) (hr : Els w w.heap.size 3 Ed.cells A l) :
    Calls Tryd.prog 5 #[.agg #[.int .i64 N, .slice A n c]] w fun e w' => e = .returned (.int .i64 (graphCheck N l)) ∧ Below w.heap.size w w' := by
  unfold maxLen at hn
  have HN : Hid (graphCheck N l = if N < 0 ∨ 10 < N ∨ 45 < n then 1 else graphFrom N [] l) := by subst hl; rfl
  have HL := Lib.hid hl
  clear hl
  have hbox := (Below.refl w.heap.size w).alloc (Nat.le_refl _) (.cells #[.int .i64 N, .slice A n c] 24)
  have HBX := Lib.hid hbox
  clear hbox
  by_cases h1 : N < 0
  · go_enter Tryd.func5, Tryd.ntmps5
    go_wp2_with fail
    go_ret
    exact ⟨ret_i64 (by rw [HN.out, if_pos (by omega)]), HBX.out⟩
  by_cases h2 : 10 < N
  · go_enter Tryd.func5, Tryd.ntmps5
    go_wp2_with fail
    go_ret
    exact ⟨ret_i64 (by rw [HN.out, if_pos (by omega)]), HBX.out⟩
  by_cases h3 : 45 < n
  · go_enter Tryd.func5, Tryd.ntmps5
    go_wp2_with fail
    go_ret
    exact ⟨ret_i64 (by rw [HN.out, if_pos (by omega)]), HBX.out⟩
  have HM := Lib.hid (HN.out.trans (if_neg (by omega)))
  clear HN
  go_enter Tryd.func5, Tryd.ntmps5
  go_wp2_with fail
  go_loopw [24] (fun i wr => ∃ k : Nat, k ≤ n ∧ i = .int .i64 k ∧ Below w.heap.size w wr ∧ Blk wr w.heap.size 24 #[.int .i64 N, .slice A n c] ∧ graphFrom N (l.take k) (l.drop k) = graphFrom N [] l) (fun i _ => n - (intOf i).toNat)
  case atStart => exact ⟨0, by omega, rfl, HBX.out, Blk.new _ _ _, rfl⟩
  case round =>
    obtain ⟨k, hk, rfl, hb, hblk, hgf⟩ := hrel
    have hsz := hb.size
    have hlt' := hblk.lt
    by_cases hlt : k < n
    · have hkl : k < l.length := by rw [HL.out]; exact hlt
      obtain ⟨b, off, rfl, hbb, g0, g1, g2⟩ := (hr.below hb).at3 hkl
      obtain ⟨e, he⟩ : ∃ e, e = l[k] := ⟨_, rfl⟩
      have HR := Lib.hid (graph_round hkl hgf e he)
      rw [← he] at g0 g1 g2
      have HE := Lib.hid he
      clear hgf he
      have hbE := hb.alloc hsz (.cells #[.int .i64 e.a, .int .i64 e.b, .int .i64 e.w] 34)
      have hB0 := hblk.alloc (.cells #[.int .i64 e.a, .int .i64 e.b, .int .i64 e.w] 34)
      have hE0 := Blk.new wr 34 #[.int .i64 e.a, .int .i64 e.b, .int .i64 e.w]
      have HBE := Lib.hid hbE
      have HB0 := Lib.hid hB0
      have HE0 := Lib.hid hE0
      have c0 := hblk.cell 0
      have c1 := hblk.cell 1
      clear hbE hB0 hE0 hblk
      by_cases q : e.a < 0 ∨ N ≤ e.a ∨ e.b < 0 ∨ N ≤ e.b
      · have HC : Hid (edgeCode N (l.take k) e = 2) := by show edgeCode N (l.take k) e = 2; unfold edgeCode; rw [if_pos q]
        by_cases q1 : e.a < 0
        · clear q
          go_wp2_with fail
          go_ret
          exact ⟨ret_i64 (by rw [HM.out, HR.out, HC.out]; rfl), HBE.out⟩
        by_cases q2 : N ≤ e.a
        · clear q
          go_wp2_with fail
          go_ret
          exact ⟨ret_i64 (by rw [HM.out, HR.out, HC.out]; rfl), HBE.out⟩
        by_cases q3 : e.b < 0
        · clear q
          go_wp2_with fail
          go_ret
          exact ⟨ret_i64 (by rw [HM.out, HR.out, HC.out]; rfl), HBE.out⟩
        have q4 : N ≤ e.b := by omega
        clear q
        go_wp2_with fail
        go_ret
        exact ⟨ret_i64 (by rw [HM.out, HR.out, HC.out]; rfl), HBE.out⟩
      have HC := Lib.hid (show edgeCode N (l.take k) e = if e.a = e.b then 3 else if (l.take k).any (fun f => f.pair == e.pair) then 3 else if e.w < -1048576 ∨ 1048576 < e.w then 4 else 0 from by
        unfold edgeCode
        rw [if_neg q])
      have q1 : 0 ≤ e.a := by omega
      have q2 : e.a < N := by omega
      have q3 : 0 ≤ e.b := by omega
      have q4 : e.b < N := by omega
      clear q
      by_cases q5 : e.a = e.b
      · have q5' : (e.a == e.b) = true := by simpa using q5
        have HC3 := Lib.hid (HC.out.trans (if_pos q5))
        clear q5
        go_wp2_with fail
        go_ret
        exact ⟨ret_i64 (by rw [HM.out, HR.out, HC3.out]; rfl), HBE.out⟩
      have q5' : (e.a == e.b) = false := by simpa using q5
      have HC3 := Lib.hid (HC.out.trans (if_neg q5))
      clear q5
      go_wp2_with fail
      obtain ⟨wo, hwo⟩ : ∃ wo : World, wo = wr := ⟨_, rfl⟩
      obtain ⟨pre, hpre⟩ : ∃ pre, pre = l.take k := ⟨_, rfl⟩
      have hpl : pre.length = k := by rw [hpre, List.length_take]; omega
      have hrp := hr.pre k
      rw [← hpre] at hrp
      have HPL := Lib.hid hpl
      have HPRE := Lib.hid hpre
      clear hpl hpre
      subst hwo
      go_loopw [61] (fun i wi => ∃ j : Nat, j ≤ k ∧ i = .int .i64 j ∧ Below w.heap.size w wi ∧ Blk wi w.heap.size 24 #[.int .i64 N, .slice (some ⟨b, off, none⟩) n c] ∧ Blk wi wo.heap.size 34 #[.int .i64 e.a, .int .i64 e.b, .int .i64 e.w] ∧ (pre.take j).any (fun f => f.pair == e.pair) = false) (fun i _ => k - (intOf i).toNat)
      case atStart => exact ⟨0, by omega, rfl, HBE.out, HB0.out, HE0.out, rfl⟩
      case round =>
        obtain ⟨j, hj, rfl, hbi, hBi, hEi, hno⟩ := hrel
        have hzi := hbi.size
        have hli := hBi.lt
        have hlo := hEi.lt
        have HJ := Lib.hid hno
        clear hno
        have HBi := Lib.hid hBi
        have HEi := Lib.hid hEi
        have HBI := Lib.hid hbi
        have i0 := hBi.cell 0
        have i1 := hBi.cell 1
        have j0 := hEi.cell 0
        have j1 := hEi.cell 1
        have j2 := hEi.cell 2
        clear hBi hEi
        by_cases hlj : j < k
        · have hjl : j < pre.length := by rw [HPL.out]; exact hlj
          obtain ⟨b2, off2, he2, _, f0, f1, f2⟩ := (hrp.below hbi).at3 hjl
          obtain ⟨rfl, rfl⟩ : b = b2 ∧ off = off2 := by simpa using he2
          clear he2
          obtain ⟨f, hf⟩ : ∃ f, f = pre[j] := ⟨_, rfl⟩
          rw [← hf] at f0 f1 f2
          have HF := Lib.hid hf
          have HSP := Lib.hid (same_pair f e)
          clear hf hbi
          have hbad : (f.pair == e.pair) = true → graphCheck N l = 3 := fun h => by
            rw [HM.out, HR.out, HC3.out, ← HPRE.out, if_pos (any_of_get (p := fun f : Ed => f.pair == e.pair) hjl (by rw [← HF.out]; exact h))]
            rfl
          have HBAD := Lib.hid hbad
          clear hbad
          rcases r1 : (f.a == e.a) with _ | _ <;> rcases r2 : (f.b == e.b) with _ | _ <;> rcases r3 : (f.a == e.b) with _ | _ <;> rcases r4 : (f.b == e.a) with _ | _
          all_goals
            go_wp2_with fail
            first
              | (go_ret
                 simp only [beq_iff_eq, beq_eq_false_iff_ne, ne_eq] at r1 r2 r3 r4
                 exact ⟨ret_i64 (HBAD.out (by rw [HSP.out, decide_eq_true_iff]; omega)).symm, HBI.out.alloc hzi _⟩)
              | (refine ⟨?rel, ?measure⟩
                 case rel =>
                   refine ⟨j + 1, by omega, by go_num, HBI.out.alloc hzi _, HBi.out.alloc _, HEi.out.alloc _, ?_⟩
                   simp only [beq_iff_eq, beq_eq_false_iff_ne, ne_eq] at r1 r2 r3 r4
                   rw [any_take_succ _ _ _ hjl, HJ.out, ← HF.out, HSP.out, Bool.false_or, decide_eq_false_iff_not]
                   omega
                 case measure => simp [intOf]; omega)
        · have hnd : (l.take k).any (fun f => f.pair == e.pair) = false := by
            rw [← HPRE.out]
            exact any_take_all (by rw [HPL.out]; omega) HJ.out
          have HC4 := Lib.hid (HC3.out.trans (if_neg (by rw [hnd]; simp)))
          clear hnd
          by_cases q6 : e.w < -1048576
          · go_wp2_with fail
            go_ret
            exact ⟨ret_i64 (by rw [HM.out, HR.out, HC4.out.trans (if_pos (Or.inl q6))]; rfl), HBI.out⟩
          by_cases q7 : 1048576 < e.w
          · go_wp2_with fail
            go_ret
            exact ⟨ret_i64 (by rw [HM.out, HR.out, HC4.out.trans (if_pos (Or.inr q7))]; rfl), HBI.out⟩
          go_wp2_with fail
          refine ⟨⟨k + 1, by omega, by go_num, HBI.out, HBi.out, ?_⟩, by simp [intOf]; omega⟩
          rw [HR.out, HC4.out.trans (if_neg (by omega))]
          rfl
    · have hl' : l.drop k = [] := List.drop_eq_nil_of_le (by rw [HL.out]; omega)
      rw [hl'] at hgf
      have HK := Lib.hid hgf
      clear hgf
      go_wp2_with fail
      go_ret
      exact ⟨ret_i64 (by rw [HM.out, ← HK.out]; rfl), hb⟩
end Go.Proofs.YtbbdiondhnmnaaaDoor
