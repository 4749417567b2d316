/- The tree of a code: the statement's walk. Conditions: none. -/
import Derived.Test.YtaldkafibemhnaaDecodeB
namespace Go.Proofs.Ytaldkafibemhnaa
open Go.RowKit

set_option maxRecDepth 100000 in
theorem Edges_same (A A' : Option Addr) (n c c' : Nat) (l : List Ed) (B B' : Nat) (w : World) (hl : l.length = n) (hn : n ≤ maxLen) (hr : Els w B 3 Ed.cells A l) (hr' : Els w B' 3 Ed.cells A' l) :
    Calls Try.prog 27 #[.slice A n c, .slice A' n c'] w fun e w' => e = .returned (.bool true) ∧ ∃ m, w' = w.drewN m := by
  unfold maxLen at hn
  have HL := Lib.hid hl
  clear hl
  go_enter Try.func27, Try.ntmps27
  go_wp2_with fail
  go_loopw [5] (fun i wr => ∃ k m : Nat, k ≤ n ∧ i = .int .i64 k ∧ wr = w.drewN m) (fun i _ => n - (intOf i).toNat)
  case atStart => exact ⟨0, 0, by omega, rfl, rfl⟩
  case round =>
    obtain ⟨k, m, hk, rfl, rfl⟩ := hrel
    by_cases hlt : k < n
    · have hkl : k < l.length := by rw [HL.out]; exact hlt
      obtain ⟨b, off, rfl, _, g0, g1, g2⟩ := hr.at3 hkl
      obtain ⟨b', off', rfl, _, f0, f1, f2⟩ := hr'.at3 hkl
      obtain ⟨e, he⟩ : ∃ e, e = l[k] := ⟨_, rfl⟩
      rw [← he] at g0 g1 g2 f0 f1 f2
      generalize e.a = ea at g0 f0
      generalize e.b = eb at g1 f1
      generalize e.w = ew at g2 f2
      clear hr hr' he
      go_wp2_with fail
      go_quiet (fail)
      go_wp2_with fail
      refine ⟨⟨k + 1, m + nq, by omega, by go_num, by first | rfl | rw [World.drewN_drewN]⟩, by simp [intOf]; omega⟩
    · obtain rfl : k = n := by omega
      go_wp2_with fail
      go_ret
      exact ⟨rfl, m, rfl⟩

set_option maxRecDepth 100000 in
set_option maxHeartbeats 1000000 in
theorem SpanDecodes_row (C : Sls Int) (W : World) (hC : C.Good W W.heap.size 1 icell OkI) :
    Calls Try.prog 8 #[C.val] W fun e w' => e = .returned (.bool true) ∧ Below W.heap.size W w' := by
  obtain ⟨A, c, code⟩ := C
  obtain ⟨hm, hc, hr, hg⟩ := hC
  obtain ⟨n, hn⟩ : ∃ n, code.length = n := ⟨_, rfl⟩
  show Calls Try.prog 8 #[.slice A code.length c] W _
  simp only at hm hc
  rw [hn] at hm hc ⊢
  have HM := Lib.hid (span_Decode code A n c W hn hm hr)
  have HR := Lib.hid hr
  have HN := Lib.hid hn
  have hm' : n ≤ 9223372036854775807 := by unfold maxLen at hm; exact hm
  have HCC : Hid (codeCheck code = if 8 < n then 1 else if code.any (codeBad (n + 2)) then 2 else 0) := by subst hn; rfl
  clear hg hr hn hm
  go_enter Try.func8, Try.ntmps8
  go_wp2_with fail
  refine HM.out.mono ?_
  clear HM
  rintro e v1 ⟨N, A1, k, cap, rfl, hb1, hbad, hgood⟩
  have hG := Blk.new v1 30 #[.int .i64 N, .slice A1 k cap]
  have hz1 := hb1.size
  have HB1 := Lib.hid (hb1.alloc hz1 (.cells #[.int .i64 N, .slice A1 k cap] 30))
  have HE := Lib.hid ((HR.out.below hb1).alloc hz1 (.cells #[.int .i64 N, .slice A1 k cap] 30))
  have HGB := Lib.hid hG
  have HBAD := Lib.hid hbad
  have HGOOD := Lib.hid hgood
  have c0 := hG.cell 0
  have c1 := hG.cell 1
  clear hG hb1 hbad hgood
  by_cases h8 : 8 < n
  · have HC := Lib.hid (HCC.out.trans (if_pos h8))
    obtain ⟨rfl, rfl⟩ := HBAD.out (by rw [HC.out]; omega)
    rw [HC.out]
    go_wp2_with fail
    go_loop [5, 19] (fun s i => ∃ q : Nat, q ≤ n ∧ i = .int .i64 q ∧ s = .int .i64 1) (fun _ i => n - (intOf i).toNat)
    case atStart => exact ⟨0, by omega, rfl, rfl⟩
    case round =>
      obtain ⟨q, hq, rfl, rfl⟩ := hrel
      by_cases hlt : q < n
      · obtain ⟨b, off, rfl, _, g0⟩ := HE.out.at1 (k := q) (by rw [HN.out]; exact hlt)
        generalize code[q]'(by rw [HN.out]; exact hlt) = x at g0
        go_wp2_with fail
        go_round
        case rel => exact ⟨q + 1, by omega, by go_num, rfl⟩
        case measure => simp [intOf]; omega
      · go_wp2_with fail
        go_ret
        exact ⟨rfl, HB1.out⟩
  · have HC := Lib.hid (HCC.out.trans (if_neg h8))
    go_wp2_with fail
    go_loop [5, 19] (fun s i => ∃ q : Nat, q ≤ n ∧ i = .int .i64 q ∧ s = .int .i64 (if (code.take q).any (codeBad (n + 2)) then 2 else 0)) (fun _ i => n - (intOf i).toNat)
    case atStart => exact ⟨0, by omega, rfl, rfl⟩
    case round =>
      obtain ⟨q, hq, rfl, rfl⟩ := hrel
      by_cases hlt : q < n
      · have hkl : q < code.length := by rw [HN.out]; exact hlt
        obtain ⟨b, off, rfl, _, g0⟩ := HE.out.at1 hkl
        have HS := Lib.hid (any_take_succ (codeBad (n + 2)) code q hkl)
        obtain ⟨x, hx⟩ : ∃ x, x = code[q] := ⟨_, rfl⟩
        rw [← hx] at g0
        have HX := Lib.hid hx
        clear hx
        rcases hp : (code.take q).any (codeBad (n + 2)) with _ | _
        · have HP := Lib.hid hp
          clear hp
          simp only [Bool.false_eq_true, if_false]
          by_cases h1 : x < 0
          · have HB : Hid (codeBad (n + 2) x = true) := by show codeBad (n + 2) x = true; unfold codeBad; simp [h1]
            go_wp2_with fail
            go_round
            case rel => exact ⟨q + 1, by omega, by go_num, by rw [HS.out, ← HX.out, HB.out]; simp⟩
            case measure => simp [intOf]; omega
          · by_cases h2 : (n : Int) + 2 ≤ x
            · have HB : Hid (codeBad (n + 2) x = true) := by show codeBad (n + 2) x = true; unfold codeBad; simp [h2]
              go_wp2_with fail
              go_round
              case rel => exact ⟨q + 1, by omega, by go_num, by rw [HS.out, ← HX.out, HB.out]; simp⟩
              case measure => simp [intOf]; omega
            · have HB : Hid (codeBad (n + 2) x = false) := by show codeBad (n + 2) x = false; unfold codeBad; simp; omega
              go_wp2_with fail
              go_round
              case rel => exact ⟨q + 1, by omega, by go_num, by rw [HS.out, ← HX.out, HB.out, HP.out]; simp⟩
              case measure => simp [intOf]; omega
        · have HP := Lib.hid hp
          clear hp
          simp only [if_true]
          go_wp2_with fail
          go_round
          case rel => exact ⟨q + 1, by omega, by go_num, by rw [HS.out, HP.out]; simp⟩
          case measure => simp [intOf]; omega
      · obtain rfl : q = n := by omega
        have hall : code.take q = code := List.take_of_length_le (by rw [HN.out]; omega)
        rw [hall]
        clear hall
        rcases hp : code.any (codeBad (q + 2)) with _ | _
        · have HC0 : Hid (codeCheck code = 0) := by show codeCheck code = 0; rw [HC.out, hp]; rfl
          obtain ⟨rfl, rfl, hels⟩ := HGOOD.out HC0.out
          have hin : ∀ j, ∀ hj : j < code.length, 0 ≤ code[j] ∧ code[j] < (q : Int) + 2 := by
            intro j hj
            have := List.any_eq_false.1 hp code[j] (List.getElem_mem hj)
            unfold codeBad at this
            simp at this
            omega
          have hz2 := HB1.out.size
          have HD := Lib.hid (ref_Decode code A q c _ HN.out (by omega) hc hin (HE.out.more hz2))
          have HELS := Lib.hid (hels.alloc (Nat.le_refl _) (.cells #[.int .i64 ((q : Int) + 2), .slice A1 (q + 1) cap] 30))
          simp only [Bool.false_eq_true, if_false]
          rw [HC0.out]
          clear hp hels hin
          go_wp2_with fail
          refine HD.out.mono ?_
          clear HD
          rintro e v2 ⟨A2, cap2, rfl, hb2, hels2⟩
          have hG2 := (HGB.out.below hb2 (by rw [size_alloc']; omega))
          have hz12 := hb2.size
          rw [size_alloc'] at hz12
          have HGB2 := Lib.hid (hG2.alloc (.cells #[.int .i64 ((q : Int) + 2), .slice A2 (q + 1) cap2] 30))
          have HNB := Lib.hid (Blk.new v2 30 #[.int .i64 ((q : Int) + 2), .slice A2 (q + 1) cap2])
          have HB2 := Lib.hid ((HB1.out.trans (hb2.mono hz2)).alloc (by omega) (.cells #[.int .i64 ((q : Int) + 2), .slice A2 (q + 1) cap2] 30))
          have HES := Lib.hid (Edges_same A1 A2 (q + 1) cap cap2 (decAll code) v1.heap.size v2.heap.size (v2.alloc (.cells #[.int .i64 ((q : Int) + 2), .slice A2 (q + 1) cap2] 30)) (by unfold decAll; rw [List.length_append, decE_length, HN.out]; rfl) (by unfold maxLen; omega) ((HELS.out.below (hb2.mono (by rw [size_alloc']; omega))).alloc (by omega) _) (hels2.alloc (Nat.le_refl _) _))
          have d0 := HGB2.out.cell 0
          have d1 := HGB2.out.cell 1
          have e0 := HNB.out.cell 0
          have e1 := HNB.out.cell 1
          clear c0 c1 hG2 hb2 hels2
          go_wp2_with fail
          refine HES.out.mono ?_
          clear HES
          rintro e v3 ⟨rfl, m, rfl⟩
          go_wp2_with fail
          go_ret
          exact ⟨rfl, below_drewN HB2.out m⟩
        · have HC0 : Hid (codeCheck code = 2) := by show codeCheck code = 2; rw [HC.out, hp]; rfl
          obtain ⟨rfl, rfl⟩ := HBAD.out (by rw [HC0.out]; omega)
          simp only [if_true]
          rw [HC0.out]
          clear hp
          go_wp2_with fail
          go_ret
          exact ⟨rfl, HB1.out⟩
end Go.Proofs.Ytaldkafibemhnaa
