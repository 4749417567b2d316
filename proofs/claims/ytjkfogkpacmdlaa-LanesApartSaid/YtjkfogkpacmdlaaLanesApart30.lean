/- All steps of an open net: what the iterator hands over. Conditions: the net lies still as the walk begins. -/
import Derived.Test.YtjkfogkpacmdlaaLanesApart29
import Derived.Test.YtjkfogkpacmdlaaLanesApart13
namespace Go.Proofs.Ytjkfogkpacmdlaa
open Go.RowKit Go.Shelf
attribute [local go_sem] Oper.semAt_some

theorem stepsL_succ (i : Nat) : stepsL (i + 1) = (stepsL i ++ [(i, false)]) ++ [(i, true)] := by
  unfold stepsL
  rw [List.range_succ, List.flatMap_append]
  simp
theorem stepsL_pre {i : Nat} : ∀ m, i ≤ m → stepsL i <+: stepsL m
  | 0, h => by rw [show i = 0 by omega]; exact List.prefix_refl _
  | m + 1, h => by
    by_cases e : i = m + 1
    · rw [e]; exact List.prefix_refl _
    · exact (stepsL_pre m (by omega)).trans ⟨_, by rw [stepsL_succ, List.append_assoc]⟩
set_option maxRecDepth 100000 in
set_option maxHeartbeats 1000000 in
theorem steps_seq (P N : Nat) (A : Option Addr) (n c : Nat) (G : Value) (hn : n ≤ 100000) :
    SeqM Try.prog 59 #[.pointer (some ⟨P, 0, none⟩)] #[] (fun x : Stp => #[stepV x]) (fun V => Blk V P 80 #[.int .i64 N, .slice A n c, G]) (fun _ _ => True) (fun _ _ => True) (fun W W' => W = W') (stepsL n) := by
  intro m yl J Jx W hk hst hstx hY h0
  have HY := Lib.hid hY
  have HJ : Hid (J (stepsL 0) W) := Lib.hid h0
  have c0 := hk.cell 0
  have c1 := hk.cell 1
  clear hst hstx hY h0 hk
  refine callsIn_of_wp Try.func59 rfl trivial ?_ rfl
  simp only [Try.ntmps59, List.size_toArray, List.length_cons, List.length_nil, Nat.reduceAdd, Nat.reduceSub, Array.replicate_succ, Array.replicate_zero, List.push_toArray, List.append_toArray, List.nil_append, List.cons_append, List.append_nil]
  gi_wp2_with fail
  clear c0 c1
  gi_loopw [11] (fun s11 wr => ∃ i : Nat, i ≤ n ∧ s11 = .int .i64 i ∧ J (stepsL i) wr) (fun s11 _ => n - (intOf s11).toNat)
  case atStart => exact ⟨0, by omega, rfl, HJ.out⟩
  case round =>
    clear HJ
    rename World => wr
    obtain ⟨i, hi, rfl, hJ⟩ := hrel
    have HJ := Lib.hid hJ
    clear hJ
    by_cases hlt : i < n
    · have hp2 : (stepsL i ++ [(i, false)]) ++ [(i, true)] <+: stepsL n := by
        rw [← stepsL_succ]
        exact stepsL_pre n (by omega)
      have hp1 : stepsL i ++ [(i, false)] <+: stepsL n := List.IsPrefix.trans ⟨_, rfl⟩ hp2
      obtain ⟨fn, tmps, assign, body, hy, hR⟩ := HY.out (m - 1) _ (i, false) wr HJ.out trivial hp1
      have HR := Lib.hid hR
      have HP1 := Lib.hid hp1
      have HP2 := Lib.hid hp2
      have hwi : IntKind.i64.wrap ((i : Int) + 1) = (i : Int) + 1 := IntWalk.i64_in _ (by omega)
      clear hR hp1 hp2
      gi_wp2_with fail
      refine ⟨(fun h => by cases h), HR.out.mono ?_⟩
      clear HR hy
      rintro e W3 (⟨rfl, hJ3, hk3⟩ | ⟨rfl, hJx3⟩)
      · obtain ⟨fn, tmps, assign, body, hy, hR⟩ := HY.out (m - 1) _ (i, true) W3 hJ3 trivial HP2.out
        have HR := Lib.hid hR
        clear hR hJ3 hk3
        gi_wp2_with fail
        refine ⟨(fun h => by cases h), HR.out.mono ?_⟩
        clear HR hy
        rintro e W4 (⟨rfl, hJ4, hk4⟩ | ⟨rfl, hJx4⟩)
        · have HJ4 : Hid (J (stepsL (i + 1)) W4) := Lib.hid (by rw [stepsL_succ]; exact hJ4)
          clear hJ4 hk4
          gi_wp2_with fail
          go_roundw
          case rel => exact ⟨i + 1, by omega, by simp, HJ4.out⟩
          case measure => first | (simp [intOf]; done) | (simp [intOf]; omega)
        · have HJX := Lib.hid hJx4
          clear hJx4
          gi_wp2_with fail
          refine bodyPost_ret (results_none rfl _ _ _) rfl ?_
          exact ⟨⟨_, rfl⟩, .inr ⟨_, HP2.out, HJX.out⟩⟩
      · have HJX := Lib.hid hJx3
        clear hJx3
        gi_wp2_with fail
        all_goals refine ⟨(fun f h => by cases h), ?_⟩
        all_goals gi_wp2_with fail
        all_goals
          refine bodyPost_ret (results_none rfl _ _ _) rfl ?_
          exact ⟨⟨_, rfl⟩, .inr ⟨_, HP1.out, HJX.out⟩⟩
    · obtain rfl : i = n := by omega
      gi_wp2_with fail
      go_end0
      exact ⟨⟨_, rfl⟩, .inl HJ.out⟩
end Go.Proofs.Ytjkfogkpacmdlaa
