/- All steps of an open net: what the iterator hands over. Conditions: the net lies still as the walk begins. -/
import Derived.Test.YtjkfogkpacmdlaaFeeLeast28
import Derived.Test.YtjkfogkpacmdlaaFeeLeast18
import Derived.Test.YtjkfogkpacmdlaaFeeLeast10
import Derived.Test.YtjkfogkpacmdlaaFeeLeast23
namespace Go.Proofs.Ytjkfogkpacmdlaa
open Go.RowKit Go.Shelf
attribute [local go_sem] Oper.semAt_some

theorem stepsL_succ (i : Nat) : stepsL (i + 1) = (stepsL i ++ [(i, false)]) ++ [(i, true)] := by
  unfold stepsL
  rw [List.range_succ, List.flatMap_append]
  simp
theorem stepsL_pre {i : Nat} : ∀ m, i ≤ m → stepsL i <+: stepsL m
  | 0, h => by rw [show i = 0 by omega]; exact List.prefix_refl _
  | m + 1, h => by
    by_cases e : i = m + 1
    · rw [e]; exact List.prefix_refl _
    · exact (stepsL_pre m (by omega)).trans ⟨_, by rw [stepsL_succ, List.append_assoc]⟩
set_option maxRecDepth 100000 in
set_option maxHeartbeats 1000000 in
theorem steps_seq (P N : Nat) (A : Option Addr) (n c : Nat) (G : Value) (hn : n ≤ 100000) :
    SeqM Try.prog 59 #[.pointer (some ⟨P, 0, none⟩)] #[] (fun x : Stp => #[stepV x]) (fun V => Blk V P 80 #[.int .i64 N, .slice A n c, G]) (fun _ _ => True) (fun _ _ => True) (fun W W' => W = W') (stepsL n) := by
  intro m yl J Jx W hk hst hstx hY h0
  have HY := Lib.hid hY
  have HJ : Hid (J (stepsL 0) W) := Lib.hid h0
  have c0 := hk.cell 0
  have c1 := hk.cell 1
  clear hst hstx hY h0 hk
  refine callsIn_of_wp Try.func59 rfl trivial ?_ rfl
  simp only [Try.ntmps59, List.size_toArray, List.length_cons, List.length_nil, Nat.reduceAdd, Nat.reduceSub, Array.replicate_succ, Array.replicate_zero, List.push_toArray, List.append_toArray, List.nil_append, List.cons_append, List.append_nil]
  gi_wp2_with fail
  clear c0 c1
  gi_loopw [11] (fun s11 wr => ∃ i : Nat, i ≤ n ∧ s11 = .int .i64 i ∧ J (stepsL i) wr) (fun s11 _ => n - (intOf s11).toNat)
  case atStart => exact ⟨0, by omega, rfl, HJ.out⟩
  case round =>
    clear HJ
    rename World => wr
    obtain ⟨i, hi, rfl, hJ⟩ := hrel
    have HJ := Lib.hid hJ
    clear hJ
    by_cases hlt : i < n
    · have hp2 : (stepsL i ++ [(i, false)]) ++ [(i, true)] <+: stepsL n := by
        rw [← stepsL_succ]
        exact stepsL_pre n (by omega)
      have hp1 : stepsL i ++ [(i, false)] <+: stepsL n := List.IsPrefix.trans ⟨_, rfl⟩ hp2
      obtain ⟨fn, tmps, assign, body, hy, hR⟩ := HY.out (m - 1) _ (i, false) wr HJ.out trivial hp1
      have HR := Lib.hid hR
      have HP1 := Lib.hid hp1
      have HP2 := Lib.hid hp2
      have hwi : IntKind.i64.wrap ((i : Int) + 1) = (i : Int) + 1 := IntWalk.i64_in _ (by omega)
      clear hR hp1 hp2
      gi_wp2_with fail
      refine ⟨(fun h => by cases h), HR.out.mono ?_⟩
      clear HR hy
      rintro e W3 (⟨rfl, hJ3, hk3⟩ | ⟨rfl, hJx3⟩)
      · obtain ⟨fn, tmps, assign, body, hy, hR⟩ := HY.out (m - 1) _ (i, true) W3 hJ3 trivial HP2.out
        have HR := Lib.hid hR
        clear hR hJ3 hk3
        gi_wp2_with fail
        refine ⟨(fun h => by cases h), HR.out.mono ?_⟩
        clear HR hy
        rintro e W4 (⟨rfl, hJ4, hk4⟩ | ⟨rfl, hJx4⟩)
        · have HJ4 : Hid (J (stepsL (i + 1)) W4) := Lib.hid (by rw [stepsL_succ]; exact hJ4)
          clear hJ4 hk4
          gi_wp2_with fail
          go_roundw
          case rel => exact ⟨i + 1, by omega, by simp, HJ4.out⟩
          case measure => first | (simp [intOf]; done) | (simp [intOf]; omega)
        · have HJX := Lib.hid hJx4
          clear hJx4
          gi_wp2_with fail
          refine bodyPost_ret (results_none rfl _ _ _) rfl ?_
          exact ⟨⟨_, rfl⟩, .inr ⟨_, HP2.out, HJX.out⟩⟩
      · have HJX := Lib.hid hJx3
        clear hJx3
        gi_wp2_with fail
        all_goals refine ⟨(fun f h => by cases h), ?_⟩
        all_goals gi_wp2_with fail
        all_goals
          refine bodyPost_ret (results_none rfl _ _ _) rfl ?_
          exact ⟨⟨_, rfl⟩, .inr ⟨_, HP1.out, HJX.out⟩⟩
    · obtain rfl : i = n := by omega
      gi_wp2_with fail
      go_end0
      exact ⟨⟨_, rfl⟩, .inl HJ.out⟩
end Go.Proofs.Ytjkfogkpacmdlaa

/- Two operations of a drawn region ready at once. Conditions: none. -/
namespace Go.Proofs.Ytjkfogkpacmdlaa
open Go.RowKit Go.Shelf
section
variable {P : Program} {md : Region.Mode} {ops : Array Oper} {z : Nat} {C : World → Prop} {Q : Act → World → Prop}
theorem anyD_two {i j : Nat} {oi oj : Oper} {fuel : Nat} {listed : Array Bool} {a : Act} {w : World} (hr : Region.ready md ops listed = [i, j]) (hi : ops[i]? = some oi) (hj : ops[j]? = some oj) (hwi : Region.wanted oi (yielded ops a.tmps) = true) (hwj : Region.wanted oj (yielded ops a.tmps) = true) (hC : listed.getD z false = true ∨ C w)
    (h1 : oi.wp P a w (anyC P md ops z C Q fuel (listed.setIfInBounds i true)) noP) (h2 : oj.wp P a w (anyC P md ops z C Q fuel (listed.setIfInBounds j true)) noP) : anyC P md ops z C Q (fuel + 1) listed a w :=
  ⟨hC, fun h0 => (by rw [hr] at h0; cases h0), fun k hk => by
    rw [hr] at hk
    simp only [List.mem_cons, List.not_mem_nil, or_false] at hk
    rcases hk with rfl | rfl
    · exact ⟨oi, hi, .inl ⟨hwi, h1⟩⟩
    · exact ⟨oj, hj, .inl ⟨hwj, h2⟩⟩⟩
end
end Go.Proofs.Ytjkfogkpacmdlaa

/- A way in memory turned round in place. Conditions: it lies in a row of its own. -/
namespace Go.Proofs.Ytjkfogkpacmdlaa
open Go.RowKit

def rvS (k d : Nat) (F : Nat → Stp) (i : Nat) : Stp := if i < d ∨ k ≤ i + d then F (k - 1 - i) else F i
set_option maxRecDepth 100000 in
set_option maxHeartbeats 2000000 in
theorem steps_Reverse (h sz k ck : Nat) (F : Nat → Stp) (w : World) (hs : StpB w h sz k F) (hk : k ≤ 100000) :
    Calls Try.prog 60 #[.slice (some ⟨h, 0, none⟩) k ck] w fun e w' => (∃ v, e = .returned v) ∧ Held [h] w w' ∧ StpB w' h sz k (fun i => F (k - 1 - i)) := by
  have HS := Lib.hid hs
  clear hs
  have hwk : IntKind.i64.wrap ((k : Int) - 1) = (k : Int) - 1 := IntWalk.i64_in _ (by omega)
  go_enter Try.func60, Try.ntmps60
  go_wp2_with fail
  go_loopw [2, 3] (fun s2 s3 wr => ∃ d : Nat, d ≤ k ∧ s2 = .int .i64 d ∧ s3 = .int .i64 ((k : Int) - 1 - d) ∧ Held [h] w wr ∧ StpB wr h sz k (rvS k d F)) (fun s2 _ _ => k - (intOf s2).toNat)
  case atStart => exact ⟨0, Nat.zero_le _, rfl, by simp, Held.refl _ _, HS.out.of_eq fun i hi => by unfold rvS; rw [if_neg (by omega)]⟩
  case round =>
    clear HS
    rename World => wr
    obtain ⟨d, hd, rfl, rfl, hh, hs⟩ := hrel
    by_cases hlt : d < k - 1 - d
    · obtain ⟨e, he⟩ : ∃ e, e = k - 1 - d := ⟨_, rfl⟩
      have hek : (k : Int) - 1 - d = (e : Int) := by omega
      rw [hek]
      have hde : (d : Int) < e := by omega
      obtain ⟨d0, d1⟩ := hs.at_ (i := d) (by omega)
      obtain ⟨e0, e1⟩ := hs.at_ (i := e) (by omega)
      obtain ⟨xd, hxd⟩ : ∃ x, x = rvS k d F d := ⟨_, rfl⟩
      obtain ⟨xe, hxe⟩ : ∃ x, x = rvS k d F e := ⟨_, rfl⟩
      rw [← hxd] at d0 d1
      rw [← hxe] at e0 e1
      have hput := (StpB.put hs (i := d) (by omega) xe).put (i := e) (by omega) xd
      have fd := hs.fr (d * 2)
      have fd1 := hs.fr (d * 2 + 1)
      have fe := hs.fr (e * 2)
      have fe1 := hs.fr (e * 2 + 1)
      have hdn : d * 2 ≠ e * 2 := by omega
      have hh2 : Held [h] w ((((wr.setCell ⟨h, d * 2, none⟩ (.int .i64 xe.1)).setCell ⟨h, d * 2 + 1, none⟩ (.bool xe.2)).setCell ⟨h, e * 2, none⟩ (.int .i64 xd.1)).setCell ⟨h, e * 2 + 1, none⟩ (.bool xd.2)) :=
        (((hh.setCell (p := ⟨h, d * 2, none⟩) (by simp) _).setCell (p := ⟨h, d * 2 + 1, none⟩) (by simp) _).setCell (p := ⟨h, e * 2, none⟩) (by simp) _).setCell (p := ⟨h, e * 2 + 1, none⟩) (by simp) _
      have HXD : Hid (xd = F d) := Lib.hid (by rw [hxd]; unfold rvS; rw [if_neg (by omega)])
      have HXE : Hid (xe = F e) := Lib.hid (by rw [hxe]; unfold rvS; rw [if_neg (by omega)])
      have HP := Lib.hid hput
      have HE := Lib.hid he
      have HH2 := Lib.hid hh2
      have hwd : IntKind.i64.wrap ((d : Int) + 1) = (d : Int) + 1 := IntWalk.i64_in _ (by omega)
      have hwe : IntKind.i64.wrap ((e : Int) - 1) = (e : Int) - 1 := IntWalk.i64_in _ (by omega)
      have hek2 : e < k := by omega
      have hdk2 : d < k := by omega
      obtain ⟨xd1, xd2⟩ := xd
      obtain ⟨xe1, xe2⟩ := xe
      simp only at d0 d1 e0 e1
      clear hput hs hxd hxe he hek hh hh2
      go_wp2_with fail
      refine region_plain 99 16 (fun _ => True) (by kernel_rfl) rfl ?_
      refine anyC_reads (by kernel_rfl) [0, 1, 2, 3, 4, 5, 6, 8, 9, 10] ?opl ?ohl 6 _ _ _ (by kernel_rfl) ?okk
      case ohl => (simp only [List.filterMap_cons, List.filterMap_nil, List.getElem?_toArray, List.getElem?_cons_zero, List.getElem?_cons_succ]; try rfl)
      repeat (
        refine readC_step (v := ?_) rfl (fun w' hw' => ?_) ?_
        rotate_left
        focus (go_simp; try with_reducible rfl)
        go_simp)
      refine readC_nil ?_
      refine anyD_two (i := 7) (j := 11) (by kernel_rfl) rfl rfl rfl rfl (.inr trivial) ?_ ?_
      · go_simp
        refine anyC_one (i := 11) (by kernel_rfl) rfl rfl (.inr trivial) ?_
        go_simp
        refine anyC_one (i := 12) (by kernel_rfl) rfl rfl (.inr trivial) ?_
        go_simp
        refine anyC_one (i := 13) (by kernel_rfl) rfl rfl (.inr trivial) ?_
        go_simp
        refine anyC_one (i := 14) (by kernel_rfl) rfl rfl (.inr trivial) ?_
        go_simp
        refine anyC_one (i := 15) (by kernel_rfl) rfl rfl (.inr trivial) ?_
        go_simp
        refine anyC_end (by kernel_rfl) (.inr trivial) ?_
        have hwd : IntKind.i64.wrap ((d : Int) + 1) = (d : Int) + 1 := IntWalk.i64_in _ (by omega)
        have hwe : IntKind.i64.wrap ((e : Int) - 1) = (e : Int) - 1 := IntWalk.i64_in _ (by omega)
        go_wp2_with fail
        go_roundw
        case rel => exact ⟨d + 1, by omega, by simp, by (have := HE.out; simp; omega), HH2.out.drew1, HP.out.of_eq fun i hi => (by
          have hed := HE.out
          unfold rvS
          by_cases h1 : i = e
          · subst h1; rw [if_pos rfl, if_pos (by omega), HXD.out]; congr 1; omega
          · rw [if_neg h1]
            by_cases h2 : i = d
            · subst h2; rw [if_pos rfl, if_pos (by omega), HXE.out, hed]
            · rw [if_neg h2]
              by_cases h3 : i < d ∨ k ≤ i + d
              · rw [if_pos h3, if_pos (by omega)]
              · rw [if_neg h3, if_neg (by omega)])⟩
        case measure => first | (simp [intOf]; done) | (simp [intOf]; omega)
      · go_simp
        refine anyC_one (i := 7) (by kernel_rfl) rfl rfl (.inr trivial) ?_
        go_simp
        refine anyC_one (i := 12) (by kernel_rfl) rfl rfl (.inr trivial) ?_
        go_simp
        refine anyC_one (i := 13) (by kernel_rfl) rfl rfl (.inr trivial) ?_
        go_simp
        refine anyC_one (i := 14) (by kernel_rfl) rfl rfl (.inr trivial) ?_
        go_simp
        refine anyC_one (i := 15) (by kernel_rfl) rfl rfl (.inr trivial) ?_
        go_simp
        refine anyC_end (by kernel_rfl) (.inr trivial) ?_
        have hwd : IntKind.i64.wrap ((d : Int) + 1) = (d : Int) + 1 := IntWalk.i64_in _ (by omega)
        have hwe : IntKind.i64.wrap ((e : Int) - 1) = (e : Int) - 1 := IntWalk.i64_in _ (by omega)
        go_wp2_with fail
        go_roundw
        case rel => exact ⟨d + 1, by omega, by simp, by (have := HE.out; simp; omega), HH2.out.drew1, HP.out.of_eq fun i hi => (by
          have hed := HE.out
          unfold rvS
          by_cases h1 : i = e
          · subst h1; rw [if_pos rfl, if_pos (by omega), HXD.out]; congr 1; omega
          · rw [if_neg h1]
            by_cases h2 : i = d
            · subst h2; rw [if_pos rfl, if_pos (by omega), HXE.out, hed]
            · rw [if_neg h2]
              by_cases h3 : i < d ∨ k ≤ i + d
              · rw [if_pos h3, if_pos (by omega)]
              · rw [if_neg h3, if_neg (by omega)])⟩
        case measure => first | (simp [intOf]; done) | (simp [intOf]; omega)
    · have hneg : ¬ (d : Int) < (k : Int) - 1 - d := by omega
      go_wp2_with fail
      go_end0
      exact ⟨⟨_, rfl⟩, hh, hs.of_eq fun i hi => by
        unfold rvS
        split
        · rfl
        · rw [show k - 1 - i = i by omega]⟩
end Go.Proofs.Ytjkfogkpacmdlaa
