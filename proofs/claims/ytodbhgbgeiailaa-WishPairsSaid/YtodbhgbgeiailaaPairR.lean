/- The pairing that the reference picks. Conditions: the wishes are good. -/
import Derived.Test.YtodbhgbgeiailaaAskQ
import Derived.Test.YtodbhgbgeiailaaAllsE
import Derived.Test.YtodbhgbgeiailaaRegD
import Derived.BigQuiet
namespace Go.Proofs.Ytodbhgbgeiailaa
open Go.RowKit

theorem pair_len {n : Nat} {L R : List (Sls Int)} (hL : GoodL n L) (hR : GoodL n R) {x : List Int} (h : x ∈ refA L R n n []) : x.length = n := by
  rw [← prg_ref hL hR n [] (by simp)] at h
  have := (prgA_pre n [] x h).2.1
  simpa using this
abbrev bestP (L : List (Sls Int)) (xs : List (List Int)) (i : Nat) : Int := xs.foldl (pickF L i) (-1)
set_option maxRecDepth 100000 in
set_option maxHeartbeats 1000000 in
theorem ref_Pairing (AL AR : Option Addr) (n cL cR : Nat) (L R : List (Sls Int)) (w : World) (hL : GoodL n L) (hR : GoodL n R) (hwi : WishIn w w.heap.size AL AR L R) :
    Calls Try.prog 20 #[.agg #[.slice AL n cL, .slice AR n cR]] w fun e w' => ∃ A' cap, e = .returned (.slice A' n cap) ∧ Below w.heap.size w w' ∧ Els w' w'.heap.size 1 icell A' (pairF L R n) := by
  have hn8 := hL.n8
  have hxl : (refA L R n n []).length ≤ 43046721 := Nat.le_trans (refA_len L R n n _) (pow_le9 hn8 hn8)
  obtain ⟨S, hS⟩ : ∃ S, S = w.heap.size := ⟨_, rfl⟩
  have hb0 := (Below.refl w.heap.size w).alloc (Nat.le_refl _) (.cells #[.slice AL n cL, .slice AR n cR] 38)
  have hk0 := Blk.new w 38 #[.slice AL n cL, .slice AR n cR]
  have hw1 := (hwi.below hb0).more (show w.heap.size ≤ (w.alloc (.cells #[.slice AL n cL, .slice AR n cR] 38)).heap.size by rw [size_alloc']; omega)
  have HE := Lib.hid (ref_AllPairings AL AR n cL cR L R _ hL hR hw1)
  have c0 := hk0.cell 0
  have c1 := hk0.cell 1
  have hz1 : (w.alloc (.cells #[.slice AL n cL, .slice AR n cR] 38)).heap.size = S + 1 := by rw [size_alloc', hS]
  rw [← hS] at hb0 hk0
  rw [← hS] at hwi
  have HB0 := Lib.hid hb0
  have HK0 := Lib.hid hk0
  have HS := Lib.hid hS
  have HWI := Lib.hid hwi
  have HLG := Lib.hid hL
  have HXLEN : Hid (∀ x ∈ refA L R n n [], x.length = n) := Lib.hid (fun x hx => pair_len hL hR hx)
  clear hb0 hk0 hw1 hS hwi hL hR
  go_enter Try.func20, Try.ntmps20
  go_wp2_with fail
  refine HE.out.mono ?_
  clear HE
  rintro e v1 ⟨A', cap', sls, rfl, hb1, hels, hrows, hmap⟩
  rw [hz1] at hb1
  have hk1 := HK0.out.below hb1 (by omega)
  have hbS := HB0.out.trans (hb1.mono (by omega))
  have hwi1 := HWI.out.below hbS
  obtain ⟨Y, hY⟩ : ∃ Y, Y = v1.heap.size := ⟨_, rfl⟩
  have hSY : S < Y := by rw [hY]; exact hk1.lt
  obtain ⟨xs, hxs⟩ : ∃ xs, xs = refA L R n n [] := ⟨_, rfl⟩
  have hml : sls.length = xs.length := by rw [hxs, ← hmap, List.length_map]
  obtain ⟨m, hm⟩ : ∃ m, m = xs.length := ⟨_, rfl⟩
  rw [← hm] at hml
  rw [← hxs] at hxl hmap HXLEN
  rw [← hm] at hxl
  have hpf : pairF L R n = (List.range n).map (bestP L xs) := by unfold pairF; rw [hxs]
  have HPF := Lib.hid hpf
  rw [← HS.out]
  have HML := Lib.hid hml
  have HM := Lib.hid hm
  have HMAP := Lib.hid hmap
  have HWI1 := Lib.hid hwi1
  have HK1 := Lib.hid hk1
  have HBS := Lib.hid hbS
  have HELS := Lib.hid hels
  have HROWS := Lib.hid hrows
  have HY := Lib.hid hY
  rw [hml]
  clear hb1 hk1 hbS hwi1 hels hrows hmap hm hxs hml hpf hz1 HB0 HK0 c0 c1 HWI hY
  go_wp2_with fail
  go_loopw [5, 4] (fun s5 s4 wr => ∃ (i : Nat) (A4 : Option Addr) (cap4 : Nat), i ≤ n ∧ s5 = .int .i64 i ∧ s4 = .slice A4 i cap4 ∧ Below Y v1 wr ∧ Own wr Y 3 1 icell A4 cap4 ((List.range i).map (bestP L xs))) (fun s5 _ _ => n - (intOf s5).toNat)
  case atStart => exact ⟨0, none, 0, Nat.zero_le _, rfl, rfl, Below.refl _ _, Own.nil _ _ _ (fun _ => rfl)⟩
  case round =>
    rename World => wr
    obtain ⟨i, A4, cap4, hi, rfl, rfl, hb, how⟩ := hrel
    have c0 := (HK1.out.below hb hSY).cell 0
    by_cases hin : i < n
    · have HB := Lib.hid hb
      have HO := Lib.hid how
      clear hb how
      go_wp2_with fail
      go_loopw [20, 6] (fun s20 s6 wq => ∃ k : Nat, k ≤ m ∧ s20 = .int .i64 k ∧ s6 = .int .i64 (bestP L (xs.take k) i) ∧ Below Y v1 wq ∧ Own wq Y 3 1 icell A4 cap4 ((List.range i).map (bestP L xs))) (fun s20 _ _ => m - (intOf s20).toNat)
      case atStart => exact ⟨0, Nat.zero_le _, rfl, rfl, HB.out, HO.out⟩
      case round =>
        clear HB HO c0
        rename World => wq
        obtain ⟨k, hk, rfl, rfl, hb, how⟩ := hrel
        by_cases hkm : k < m
        · have hks : k < sls.length := by rw [HML.out]; exact hkm
          have hkx : k < xs.length := by rw [← HM.out]; exact hkm
          have c0 := (HK1.out.below hb hSY).cell 0
          have hwr := HWI1.out.below (hb.mono (Nat.le_of_lt hSY))
          obtain ⟨bL, oL, As, cs, rfl, l0, hrA, hlA⟩ := side_at hwr.l hwr.gl (i := i) (by rw [HLG.out.len]; exact hin)
          have hsel : Els wq Y 1 rcell A' sls := by
            have := HELS.out
            rw [← HY.out] at this
            exact this.below hb
          obtain ⟨b3, o3, rfl, hb3, s0⟩ := hsel.at1 hks
          have hrow : Els wq Y 1 icell sls[k].A sls[k].l := by
            have := (HROWS.out sls[k] (List.getElem_mem hks)).els
            rw [← HY.out] at this
            exact this.below hb
          have hxk : sls[k].l = xs[k] := by
            have h1 := HMAP.out
            subst h1
            rw [List.getElem_map]
          have hln : sls[k].l.length = n := by rw [hxk]; exact HXLEN.out _ (List.getElem_mem hkx)
          obtain ⟨row, hrw⟩ : ∃ row, row = sls[k] := ⟨_, rfl⟩
          rw [← hrw] at s0 hrow hxk hln
          obtain ⟨rA, rc, rl⟩ := row
          simp only at hrow hxk hln
          simp only [rcell, Sls.val] at s0
          rw [hln] at s0
          obtain ⟨b4, o4, rfl, hb4, e0⟩ := hrow.at1 (k := i) (by rw [hln]; exact hin)
          rw [← getD_at rl i (by rw [hln]; exact hin) 0] at e0
          have hstep : bestP L (xs.take (k + 1)) i = pickF L i (bestP L (xs.take k) i) rl := by
            unfold bestP
            rw [List.take_succ_eq_append_getElem hkx, List.foldl_append, hxk]
            rfl
          unfold pickF at hstep
          obtain ⟨b, hb_⟩ : ∃ b, b = bestP L (xs.take k) i := ⟨_, rfl⟩
          obtain ⟨y, hy⟩ : ∃ y, y = rl.getD i 0 := ⟨_, rfl⟩
          rw [← hb_] at hstep ⊢
          rw [← hy] at hstep e0
          have HR := Lib.hid (ref_rather y b As _ cs (ls L i) S wq.drew rfl hlA hrA.drew)
          obtain ⟨la, hla⟩ : ∃ la, la = (ls L i).length := ⟨_, rfl⟩
          rw [← hla] at l0 HR
          obtain ⟨bt, hbt⟩ : ∃ bt, bt = ratherB y b (ls L i) := ⟨_, rfl⟩
          rw [← hbt] at hstep HR
          have HST := Lib.hid hstep
          have HB := Lib.hid hb
          have HO := Lib.hid how
          clear hwr hsel hrow hxk hln hrw hstep hb_ hy hla hbt hb how hrA hlA
          go_wp2_with fail
          refine region_plain 99 11 (fun w' => w' = wq.drew) (by kernel_rfl) rfl ?_
          refine anyC_reads (by kernel_rfl) [0, 1, 2, 3, 4, 5, 6, 7, 8, 9] ?opg ?ohg 1 _ _ _ (by kernel_rfl) ?okg
          case ohg => (simp only [List.filterMap_cons, List.filterMap_nil, List.getElem?_toArray, List.getElem?_cons_zero, List.getElem?_cons_succ]; try rfl)
          repeat (
            refine readC_step (v := ?_) rfl (fun w' hw' => ?_) ?_
            rotate_left
            focus (obtain rfl := hw'; go_simp; try with_reducible rfl)
            go_simp)
          refine readC_nil ?_
          refine anyC_one (i := 10) (by kernel_rfl) rfl rfl (.inr rfl) ?_
          go_simp
          refine HR.out.mono ?_
          rintro e w' ⟨rfl, rfl⟩
          go_simp
          refine anyC_end (by kernel_rfl) (.inr rfl) ?_
          cases bt with
          | true =>
            go_wp2_with fail
            go_roundw
            case rel => exact ⟨k + 1, by omega, by go_num, by rw [HST.out]; rfl, HB.out.drew, HO.out⟩
            case measure => simp [intOf]; omega
          | false =>
            go_wp2_with fail
            go_roundw
            case rel => exact ⟨k + 1, by omega, by go_num, by rw [HST.out]; rfl, HB.out.drew, HO.out⟩
            case measure => simp [intOf]; omega
        · obtain rfl : k = m := by omega
          rw [List.take_of_length_le (by rw [HM.out]; exact Nat.le_refl _)]
          have hlr : ((List.range i).map (bestP L xs)).length = i := by simp
          have hbi : bestP L xs i = bestP L xs i := rfl
          have HB := Lib.hid hb
          have HO := Lib.hid how
          have HSN : Hid ((List.range (i + 1)).map (bestP L xs) = (List.range i).map (bestP L xs) ++ [bestP L xs i]) := Lib.hid (by rw [List.range_succ, List.map_append]; rfl)
          obtain ⟨bv, hbv⟩ : ∃ bv, bv = bestP L xs i := ⟨_, rfl⟩
          rw [← hbv] at HSN ⊢
          clear hb how hbi hbv
          go_wp2_with (at_builtin; go_loud (
            refine wpList_push rfl _ _ _ rfl Y 1 3 (.int .i64 0) 8 Try.underlying39 (by kernel_rfl) rfl (by omega) icell wq #[.int .i64 bv] A4 i cap4 ((List.range i).map (bestP L xs)) hlr rfl HO.out 1 [bv] rfl rfl _ rfl rfl (by simp [Value.oneCell']) (by unfold maxLen; omega) (by omega) (by have := HB.out.size; rw [← HY.out] at this; omega) ?_
            intro A7 cap7 w7 hown7 hgrow7 hloc7
            have HO7 := Lib.hid hown7
            have HG7 := Lib.hid hgrow7
            clear hown7 hgrow7 hloc7))
          have hne : ∀ g, blkOf A4 = some g → Y ≤ g := fun g hg => (HO.out.lt g hg).1
          have hb7 := (HB.out.alloc (by have := HB.out.size; rw [← HY.out] at this; omega) (.cells #[.int .i64 bv] 3)).grown HG7.out (by have := HB.out.size; rw [← HY.out] at this; rw [size_alloc']; omega) (fun g e => by have := hne g e; omega)
          have HB7 := Lib.hid hb7
          clear hb7
          go_roundw
          case rel => exact ⟨i + 1, A7, cap7, by omega, by go_num, rfl, HB7.out, by rw [HSN.out]; exact HO7.out⟩
          case measure => simp [intOf]; omega
    · obtain rfl : i = n := by omega
      have HB := Lib.hid hb
      have HO := Lib.hid how
      clear hb how
      go_wp2_with fail
      go_ret
      exact ⟨A4, cap4, rfl, by rw [← HS.out]; exact HBS.out.trans (HB.out.mono (Nat.le_of_lt hSY)), by rw [HPF.out]; exact HO.out.els⟩
end Go.Proofs.Ytodbhgbgeiailaa
