/- The statement TopRoom: its law's walk. Conditions: workers, services and changes read as lists. -/
import Derived.Test.YtdinknpagklkjaaTopLeft18
namespace Go.Proofs.Ytdinknpagklkjaa
open Go.RowKit
attribute [local go_sem ↓] w_and w_or w_xor w_andNot w_and1 w_and255 w_xor1 w_or0 w_shl w_shl1 w_shr w_sub w_add w_sub1 w_add1
attribute [local go_sem] w_eq0 w_ne0 w_eq1 w_eq w_ne
attribute [local go_sem] Oper.semAt_some

theorem room_nonneg {ws : List Wk} (h : ∀ k ∈ ws, 0 ≤ k.1 ∧ k.1 ≤ 12) (q : Nat) : 0 ≤ (wk ws q).1 := by
  rcases Nat.lt_or_ge q ws.length with hq | hq
  · have : wk ws q ∈ ws := by
      unfold wk
      rw [getD_at ws q hq]
      exact List.getElem_mem hq
    exact (h _ this).1
  · unfold wk
    rw [List.getD_eq_getElem?_getD, List.getElem?_eq_none hq]
    exact Int.le_refl _
theorem play_good {ws : List Wk} {m L : Nat} (h : playE ws m L = 0) : ws.length ≤ 6 ∧ m ≤ 12 ∧ L ≤ 64 ∧ ∀ k ∈ ws, 0 ≤ k.1 ∧ k.1 ≤ 12 := by
  obtain ⟨hx, hL⟩ := play_iff.1 h
  unfold placeCheck at hx
  split at hx
  · omega
  · split at hx
    · omega
    · rename_i h1 h2
      refine ⟨by omega, by omega, hL, fun k hk => ?_⟩
      have := List.any_eq_false.1 (by simpa using h2) k hk
      unfold badRoom at this
      simp at this
      omega
set_option maxRecDepth 100000 in
set_option maxHeartbeats 2000000 in
theorem law_TopRoom (A B C : Option Addr) (W cA m cB L cC : Nat) (ws : List Wk) (svs : List (BitVec 32)) (script : List Chg) (w : World) (hW : ws.length = W) (hM : svs.length = m) (hL : script.length = L) (hWm : W ≤ maxLen) (hmm : m ≤ maxLen) (hLm : L ≤ maxLen) (hws : Els w w.heap.size 2 wkcell A ws) (hts : Els w w.heap.size 1 wcell B svs) (hcs : Els w w.heap.size 3 chcell C script) :
    Calls Try.prog 3 #[.slice A W cA, .slice B m cB, .slice C L cC] w fun e w' => e = .returned (.bool true) ∧ Below w.heap.size w w' := by
  by_cases he : playE ws m L = 0
  · obtain ⟨hW6, hm12, hL64, hgood⟩ := play_good he
    rw [hW] at hW6
    have HPLAY := Lib.hid (crew_Play A B C W cA m cB L cC ws svs script w hW hM hL hws hts hcs he)
    have hok := CwOk.play (svs := svs) (room_nonneg hgood) script
    have hcl := step_codes ws svs script
    rw [hL] at hcl
    have HTICK := Lib.hid (fun (x : Chg) (l : List Chg) (hl : script = l ++ [x]) (hx : x.1 = 4) => by
      have := tick_wanted ws svs l x hx
      rw [← hl] at this
      exact this : ∀ (x : Chg) (l : List Chg), script = l ++ [x] → x.1 = 4 → ∀ s, ((playF ws svs script).tasks.getD s []).length ≤ ((playF ws svs script).wants.getD s 0).toNat)
    obtain ⟨c, hc⟩ : ∃ c, c = playF ws svs script := ⟨_, rfl⟩
    rw [← hc] at HPLAY hok hcl HTICK
    have HMAY := Lib.hid (fun (v : World) (hb : Below w.heap.size w v) => top_may A B C W cA m cB L cC ws v hW hWm hmm hLm ((hws.below hb).more hb.size))
    rw [he] at HMAY
    have HOK := Lib.hid hok
    have HCL := Lib.hid hcl
    have HW := Lib.hid hW
    have HM := Lib.hid hM
    have HL := Lib.hid hL
    have HWS := Lib.hid hws
    have HTS := Lib.hid hts
    have HCS := Lib.hid hcs
    clear hok hcl hc hW hM hL hws hts hcs he hgood
    go_enter Try.func3, Try.ntmps3
    go_wp2_with fail
    refine HPLAY.out.mono ?_
    clear HPLAY
    rintro e w1 ⟨hb1, P, gw, gt, Ac, kc, rows, hcr, rfl⟩
    obtain ⟨S2, hS2⟩ : ∃ S, S = w1.heap.size := ⟨_, rfl⟩
    have hrd := hcr.read
    have hk := Blk.new w1 30 #[.slice Ac L kc, .int .u32 (wN c.inn), .slice (some ⟨gw, 0, none⟩) m m, .slice (some ⟨gt, 0, none⟩) m m]
    have hrd2 := hrd.alloc (.cells #[.slice Ac L kc, .int .u32 (wN c.inn), .slice (some ⟨gw, 0, none⟩) m m, .slice (some ⟨gt, 0, none⟩) m m] 30)
    have hb2 := hb1.alloc hb1.size (.cells #[.slice Ac L kc, .int .u32 (wN c.inn), .slice (some ⟨gw, 0, none⟩) m m, .slice (some ⟨gt, 0, none⟩) m m] 30)
    obtain ⟨V, hV⟩ : ∃ V, V = w1.alloc (.cells #[.slice Ac L kc, .int .u32 (wN c.inn), .slice (some ⟨gw, 0, none⟩) m m, .slice (some ⟨gt, 0, none⟩) m m] 30) := ⟨_, rfl⟩
    rw [← hV] at hk hrd2 hb2
    rw [← hS2] at hk
    have HK := Lib.hid hk
    have HRD := Lib.hid hrd2
    have HB2 := Lib.hid hb2
    have HV := Lib.hid hV
    have HS2 := Lib.hid hS2
    clear hb1 hcr hrd hk hrd2 hb2 hV hS2
    go_wp2_with fail
    rw [← HV.out, ← HS2.out]
    refine (HMAY.out V HB2.out).mono ?_
    clear HMAY
    rintro e w2 ⟨rfl, hb3⟩
    have hk2 := HK.out.below hb3 HK.out.lt
    have hrd3 := HRD.out.below hb3 (Nat.le_refl _)
    have hb3' := HB2.out.trans (hb3.mono HB2.out.size)
    have d0 := hk2.cell 0
    have d1 := hk2.cell 1
    have d2 := hk2.cell 2
    have d3 := hk2.cell 3
    have HWHOLE := Lib.hid (top_whole B C Ac (some ⟨gw, 0, none⟩) (some ⟨gt, 0, none⟩) m cB L cC kc m m (wN c.inn) w2)
    have HK2 := Lib.hid hk2
    have HRD3 := Lib.hid hrd3
    have HB3 := Lib.hid hb3'
    clear hk2 hrd3 hb3' hb3
    go_wp2_with fail
    refine HWHOLE.out.mono ?_
    clear HWHOLE d0 d1 d2 d3
    rintro e w3 ⟨rfl, hb4⟩
    have hk3 := HK2.out.below hb4 HK2.out.lt
    have hrd4 := HRD3.out.below hb4 (Nat.le_refl _)
    have hb4' := HB3.out.trans (hb4.mono HB3.out.size)
    obtain ⟨Y, hY⟩ : ∃ Y, Y = w3.heap.size := ⟨_, rfl⟩
    have HK3 := Lib.hid hk3
    have HRD4 := Lib.hid hrd4
    have HB4 := Lib.hid hb4'
    have HY := Lib.hid hY
    clear hk3 hrd4 hb4' hb4 HK HRD HB2 HK2 HRD3 HB3 hY
    go_wp2_with (at_make; go_loud (refine wpList_make1 rfl _ _ _ rfl w3.heap.size 3 8 (fun x => .int .i64 x) 0 Try.underlying27 (by kernel_rfl) rfl w3 .i64 .i64 W rfl rfl (by omega) (by unfold maxLen; omega) (Nat.le_refl _) ?_; intro v4 hown4 hgrow4; have q3 := (HK3.out.grown hgrow4 (by simp)).cell 3))
    have hb5 := (Below.refl w3.heap.size w3).grown hgrow4 (Nat.le_refl _) (by simp)
    rw [← HY.out] at hown4 hb5 ⊢
    have HO5 : Hid (Own v4 Y 3 1 icell (some ⟨Y, 0, none⟩) W (cntL W (preT c.tasks 0 0))) := Lib.hid (by rw [preT_zero, cntL_nil]; exact hown4)
    have HB5 := Lib.hid hb5
    clear hown4 hgrow4 hb5
    go_loopw [45] (fun s45 wr => ∃ s : Nat, s ≤ m ∧ s45 = .int .i64 s ∧ Below Y w3 wr ∧ Own wr Y 3 1 icell (some ⟨Y, 0, none⟩) W (cntL W (preT c.tasks s 0))) (fun s45 _ => m - (intOf s45).toNat)
    case atStart => exact ⟨0, Nat.zero_le _, rfl, HB5.out, HO5.out⟩
    case round =>
      clear HB5 HO5 q3
      rename World => wr
      obtain ⟨s, hs, rfl, hb, ho⟩ := hrel
      have hrd := HRD4.out.below hb (by rw [HY.out]; exact Nat.le_refl _)
      by_cases hsm : s < m
      · have hsr : s < rows.length := by rw [HRD4.out.rl]; exact hsm
        have hst : s < c.tasks.length := by rw [← HRD4.out.tsk, List.length_map]; exact hsr
        obtain ⟨b1, o1, e1, _, r0⟩ := hrd.tab.at1 (f := fun t : Sls Int => t.val) hsr
        simp only [Option.some.injEq, Addr.mk.injEq] at e1
        obtain ⟨rfl, rfl, -⟩ := e1
        rw [Nat.zero_add] at r0
        have hl : rows[s].l = c.tasks.getD s [] := by
          have := rw_len HRD4.out.tsk s
          unfold rwAt at this
          rw [getD_at rows s hsr] at this
          exact this
        have hrow := HRD4.out.row rows[s] (List.getElem_mem hsr)
        have hl12 := HOK.out.t12 s
        have hnext := preT_next c.tasks hst
        have htk := HOK.out.tk s
        rw [← hl] at hl12 hnext htk
        obtain ⟨rw1, hrw⟩ : ∃ r, r = rows[s] := ⟨_, rfl⟩
        rw [← hrw] at r0 hl hrow hl12 hnext htk
        obtain ⟨sA, sc, sl⟩ := rw1
        simp only at r0 hl hrow hl12 hnext htk
        have hstep : ∀ i (hi : i < sl.length), preT c.tasks s (i + 1) = preT c.tasks s i ++ [sl[i]] := fun i hi => by
          have := preT_step c.tasks (s := s) (i := i) (by rw [← hl]; exact hi)
          simp only [← hl] at this
          exact this
        obtain ⟨n, hn⟩ : ∃ n, n = sl.length := ⟨_, rfl⟩
        have hpl : ∀ i, (preT c.tasks s i).length ≤ 12 * (s + 1) := fun i => preT_len HOK.out.t12
        have HNEXT := Lib.hid hnext
        have HTK := Lib.hid htk
        have HSTEP := Lib.hid hstep
        have HROW := Lib.hid hrow
        have HB := Lib.hid hb
        have HO := Lib.hid ho
        have HPL := Lib.hid hpl
        have HN := Lib.hid hn
        rw [← hn] at hl12
        replace r0 : wr.cell? ⟨gt, s, none⟩ = some (.slice sA n sc) := by rw [hn]; exact r0
        clear hl hnext htk hstep hrow hb ho hrd hrw hpl hn
        go_wp2_with fail
        go_loopw [52] (fun s52 wq => ∃ i : Nat, i ≤ n ∧ s52 = .int .i64 i ∧ Below Y w3 wq ∧ Own wq Y 3 1 icell (some ⟨Y, 0, none⟩) W (cntL W (preT c.tasks s i))) (fun s52 _ => n - (intOf s52).toNat)
        case atStart => exact ⟨0, Nat.zero_le _, rfl, HB.out, HO.out⟩
        case round =>
          clear HB HO r0
          rename World => wq
          obtain ⟨i, hi, rfl, hb, ho⟩ := hrel
          by_cases hin : i < n
          · have hil : i < sl.length := by rw [← HN.out]; exact hin
            have hbw := HB4.out.trans (hb.mono (by rw [HY.out]; exact HB4.out.size))
            obtain ⟨bx, ox, hsA, _, x0⟩ := (HROW.out.below hb (by rw [HY.out]; exact Nat.le_refl _)).els.at1 (f := fun x : Int => .int .i64 x) hil
            obtain ⟨q, hq, hqW, hbit, hmay⟩ := HTK.out _ (List.getElem_mem hil)
            have hst2 := HSTEP.out i hil
            rw [hq] at x0 hst2
            have hqw : q < W := by rw [← HW.out]; exact hqW
            have hd1 : decide ((q : Int) < 0) = false := decide_eq_false (by omega)
            have hd2 : decide ((W : Int) ≤ (q : Int)) = false := decide_eq_false (by omega)
            have hd3 : decide (W ≤ q) = false := decide_eq_false (by omega)
            obtain ⟨bw, ow, hAw, _, g0, g1⟩ := (HWS.out.below hbw).at2 (f := fun a : Wk => .int .i64 a.1) (g := fun a : Wk => .int .u32 (wN a.2)) hqW
            have hss : s < svs.length := by rw [HM.out]; exact hsm
            obtain ⟨bs, os, hBs, _, t0⟩ := (HTS.out.below hbw).at1 (f := fun x : BitVec 32 => .int .u32 (wN x)) hss
            rw [← getD_at ws q hqW (0, w0)] at g0 g1
            rw [← getD_at svs s hss w0] at t0
            have e1 : ws.getD q (0, w0) = wk ws q := rfl
            have e2 : svs.getD s w0 = lw svs s := rfl
            rw [e1] at g0 g1
            rw [e2] at t0
            obtain ⟨kk, hkk⟩ : ∃ kk, kk = wk ws q := ⟨_, rfl⟩
            obtain ⟨tt, htt⟩ : ∃ tt, tt = lw svs s := ⟨_, rfl⟩
            rw [← hkk] at g0 g1 hmay
            rw [← htt] at t0 hmay
            have d1 := (HK3.out.below hb (by rw [HY.out]; exact HK3.out.lt)).cell 1
            have HBIT := Lib.hid (Bit_any c.inn q wq.drew)
            rw [hbit] at HBIT
            have HMAYQ := Lib.hid (ref_May kk tt wq.drew)
            rw [hmay] at HMAYQ
            have hcnt := cntL_at (W := W) (preT c.tasks s i) hqw
            have hcs := cntL_step (W := W) (preT c.tasks s i) hqw
            rw [← hst2] at hcs
            have hcl : (preT c.tasks s i).count (q : Int) ≤ 168 := Nat.le_trans List.count_le_length (by have := HPL.out i; omega)
            obtain ⟨v, hv⟩ : ∃ v, v = (cntL W (preT c.tasks s i)).getD q 0 := ⟨_, rfl⟩
            rw [← hv] at hcnt hcs
            have hwv : IntKind.i64.wrap (v + 1) = v + 1 := IntWalk.i64_in _ (by omega)
            have HCS := Lib.hid hcs
            have HV := Lib.hid hv
            have HB := Lib.hid hb
            have HO := Lib.hid ho
            have hYz : Y ≤ wq.heap.size := by have := hb.size; rw [HY.out]; exact this
            subst hsA hAw hBs
            clear e1 e2 hkk htt hbit hmay hcs hv hb ho hbw hst2 hq hcl hcnt
            go_wp2_with fail
            refine region_plain 24 27 (fun w' => w' = wq.drew) (by kernel_rfl) rfl ?_
            refine anyC_reads (by kernel_rfl) [0, 1, 2, 3, 4, 5, 6, 7, 8, 9, 10, 11] ?opa ?oha 15 _ _ _ (by kernel_rfl) ?oka
            case oha => (simp only [List.filterMap_cons, List.filterMap_nil, List.getElem?_toArray, List.getElem?_cons_zero, List.getElem?_cons_succ]; try rfl)
            repeat (
              refine readC_step (v := ?_) rfl (fun w' hw' => ?_) ?_
              rotate_left
              focus (subst hw'; go_simp; try with_reducible rfl)
              go_simp)
            refine readC_nil ?_
            refine anyC_one (i := 12) (by kernel_rfl) rfl rfl (.inr rfl) ?_
            go_simp
            refine HBIT.out.mono ?_
            rintro e wz ⟨rfl, rfl⟩
            refine anyC_reads (by kernel_rfl) [13, 14, 15, 16, 17, 18, 19, 20, 21, 22, 23] ?opb ?ohb 3 _ _ _ (by kernel_rfl) ?okb
            case ohb => (simp only [List.filterMap_cons, List.filterMap_nil, List.getElem?_toArray, List.getElem?_cons_zero, List.getElem?_cons_succ]; try rfl)
            repeat (
              refine readC_step (v := ?_) rfl (fun w' hw' => ?_) ?_
              rotate_left
              focus (subst hw'; go_simp; try with_reducible rfl)
              go_simp)
            refine readC_nil ?_
            refine anyC_one (i := 24) (by kernel_rfl) rfl rfl (.inr rfl) ?_
            go_simp
            refine HMAYQ.out.mono ?_
            rintro e w6 ⟨rfl, hb6⟩
            have hb6' := HB.out.drew.trans (hb6.mono hYz)
            have ho6 := HO.out.drew.below hb6 (Nat.le_refl _)
            have hz6 := hb6.size
            obtain ⟨Y', hY', hYl, _, m0, mf⟩ := ho6.cell1 (k := q) (by rw [cntL_len]; exact hqw)
            have : Y = Y' := by simpa using hY'
            subst this
            rw [← getD_at _ q (by rw [cntL_len]; exact hqw) 0, ← HV.out] at m0
            have hput := ho6.put1 (k := q) (x := v + 1) (by rw [cntL_len]; exact hqw)
            rw [← HCS.out] at hput
            have HPUT := Lib.hid hput
            have HB6 := Lib.hid (hb6'.setCell (p := ⟨Y, q, none⟩) (Nat.le_refl _) (.int .i64 (v + 1)))
            clear hb6 hb6' ho6 hput
            refine anyC_one (i := 25) (by kernel_rfl) rfl rfl (.inl rfl) ?_
            go_simp
            refine anyC_one (i := 26) (by kernel_rfl) rfl rfl (.inl rfl) ?_
            go_simp
            refine anyC_end (by kernel_rfl) (.inl rfl) ?_
            go_wp2_with fail
            go_roundw
            case rel => exact ⟨i + 1, by omega, by go_num, HB6.out, HPUT.out⟩
            case measure => simp [intOf]; omega
          · obtain rfl : i = n := by omega
            have HB := Lib.hid hb
            have ho' : Own wq Y 3 1 icell (some ⟨Y, 0, none⟩) W (cntL W (preT c.tasks (s + 1) 0)) := by
              rw [← HNEXT.out, ← HN.out]
              exact ho
            have HO := Lib.hid ho'
            clear hb ho ho'
            go_wp2_with fail
            go_roundw
            case rel => exact ⟨s + 1, by omega, by go_num, HB.out, HO.out⟩
            case measure => simp [intOf]; omega
      · obtain rfl : s = m := by omega
        have hsl : s = c.tasks.length := by rw [← HRD4.out.tsk, List.length_map]; exact HRD4.out.rl.symm
        have hall : preT c.tasks s 0 = c.tasks.flatten := by rw [hsl]; exact preT_all _
        rw [hall] at ho
        have HB := Lib.hid hb
        have HO := Lib.hid ho
        clear hb ho hrd hall hsl
        go_wp2_with fail
        go_loopw [95] (fun s95 wq => ∃ j : Nat, j ≤ W ∧ s95 = .int .i64 j ∧ Below Y w3 wq ∧ Own wq Y 3 1 icell (some ⟨Y, 0, none⟩) W (cntL W c.tasks.flatten)) (fun s95 _ => W - (intOf s95).toNat)
        case atStart => exact ⟨0, Nat.zero_le _, rfl, HB.out, HO.out⟩
        case round =>
          clear HB HO
          rename World => wq
          obtain ⟨j, hj, rfl, hb, ho⟩ := hrel
          have hYz : Y ≤ wq.heap.size := by have := hb.size; rw [HY.out]; exact this
          have hbw := HB4.out.trans (hb.mono (by rw [HY.out]; exact HB4.out.size))
          by_cases hjW : j < W
          · have hjl : j < ws.length := by rw [HW.out]; exact hjW
            obtain ⟨bw, ow, hAw, hbw2, g0, g1⟩ := (HWS.out.below hbw).at2 (f := fun a : Wk => .int .i64 a.1) (g := fun a : Wk => .int .u32 (wN a.2)) hjl
            rw [← getD_at ws j hjl (0, w0)] at g0 g1
            have e1 : ws.getD j (0, w0) = wk ws j := rfl
            rw [e1] at g0 g1
            have hcnt := HOK.out.cnt j
            have hca := cntL_at (W := W) c.tasks.flatten hjW
            obtain ⟨kk, hkk⟩ : ∃ kk, kk = wk ws j := ⟨_, rfl⟩
            rw [← hkk] at g0 g1 hcnt
            obtain ⟨Z, hZ⟩ : ∃ Z, Z = wq.heap.size := ⟨_, rfl⟩
            have hzk := Blk.new wq 39 #[.int .i64 kk.1, .int .u32 (wN kk.2)]
            have z0 := hzk.cell 0
            have ho2 := ho.alloc (.cells #[.int .i64 kk.1, .int .u32 (wN kk.2)] 39)
            obtain ⟨Y', hY', _, _, m0, _⟩ := ho2.cell1 (k := j) (by rw [cntL_len]; exact hjW)
            have : Y = Y' := by simpa using hY'
            subst this
            rw [← getD_at _ j (by rw [cntL_len]; exact hjW) 0] at m0
            obtain ⟨v, hv⟩ : ∃ v, v = (cntL W c.tasks.flatten).getD j 0 := ⟨_, rfl⟩
            rw [← hv] at m0 hca
            have hd : decide (kk.1 < v) = false := decide_eq_false (by omega)
            have HB := Lib.hid (hb.alloc hYz (.cells #[.int .i64 kk.1, .int .u32 (wN kk.2)] 39))
            have HO := Lib.hid ho2
            subst hAw
            clear e1 hkk hv hb ho ho2 hzk hbw hcnt hca
            go_wp2_with fail
            go_quiet (fail)
            go_wp2_with fail
            go_roundw
            case rel => exact ⟨j + 1, by omega, by go_num, below_drewN HB.out _, HO.out.drewN _⟩
            case measure => simp [intOf]; omega
          · obtain rfl : j = W := by omega
            have HBF := Lib.hid hbw
            have hkq := HK3.out.below hb (by rw [HY.out]; exact HK3.out.lt)
            have d0 := hkq.cell 0
            have d1 := hkq.cell 1
            have d2 := hkq.cell 2
            have d3 := hkq.cell 3
            have hrq := HRD4.out.below hb (by rw [HY.out]; exact Nat.le_refl _)
            have HRQ := Lib.hid hrq
            clear hb ho hbw hkq hrq
            by_cases hL0 : L = 0
            · have hl0 : ((L : Int) == 0) = true := by simp [hL0]
              clear hL0
              go_wp2_with fail
              go_ret
              exact ⟨ret_bool rfl, HBF.out⟩
            · have hl0 : ((L : Int) == 0) = false := by simp [hL0]
              have hLl : L - 1 < script.length := by rw [HL.out]; omega
              obtain ⟨bc, oc, hCc, -, q0, -, -⟩ := (HCS.out.below HBF.out).at3 (f := fun x : Chg => .int .i64 x.1) (g := fun x : Chg => .int .i64 x.2.1) (p := fun x : Chg => .int .i64 x.2.2) hLl
              obtain ⟨x, hx⟩ : ∃ x, x = script[L - 1] := ⟨_, rfl⟩
              rw [← hx] at q0
              have hsp : script = script.take (L - 1) ++ [x] := by
                rw [hx]
                conv => lhs; rw [← List.take_of_length_le (l := script) (i := L - 1 + 1) (by rw [HL.out]; omega), List.take_succ_eq_append_getElem hLl]
              have HTK := Lib.hid (HTICK.out x _ hsp)
              have hw1 : IntKind.i64.wrap ((L : Int) - 1) = ((L - 1 : Nat) : Int) := by rw [IntWalk.i64_in _ (by omega)]; omega
              have hw2 : (L : Int) - 1 = ((L - 1 : Nat) : Int) := by omega
              have hL1 : L - 1 < L := by omega
              obtain ⟨L1, hL1e⟩ : ∃ L1, L1 = L - 1 := ⟨_, rfl⟩
              rw [← hL1e] at q0 hw1 hw2 hL1
              obtain ⟨K, hK⟩ : ∃ K, K = x.1 := ⟨_, rfl⟩
              rw [← hK] at q0 HTK
              subst hCc
              clear hsp hx hK hL0 hL1e hLl
              by_cases hK4 : K = 4
              · have hk4 : (K != 4) = false := by simp [hK4]
                have HWN := Lib.hid (top_wanted Ac L kc s gw gt rows c wq hm12 HRQ.out HOK.out.t12 HOK.out.w0 (HTK.out hK4))
                clear hK4
                go_wp2_with fail
                refine HWN.out.mono ?_
                rintro e w9 ⟨rfl, hb9⟩
                go_wp2_with fail
                go_ret
                exact ⟨ret_bool rfl, HBF.out.trans (hb9.mono HBF.out.size)⟩
              · have hk4 : (K != 4) = true := by simp [hK4]
                clear hK4
                go_wp2_with fail
                go_ret
                exact ⟨ret_bool rfl, HBF.out⟩
  · have HPLAY := Lib.hid (crew_Play_bad A B C W cA m cB L cC ws w hW hWm hmm hLm hws he)
    have HMAY := Lib.hid (fun (v : World) (hb : Below w.heap.size w v) => top_may A B C W cA m cB L cC ws v hW hWm hmm hLm ((hws.below hb).more hb.size))
    have h1 : (playE ws m L == 0) = false := by simpa using he
    have h2 : (playE ws m L != 0) = true := by simpa using he
    rw [h1] at HMAY
    generalize playE ws m L = x at HPLAY h1 h2 he
    clear he hws hts hcs hW hM hL
    go_enter Try.func3, Try.ntmps3
    go_wp2_with fail
    refine HPLAY.out.mono ?_
    clear HPLAY
    rintro e w1 ⟨rfl, hb1⟩
    have hb2 := hb1.alloc hb1.size (.cells #[.slice none 0 0, .int .u32 0, .slice none 0 0, .slice none 0 0] 30)
    obtain ⟨V, hV⟩ : ∃ V, V = w1.alloc (.cells #[.slice none 0 0, .int .u32 0, .slice none 0 0, .slice none 0 0] 30) := ⟨_, rfl⟩
    rw [← hV] at hb2
    have HB2 := Lib.hid hb2
    have HV := Lib.hid hV
    clear hb1 hb2 hV
    go_wp2_with fail
    rw [← HV.out]
    refine (HMAY.out V HB2.out).mono ?_
    rintro e w2 ⟨rfl, hb3⟩
    go_wp2_with fail
    go_ret
    exact ⟨ret_bool rfl, HB2.out.trans (hb3.mono HB2.out.size)⟩
theorem TopRoom_row (s : Sls (Int × Int)) (t : Sls Int) (u : Sls Chg) (w : World) (h : s.Good w w.heap.size 2 (fun p => [.int .i64 p.1, .int .u32 p.2]) (fun p => OkI p.1 ∧ OkU p.2)) (ht : t.Good w w.heap.size 1 (fun p => [.int .u32 p]) OkU) (hu : u.Good w w.heap.size 3 chcell (fun p => OkI p.1 ∧ OkI p.2.1 ∧ OkI p.2.2)) :
    Calls Try.prog 3 #[s.val, t.val, u.val] w fun e w' => e = .returned (.bool true) ∧ Below w.heap.size w w' :=
  law_TopRoom s.A t.A u.A s.l.length s.c t.l.length t.c u.l.length u.c (s.l.map fun p => (p.1, wordOf p.2)) (t.l.map wordOf) u.l w (by simp) (by simp) rfl h.1 ht.1 hu.1
    (h.2.2.1.map_ _ fun a ha => by rw [wkcell, wN_wordOf (h.2.2.2 a ha).2.1 (h.2.2.2 a ha).2.2])
    (ht.2.2.1.map_ _ fun a ha => by rw [wcell, wN_wordOf (ht.2.2.2 a ha).1 (ht.2.2.2 a ha).2]) hu.2.2.1
end Go.Proofs.Ytdinknpagklkjaa

/- The statement TopStill: its law's walk. Conditions: workers, services and changes read as lists; the changes take no more memory than there is. -/
namespace Go.Proofs.Ytdinknpagklkjaa
open Go.RowKit
attribute [local go_sem] Oper.semAt_some

abbrev chzero : Value := .agg #[.int .i64 0, .int .i64 0, .int .i64 0]
theorem tick_twice (ws : List Wk) (svs : List (BitVec 32)) (l : List Chg) (x : Chg) (hx : x.1 = 4) : (playF ws svs (l ++ [x])).inn = (playF ws svs (l ++ [x] ++ [x])).inn ∧ (playF ws svs (l ++ [x])).wants = (playF ws svs (l ++ [x] ++ [x])).wants ∧ (playF ws svs (l ++ [x])).tasks = (playF ws svs (l ++ [x] ++ [x])).tasks := by
  rw [playF_snoc ws svs (l ++ [x]) x, playF_snoc ws svs l x]
  generalize playF ws svs l = c
  have : ∀ c : Cw, stepF ws svs c x = { c with tasks := tickF ws svs c.inn c.wants, codes := c.codes ++ [0] } := fun c => by
    unfold stepF chgF
    rw [if_neg (by omega), if_pos hx]
  rw [this, this]
  exact ⟨rfl, rfl, rfl⟩
theorem playE_more {ws : List Wk} {m L : Nat} (h : playE ws m (L + 1) = 0) : playE ws m L = 0 := by
  obtain ⟨h1, h2⟩ := play_iff.1 h
  exact play_iff.2 ⟨h1, by omega⟩
/-- What Play answers, be it what it may. -/
theorem crew_Play_any (A B C : Option Addr) (W cA m cB L cC : Nat) (ws : List Wk) (svs : List (BitVec 32)) (script : List Chg) (w : World) (hW : ws.length = W) (hM : svs.length = m) (hL : script.length = L) (hWm : W ≤ maxLen) (hmm : m ≤ maxLen) (hLm : L ≤ maxLen) (hws : Els w w.heap.size 2 wkcell A ws) (hts : Els w w.heap.size 1 wcell B svs) (hcs : Els w w.heap.size 3 chcell C script) :
    Calls Try.prog 12 #[.slice A W cA, .slice B m cB, .slice C L cC] w fun e w' => ∃ (A0 A1 A2 : Option Addr) (n0 c0 n1 c1 n2 c2 : Nat) (x : Int), e = .returned (.tuple #[.agg #[.slice A0 n0 c0, .int .u32 x, .slice A1 n1 c1, .slice A2 n2 c2], .int .i64 (playE ws m L)]) ∧ Below w.heap.size w w' := by
  by_cases he : playE ws m L = 0
  · refine (crew_Play A B C W cA m cB L cC ws svs script w hW hM hL hws hts hcs he).mono ?_
    rintro e w' ⟨hb, P, gw, gt, Ac, kc, rows, _, rfl⟩
    exact ⟨_, _, _, _, _, _, _, _, _, _, by rw [he], hb⟩
  · refine (crew_Play_bad A B C W cA m cB L cC ws w hW hWm hmm hLm hws he).mono ?_
    rintro e w' ⟨rfl, hb⟩
    exact ⟨_, _, _, _, _, _, _, _, _, _, rfl, hb⟩
set_option maxRecDepth 100000 in
set_option maxHeartbeats 2000000 in
theorem law_TopStill (A B C : Option Addr) (W cA m cB L cC : Nat) (ws : List Wk) (svs : List (BitVec 32)) (script : List Chg) (w : World) (hW : ws.length = W) (hM : svs.length = m) (hL : script.length = L) (hWm : W ≤ maxLen) (hmm : m ≤ maxLen) (hLb : L * 24 ≤ 140737488351232) (hws : Els w w.heap.size 2 wkcell A ws) (hts : Els w w.heap.size 1 wcell B svs) (hcs : Els w w.heap.size 3 chcell C script) :
    Calls Try.prog 4 #[.slice A W cA, .slice B m cB, .slice C L cC] w fun e w' => e = .returned (.bool true) ∧ Below w.heap.size w w' := by
  obtain ⟨S, hS⟩ : ∃ S, S = w.heap.size := ⟨_, rfl⟩
  rw [← hS] at hws hts hcs ⊢
  have HS := Lib.hid hS
  have HW := Lib.hid hW
  have HM := Lib.hid hM
  have HL := Lib.hid hL
  have HWS := Lib.hid hws
  have HTS := Lib.hid hts
  have HCS := Lib.hid hcs
  have hE0 := Own.empty w 41 3 chcell (fun _ => rfl)
  have hb0 := (Below.refl S w).alloc (by omega) (.cells #[] 41)
  have hz0 : (w.alloc (.cells #[] 41)).heap.size = S + 1 := by rw [size_alloc', hS]
  obtain ⟨V0, hV0⟩ : ∃ V0, V0 = w.alloc (.cells #[] 41) := ⟨_, rfl⟩
  rw [← hV0] at hE0 hb0 hz0
  rw [← hS] at hE0
  have HE0 := Lib.hid hE0
  have HB0 := Lib.hid hb0
  have HV0 := Lib.hid hV0
  have hS2 : w.heap.size = S := hS.symm
  have hLl : script.length = L := hL
  clear hS hW hM hL hws hts hcs hE0 hb0
  go_enter Try.func4, Try.ntmps4
  go_wp2_with (first
    | (at_builtin; (refine wpList_append_els rfl _ _ _ rfl S 3 41 chzero 24 Try.underlying24 (by kernel_rfl) rfl (by omega) chcell _ (some ⟨S, 0, none⟩) 0 0 [] rfl rfl (by rw [← hV0]; exact HE0.out) _ L cC script HL.out rfl _ (HCS.out.below (by rw [← hV0]; exact HB0.out)) (one_flat (fun a u hu => by simp at hu; rcases hu with rfl | rfl | rfl <;> rfl) _) (by unfold maxLen; omega) (by omega) (by rw [← hV0, hz0]; omega) ?_; intro A1 cap1 w1 hown1 hgrow1 hloc1; rw [List.nil_append] at hown1; have hz1 : S + 1 ≤ w1.heap.size := by (have := hgrow1.size; rw [← hV0, hz0] at this; exact this)))
    | (at_builtin; (refine wpList_push rfl _ _ _ rfl S 3 41 chzero 24 Try.underlying24 (by kernel_rfl) rfl (by omega) chcell w1 #[.int .i64 4, .int .i64 0, .int .i64 0] A1 L cap1 script HL.out rfl hown1 1 [((4 : Int), (0 : Int), (0 : Int))] rfl rfl _ rfl rfl (by simp [Value.oneCell']) (by unfold maxLen; omega) (by omega) (by omega) ?_; intro A2 cap2 w2 hown2 hgrow2 hloc2; have hz2 : S + 1 ≤ w2.heap.size := Nat.le_trans hz1 (Nat.le_trans (Nat.le_succ _) (Nat.le_trans (Nat.le_of_eq (size_alloc' _ _).symm) hgrow2.size)); have ho22 := hown2.alloc (.cells #[] 41)))
    | (at_builtin; (refine wpList_append_els rfl _ _ _ rfl S 3 41 chzero 24 Try.underlying24 (by kernel_rfl) rfl (by omega) chcell _ (some ⟨w2.heap.size, 0, none⟩) 0 0 [] rfl rfl ((Own.empty w2 41 3 chcell (fun _ => rfl)).weaken (by omega)) _ (L + 1) cap2 (script ++ [((4 : Int), (0 : Int), (0 : Int))]) (by rw [List.length_append, HL.out]; rfl) rfl _ ho22.els (one_flat (fun a u hu => by simp at hu; rcases hu with rfl | rfl | rfl <;> rfl) _) (by unfold maxLen; omega) (by omega) (by rw [size_alloc']; omega) ?_; intro A3 cap3 w3 hown3 hgrow3 hloc3; rw [List.nil_append] at hown3; have hz3 : S + 1 ≤ w3.heap.size := Nat.le_trans hz2 (Nat.le_trans (Nat.le_succ _) (Nat.le_trans (Nat.le_of_eq (size_alloc' _ _).symm) hgrow3.size))))
    | (at_builtin; (refine wpList_push rfl _ _ _ rfl S 3 41 chzero 24 Try.underlying24 (by kernel_rfl) rfl (by omega) chcell w3 #[.int .i64 4, .int .i64 0, .int .i64 0] A3 (L + 1) cap3 (script ++ [((4 : Int), (0 : Int), (0 : Int))]) (by rw [List.length_append, HL.out]; rfl) rfl hown3 1 [((4 : Int), (0 : Int), (0 : Int))] rfl rfl _ rfl rfl (by simp [Value.oneCell']) (by unfold maxLen; omega) (by omega) (by omega) ?_; intro A4 cap4 w4 hown4 hgrow4 hloc4)))
  have hS1 : S + 1 ≤ (w.alloc (.cells #[] 41)).heap.size := by rw [← hV0, hz0]; exact Nat.le_refl _
  have hb01 : Below S w w1 := (HB0.out).grown (by rw [hV0]; exact hgrow1) (by omega) (fun g hg => by
    have : S = g := by simpa [blkOf] using hg
    omega)
  have hb02 : Below S w w2 := (hb01.alloc (by omega) _).grown hgrow2 (by rw [size_alloc']; omega) (fun g hg => (hown1.lt g hg).1)
  have hb23 : Below w2.heap.size w2 w3 := ((Below.refl w2.heap.size w2).alloc (Nat.le_refl _) (.cells #[] 41)).grown hgrow3 (by rw [size_alloc']; omega) (fun g hg => by
    have : w2.heap.size = g := by simpa [blkOf] using hg
    omega)
  have h3g : ∀ g, blkOf A3 = some g → w2.heap.size ≤ g := fun g hg => by
    rcases hloc3 with h | h
    · rw [hg] at h
      have : g = w2.heap.size := by simpa [blkOf] using h
      omega
    · rw [hg, size_alloc'] at h
      have : g = w2.heap.size + 1 := by simpa using h
      omega
  have hb24 : Below w2.heap.size w2 w4 := (hb23.alloc (Nat.le_trans hb23.size (Nat.le_refl _)) _).grown hgrow4 (by rw [size_alloc']; have := hb23.size; omega) h3g
  have hb04 : Below S w w4 := hb02.trans (hb24.mono (by omega))
  have hone : Els w4 w4.heap.size 3 chcell A2 (script ++ [((4 : Int), (0 : Int), (0 : Int))]) := (hown2.els.below hb24).more hb24.size
  have htwo : Els w4 w4.heap.size 3 chcell A4 (script ++ [((4 : Int), (0 : Int), (0 : Int))] ++ [((4 : Int), (0 : Int), (0 : Int))]) := hown4.els
  obtain ⟨one, hone'⟩ : ∃ l, l = script ++ [((4 : Int), (0 : Int), (0 : Int))] := ⟨_, rfl⟩
  obtain ⟨two, htwo'⟩ : ∃ l, l = script ++ [((4 : Int), (0 : Int), (0 : Int))] ++ [((4 : Int), (0 : Int), (0 : Int))] := ⟨_, rfl⟩
  rw [← htwo'] at htwo
  rw [← hone'] at hone
  have hl1 : one.length = L + 1 := by rw [hone', List.length_append, HL.out]; rfl
  have hl2 : two.length = L + 1 + 1 := by rw [htwo', List.length_append, List.length_append, HL.out]; rfl
  have htt := tick_twice ws svs script ((4 : Int), (0 : Int), (0 : Int)) rfl
  rw [← htwo', ← hone'] at htt
  have HB4 := Lib.hid hb04
  have HONE := Lib.hid hone
  have HTWO := Lib.hid htwo
  have HL1 := Lib.hid hl1
  have HL2 := Lib.hid hl2
  have HTT := Lib.hid htt
  have hm1 : L + 1 ≤ maxLen := by unfold maxLen; omega
  have hm2 : L + 1 + 1 ≤ maxLen := by unfold maxLen; omega
  have hS4 : S ≤ w4.heap.size := by have := hb04.size; rw [hS2] at this; exact this
  clear hS1 hb01 hb02 hb23 h3g hb24 hb04 hone htwo hone' htwo' hl1 hl2 htt hown1 hown2 hown3 hown4 hgrow1 hgrow2 hgrow3 hgrow4 hloc1 hloc2 hloc3 hloc4 ho22 hz1 hz2 hz3 HE0 HB0 HV0 hV0 hz0 hLl HCS
  have hwsA : ∀ v, Below S w v → S ≤ v.heap.size → Els v v.heap.size 2 wkcell A ws := fun v hb hz => (HWS.out.below hb).more hz
  have htsA : ∀ v, Below S w v → S ≤ v.heap.size → Els v v.heap.size 1 wcell B svs := fun v hb hz => (HTS.out.below hb).more hz
  have HWSA := Lib.hid hwsA
  have HTSA := Lib.hid htsA
  clear hwsA htsA
  have HMAY := Lib.hid (fun (v : World) (hb : Below S w v) (hz : S ≤ v.heap.size) => top_may A B A4 W cA m cB (L + 1 + 1) cap4 ws v HW.out hWm hmm hm2 (HWSA.out v hb hz))
  by_cases he2 : playE ws m (L + 1 + 1) = 0
  · have he1 := playE_more he2
    obtain ⟨hW6, hm12, hL64, hgood⟩ := play_good he2
    have hokc := CwOk.play (svs := svs) (room_nonneg hgood) one
    have hcd := step_codes ws svs two
    rw [HL2.out] at hcd
    rw [he2] at HMAY
    have HP1 := Lib.hid (crew_Play A B A2 W cA m cB (L + 1) cap2 ws svs one w4 HW.out HM.out HL1.out (HWSA.out w4 HB4.out hS4) (HTSA.out w4 HB4.out hS4) HONE.out he1)
    have HP2 := Lib.hid (fun (v : World) (hb : Below w4.heap.size w4 v) (hb0 : Below S w v) (hz : S ≤ v.heap.size) => crew_Play A B A4 W cA m cB (L + 1 + 1) cap4 ws svs two v HW.out HM.out HL2.out (HWSA.out v hb0 hz) (HTSA.out v hb0 hz) ((HTWO.out.below hb).more hb.size) he2)
    have HTT' := HTT.out
    obtain ⟨c, hc⟩ : ∃ c, c = playF ws svs one := ⟨_, rfl⟩
    obtain ⟨d, hd⟩ : ∃ d, d = playF ws svs two := ⟨_, rfl⟩
    rw [← hc, ← hd] at HTT'
    rw [← hc] at HP1 hokc
    rw [← hd] at HP2 hcd
    have HTT2 := Lib.hid HTT'
    have HOKC := Lib.hid hokc
    have HCD := Lib.hid hcd
    clear he1 he2 hgood hokc hcd hc hd HTT' HTT
    refine HP1.out.mono ?_
    clear HP1
    rintro e w5 ⟨hb5, P, gw, gt, Ac, kc, rows, hcr, rfl⟩
    obtain ⟨Sc, hSc⟩ : ∃ Sc, Sc = w5.heap.size := ⟨_, rfl⟩
    have hrd := hcr.read
    have hk := Blk.new w5 30 #[.slice Ac (L + 1) kc, .int .u32 (wN c.inn), .slice (some ⟨gw, 0, none⟩) m m, .slice (some ⟨gt, 0, none⟩) m m]
    have hbc := (Below.refl Sc w5).alloc (by omega) (.cells #[.slice Ac (L + 1) kc, .int .u32 (wN c.inn), .slice (some ⟨gw, 0, none⟩) m m, .slice (some ⟨gt, 0, none⟩) m m] 30)
    have hz1 : (w5.alloc (.cells #[.slice Ac (L + 1) kc, .int .u32 (wN c.inn), .slice (some ⟨gw, 0, none⟩) m m, .slice (some ⟨gt, 0, none⟩) m m] 30)).heap.size = Sc + 1 := by rw [size_alloc', hSc]
    have hb6 := hb5.alloc hb5.size (.cells #[.slice Ac (L + 1) kc, .int .u32 (wN c.inn), .slice (some ⟨gw, 0, none⟩) m m, .slice (some ⟨gt, 0, none⟩) m m] 30)
    obtain ⟨V1, hV1⟩ : ∃ V, V = w5.alloc (.cells #[.slice Ac (L + 1) kc, .int .u32 (wN c.inn), .slice (some ⟨gw, 0, none⟩) m m, .slice (some ⟨gt, 0, none⟩) m m] 30) := ⟨_, rfl⟩
    rw [← hV1] at hk hbc hz1 hb6
    rw [← hSc] at hk
    have hb0V1 : Below S w V1 := HB4.out.trans (hb6.mono hS4)
    have hSc4 : w4.heap.size ≤ Sc := by rw [hSc]; exact hb5.size
    have HK := Lib.hid hk
    have HBC := Lib.hid hbc
    have HB6 := Lib.hid hb6
    have HB0 := Lib.hid hb0V1
    have HRD := Lib.hid hrd
    have HV1 := Lib.hid hV1
    have HSC := Lib.hid hSc
    clear hb5 hcr hrd hk hbc hb6 hb0V1 hV1 hSc
    go_wp2_with fail
    rw [← HV1.out, ← HSC.out]
    refine (HP2.out V1 HB6.out HB0.out (by omega)).mono ?_
    clear HP2
    rintro e w6 ⟨hb7, P2, gw2, gt2, Ad, kd, rows2, hcr2, rfl⟩
    rw [hz1] at hcr2
    obtain ⟨Sd, hSd⟩ : ∃ Sd, Sd = w6.heap.size := ⟨_, rfl⟩
    have hz6 : Sc + 1 ≤ Sd := by have := hb7.size; omega
    rw [hz1] at hb7
    have hk2 := HK.out.below hb7 (by omega)
    have hkd := Blk.new w6 30 #[.slice Ad (L + 1 + 1) kd, .int .u32 (wN d.inn), .slice (some ⟨gw2, 0, none⟩) m m, .slice (some ⟨gt2, 0, none⟩) m m]
    have hk2a := hk2.alloc (.cells #[.slice Ad (L + 1 + 1) kd, .int .u32 (wN d.inn), .slice (some ⟨gw2, 0, none⟩) m m, .slice (some ⟨gt2, 0, none⟩) m m] 30)
    have hcr2a := hcr2.alloc (.cells #[.slice Ad (L + 1 + 1) kd, .int .u32 (wN d.inn), .slice (some ⟨gw2, 0, none⟩) m m, .slice (some ⟨gt2, 0, none⟩) m m] 30)
    have hbd := (hb7.alloc (by omega) (.cells #[.slice Ad (L + 1 + 1) kd, .int .u32 (wN d.inn), .slice (some ⟨gw2, 0, none⟩) m m, .slice (some ⟨gt2, 0, none⟩) m m] 30))
    obtain ⟨V2, hV2⟩ : ∃ V, V = w6.alloc (.cells #[.slice Ad (L + 1 + 1) kd, .int .u32 (wN d.inn), .slice (some ⟨gw2, 0, none⟩) m m, .slice (some ⟨gt2, 0, none⟩) m m] 30) := ⟨_, rfl⟩
    have hz2 : V2.heap.size = Sd + 1 := by rw [hV2, size_alloc', hSd]
    rw [← hV2] at hkd hk2a hcr2a hbd
    rw [← hSd] at hkd
    have hbcd := HBC.out.trans (hbd.mono (Nat.le_succ Sc))
    have hb0d := HB0.out.trans (hbd.mono (by omega))
    have HK2 := Lib.hid hk2a
    have HKD := Lib.hid hkd
    have HCR2 := Lib.hid hcr2a
    have HBCD := Lib.hid hbcd
    have HB0D := Lib.hid hb0d
    have HV2 := Lib.hid hV2
    have HSD := Lib.hid hSd
    clear hb7 hcr2 hk2 hkd hk2a hcr2a hbd hbcd hb0d hV2 hSd HK HBC HB6 HB0
    go_wp2_with fail
    rw [← HV2.out, ← HSD.out]
    refine (HMAY.out V2 HB0D.out (by omega)).mono ?_
    clear HMAY
    rintro e w7 ⟨rfl, hb8⟩
    rw [hz2] at hb8
    have hk7 := HK2.out.below hb8 (by omega)
    have hkd7 := HKD.out.below hb8 (by omega)
    have hcr7 := HCR2.out.below hb8 (by rw [hz2]; exact Nat.le_refl _)
    have hbc7 := HBCD.out.trans (hb8.mono (by omega))
    have hb07 := HB0D.out.trans (hb8.mono (by omega))
    have a0 := hk7.cell 0
    have a1 := hk7.cell 1
    have a2 := hk7.cell 2
    have a3 := hk7.cell 3
    have HK7 := Lib.hid hk7
    have HKD7 := Lib.hid hkd7
    have HCR7 := Lib.hid hcr7
    have HBC7 := Lib.hid hbc7
    have HB07 := Lib.hid hb07
    have hz7 : Sd + 1 ≤ w7.heap.size := by have := hb8.size; omega
    have HWH1 := Lib.hid (top_whole B A2 Ac (some ⟨gw, 0, none⟩) (some ⟨gt, 0, none⟩) m cB (L + 1) cap2 kc m m (wN c.inn) w7)
    clear hb8 hk7 hkd7 hcr7 hbc7 hb07 HK2 HKD HCR2 HBCD HB0D
    go_wp2_with fail
    refine HWH1.out.mono ?_
    clear HWH1 a0 a1 a2 a3
    rintro e w8 ⟨rfl, hb9⟩
    have hk8 := HK7.out.below hb9 HK7.out.lt
    have hkd8 := HKD7.out.below hb9 HKD7.out.lt
    have hcr8 := HCR7.out.below hb9 (Nat.le_refl _)
    have hbc8 := HBC7.out.trans (hb9.mono (by omega))
    have hb08 := HB07.out.trans (hb9.mono (by omega))
    have a0 := hkd8.cell 0
    have a1 := hkd8.cell 1
    have a2 := hkd8.cell 2
    have a3 := hkd8.cell 3
    have HK8 := Lib.hid hk8
    have HKD8 := Lib.hid hkd8
    have HCR8 := Lib.hid hcr8
    have HBC8 := Lib.hid hbc8
    have HB08 := Lib.hid hb08
    have hz8 : Sd + 1 ≤ w8.heap.size := by have := hb9.size; omega
    have HWH2 := Lib.hid (top_whole B A4 Ad (some ⟨gw2, 0, none⟩) (some ⟨gt2, 0, none⟩) m cB (L + 1 + 1) cap4 kd m m (wN d.inn) w8)
    clear hb9 hk8 hkd8 hcr8 hbc8 hb08 HK7 HKD7 HCR7 HBC7 HB07
    go_wp2_with fail
    refine HWH2.out.mono ?_
    clear HWH2 a0 a1 a2 a3
    rintro e w9 ⟨rfl, hb10⟩
    have hk9 := HK8.out.below hb10 HK8.out.lt
    have hkd9 := HKD8.out.below hb10 HKD8.out.lt
    have hcr9 := HCR8.out.below hb10 (Nat.le_refl _)
    have hbc9 := HBC8.out.trans (hb10.mono (by omega))
    have hb09 := HB08.out.trans (hb10.mono (by omega))
    have hz9 : Sd + 1 ≤ w9.heap.size := by have := hb10.size; omega
    have x0 := hkd9.cell 0
    have y0 := hk9.cell 0
    have yf := hk9.frozen 0
    have hk10 := hk9.put 0 (.slice Ad (L + 1 + 1) kd)
    have hkd10 := hkd9.far (p := ⟨Sc, 0, none⟩) (by show Sd ≠ Sc; omega) (.slice Ad (L + 1 + 1) kd)
    have hcr10 := hcr9.kept (gb_setCell w9 Sc 0 (.slice Ad (L + 1 + 1) kd)) (Nat.lt_succ_self Sc)
    have hbc10 := hbc9.setCell (p := ⟨Sc, 0, none⟩) (Nat.le_refl _) (.slice Ad (L + 1 + 1) kd)
    have hb010 := hb09.setCell (p := ⟨Sc, 0, none⟩) (show S ≤ Sc by omega) (.slice Ad (L + 1 + 1) kd)
    have hz10 : (w9.setCell ⟨Sc, 0, none⟩ (.slice Ad (L + 1 + 1) kd)).heap.size = w9.heap.size := by simp
    obtain ⟨W10, hW10⟩ : ∃ W10, W10 = w9.setCell ⟨Sc, 0, none⟩ (.slice Ad (L + 1 + 1) kd) := ⟨_, rfl⟩
    rw [← hW10] at hk10 hkd10 hcr10 hbc10 hb010 hz10
    have hrd2 := hcr10.read
    have hrd1 := HRD.out.below hbc10 (by rw [HSC.out]; exact Nat.le_refl _)
    obtain ⟨ti, tw, tt⟩ := HTT2.out
    have HCREWS := Lib.hid (Crews_same Ad (L + 1 + 1) kd kd m gw gt gw2 gt2 Ad rows rows2 { c with codes := d.codes } d W10 HCD.out (by omega) hm12 hrd2.cod hrd2.cod ⟨hrd2.cod, hrd1.wnt, hrd1.tab, hrd1.row, hrd1.tsk, hrd1.rl, hrd1.wl⟩ hrd2 ti tw tt (fun s hs => by
      obtain ⟨j, hj, rfl⟩ := List.mem_iff_getElem.1 hs
      have h1 := rw_len hrd1.tsk j
      have h2 : rwAt rows j = rows[j] := getD_at rows j hj _
      rw [h2] at h1
      rw [h1]
      have := HOKC.out.t12 j
      omega))
    have b0 := hk10.cell 0
    have b1 := hk10.cell 1
    have b2 := hk10.cell 2
    have b3 := hk10.cell 3
    have d0 := hkd10.cell 0
    have d1 := hkd10.cell 1
    have d2 := hkd10.cell 2
    have d3 := hkd10.cell 3
    have HB10 := Lib.hid hb010
    have HW10 := Lib.hid hW10
    rw [hW10] at b0 b1 b2 b3 d0 d1 d2 d3
    clear hb10 hk9 hkd9 hcr9 hbc9 hb09 hk10 hkd10 hcr10 hbc10 hb010 hW10 hrd1 hrd2 ti tw tt HK8 HKD8 HCR8 HBC8 HB08
    go_wp2_with fail
    rw [← HW10.out]
    refine HCREWS.out.mono ?_
    clear HCREWS
    rintro e w11 ⟨rfl, hb11⟩
    go_wp2_with fail
    go_ret
    exact ⟨ret_bool rfl, HB10.out.trans (hb11.mono (by rw [hz10]; omega))⟩
  · have HP1 := Lib.hid (crew_Play_any A B A2 W cA m cB (L + 1) cap2 ws svs one w4 HW.out HM.out HL1.out hWm hmm hm1 (HWSA.out w4 HB4.out hS4) (HTSA.out w4 HB4.out hS4) HONE.out)
    have HP2 := Lib.hid (fun (v : World) (hb : Below w4.heap.size w4 v) (hb0 : Below S w v) (hz : S ≤ v.heap.size) => crew_Play_any A B A4 W cA m cB (L + 1 + 1) cap4 ws svs two v HW.out HM.out HL2.out hWm hmm hm2 (HWSA.out v hb0 hz) (HTSA.out v hb0 hz) ((HTWO.out.below hb).more hb.size))
    have h1 : (playE ws m (L + 1 + 1) == 0) = false := by simpa using he2
    have h2 : (playE ws m (L + 1 + 1) != 0) = true := by simpa using he2
    rw [h1] at HMAY
    generalize playE ws m (L + 1 + 1) = x at HP2 h1 h2 he2
    generalize playE ws m (L + 1) = y at HP1
    clear he2 HTT
    refine HP1.out.mono ?_
    clear HP1
    rintro e w5 ⟨B0, B1, B2, n0, k0, n1, k1, n2, k2, xx, rfl, hb5⟩
    have hb6 := hb5.alloc hb5.size (.cells #[.slice B0 n0 k0, .int .u32 xx, .slice B1 n1 k1, .slice B2 n2 k2] 30)
    obtain ⟨V1, hV1⟩ : ∃ V, V = w5.alloc (.cells #[.slice B0 n0 k0, .int .u32 xx, .slice B1 n1 k1, .slice B2 n2 k2] 30) := ⟨_, rfl⟩
    rw [← hV1] at hb6
    have hb0V1 : Below S w V1 := HB4.out.trans (hb6.mono hS4)
    have hz1 : S ≤ V1.heap.size := Nat.le_trans hS4 hb6.size
    have HB6 := Lib.hid hb6
    have HB0 := Lib.hid hb0V1
    have HV1 := Lib.hid hV1
    clear hb5 hb6 hb0V1 hV1
    go_wp2_with fail
    rw [← HV1.out]
    refine (HP2.out V1 HB6.out HB0.out hz1).mono ?_
    clear HP2
    rintro e w6 ⟨E0, E1, E2, m0, l0, m1, l1, m2, l2, yy, rfl, hb7⟩
    have hb8 := hb7.alloc hb7.size (.cells #[.slice E0 m0 l0, .int .u32 yy, .slice E1 m1 l1, .slice E2 m2 l2] 30)
    obtain ⟨V2, hV2⟩ : ∃ V, V = w6.alloc (.cells #[.slice E0 m0 l0, .int .u32 yy, .slice E1 m1 l1, .slice E2 m2 l2] 30) := ⟨_, rfl⟩
    rw [← hV2] at hb8
    have HB8 := Lib.hid (HB0.out.trans (hb8.mono hz1))
    have hz2 : S ≤ V2.heap.size := Nat.le_trans hz1 hb8.size
    have HV2 := Lib.hid hV2
    clear hb7 hb8 hV2
    go_wp2_with fail
    rw [← HV2.out]
    refine (HMAY.out V2 HB8.out hz2).mono ?_
    rintro e w7 ⟨rfl, hb9⟩
    go_wp2_with fail
    go_ret
    exact ⟨ret_bool rfl, HB8.out.trans (hb9.mono hz2)⟩
theorem TopStill_row (s : Sls (Int × Int)) (t : Sls Int) (u : Sls Chg) (w : World) (h : s.Good w w.heap.size 2 (fun p => [.int .i64 p.1, .int .u32 p.2]) (fun p => OkI p.1 ∧ OkU p.2)) (ht : t.Good w w.heap.size 1 (fun p => [.int .u32 p]) OkU) (hu : u.Good w w.heap.size 3 chcell (fun p => OkI p.1 ∧ OkI p.2.1 ∧ OkI p.2.2)) (hb : u.l.length * 24 ≤ 140737488351232) :
    Calls Try.prog 4 #[s.val, t.val, u.val] w fun e w' => e = .returned (.bool true) ∧ Below w.heap.size w w' :=
  law_TopStill s.A t.A u.A s.l.length s.c t.l.length t.c u.l.length u.c (s.l.map fun p => (p.1, wordOf p.2)) (t.l.map wordOf) u.l w (by simp) (by simp) rfl h.1 ht.1 hb
    (h.2.2.1.map_ _ fun a ha => by rw [wkcell, wN_wordOf (h.2.2.2 a ha).2.1 (h.2.2.2 a ha).2.2])
    (ht.2.2.1.map_ _ fun a ha => by rw [wcell, wN_wordOf (ht.2.2.2 a ha).1 (ht.2.2.2 a ha).2]) hu.2.2.1
end Go.Proofs.Ytdinknpagklkjaa
