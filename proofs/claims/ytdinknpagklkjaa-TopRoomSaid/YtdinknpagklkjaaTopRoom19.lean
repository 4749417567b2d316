/- The statement TopRoom: its law's walk. Conditions: workers, services and changes read as lists. -/
import Derived.Test.YtdinknpagklkjaaTopRoom18
namespace Go.Proofs.Ytdinknpagklkjaa
open Go.RowKit
attribute [local go_sem ↓] w_and w_or w_xor w_andNot w_and1 w_and255 w_xor1 w_or0 w_shl w_shl1 w_shr w_sub w_add w_sub1 w_add1
attribute [local go_sem] w_eq0 w_ne0 w_eq1 w_eq w_ne
attribute [local go_sem] Oper.semAt_some

theorem room_nonneg {ws : List Wk} (h : ∀ k ∈ ws, 0 ≤ k.1 ∧ k.1 ≤ 12) (q : Nat) : 0 ≤ (wk ws q).1 := by
  rcases Nat.lt_or_ge q ws.length with hq | hq
  · have : wk ws q ∈ ws := by
      unfold wk
      rw [getD_at ws q hq]
      exact List.getElem_mem hq
    exact (h _ this).1
  · unfold wk
    rw [List.getD_eq_getElem?_getD, List.getElem?_eq_none hq]
    exact Int.le_refl _
theorem play_good {ws : List Wk} {m L : Nat} (h : playE ws m L = 0) : ws.length ≤ 6 ∧ m ≤ 12 ∧ L ≤ 64 ∧ ∀ k ∈ ws, 0 ≤ k.1 ∧ k.1 ≤ 12 := by
  obtain ⟨hx, hL⟩ := play_iff.1 h
  unfold placeCheck at hx
  split at hx
  · omega
  · split at hx
    · omega
    · rename_i h1 h2
      refine ⟨by omega, by omega, hL, fun k hk => ?_⟩
      have := List.any_eq_false.1 (by simpa using h2) k hk
      unfold badRoom at this
      simp at this
      omega
set_option maxRecDepth 100000 in
set_option maxHeartbeats 2000000 in
theorem law_TopRoom (A B C : Option Addr) (W cA m cB L cC : Nat) (ws : List Wk) (svs : List (BitVec 32)) (script : List Chg) (w : World) (hW : ws.length = W) (hM : svs.length = m) (hL : script.length = L) (hWm : W ≤ maxLen) (hmm : m ≤ maxLen) (hLm : L ≤ maxLen) (hws : Els w w.heap.size 2 wkcell A ws) (hts : Els w w.heap.size 1 wcell B svs) (hcs : Els w w.heap.size 3 chcell C script) :
    Calls Try.prog 3 #[.slice A W cA, .slice B m cB, .slice C L cC] w fun e w' => e = .returned (.bool true) ∧ Below w.heap.size w w' := by
  by_cases he : playE ws m L = 0
  · obtain ⟨hW6, hm12, hL64, hgood⟩ := play_good he
    rw [hW] at hW6
    have HPLAY := Lib.hid (crew_Play A B C W cA m cB L cC ws svs script w hW hM hL hws hts hcs he)
    have hok := CwOk.play (svs := svs) (room_nonneg hgood) script
    have hcl := step_codes ws svs script
    rw [hL] at hcl
    have HTICK := Lib.hid (fun (x : Chg) (l : List Chg) (hl : script = l ++ [x]) (hx : x.1 = 4) => by
      have := tick_wanted ws svs l x hx
      rw [← hl] at this
      exact this : ∀ (x : Chg) (l : List Chg), script = l ++ [x] → x.1 = 4 → ∀ s, ((playF ws svs script).tasks.getD s []).length ≤ ((playF ws svs script).wants.getD s 0).toNat)
    obtain ⟨c, hc⟩ : ∃ c, c = playF ws svs script := ⟨_, rfl⟩
    rw [← hc] at HPLAY hok hcl HTICK
    have HMAY := Lib.hid (fun (v : World) (hb : Below w.heap.size w v) => top_may A B C W cA m cB L cC ws v hW hWm hmm hLm ((hws.below hb).more hb.size))
    rw [he] at HMAY
    have HOK := Lib.hid hok
    have HCL := Lib.hid hcl
    have HW := Lib.hid hW
    have HM := Lib.hid hM
    have HL := Lib.hid hL
    have HWS := Lib.hid hws
    have HTS := Lib.hid hts
    have HCS := Lib.hid hcs
    clear hok hcl hc hW hM hL hws hts hcs he hgood
    go_enter Try.func3, Try.ntmps3
    go_wp2_with fail
    refine HPLAY.out.mono ?_
    clear HPLAY
    rintro e w1 ⟨hb1, P, gw, gt, Ac, kc, rows, hcr, rfl⟩
    obtain ⟨S2, hS2⟩ : ∃ S, S = w1.heap.size := ⟨_, rfl⟩
    have hrd := hcr.read
    have hk := Blk.new w1 30 #[.slice Ac L kc, .int .u32 (wN c.inn), .slice (some ⟨gw, 0, none⟩) m m, .slice (some ⟨gt, 0, none⟩) m m]
    have hrd2 := hrd.alloc (.cells #[.slice Ac L kc, .int .u32 (wN c.inn), .slice (some ⟨gw, 0, none⟩) m m, .slice (some ⟨gt, 0, none⟩) m m] 30)
    have hb2 := hb1.alloc hb1.size (.cells #[.slice Ac L kc, .int .u32 (wN c.inn), .slice (some ⟨gw, 0, none⟩) m m, .slice (some ⟨gt, 0, none⟩) m m] 30)
    obtain ⟨V, hV⟩ : ∃ V, V = w1.alloc (.cells #[.slice Ac L kc, .int .u32 (wN c.inn), .slice (some ⟨gw, 0, none⟩) m m, .slice (some ⟨gt, 0, none⟩) m m] 30) := ⟨_, rfl⟩
    rw [← hV] at hk hrd2 hb2
    rw [← hS2] at hk
    have HK := Lib.hid hk
    have HRD := Lib.hid hrd2
    have HB2 := Lib.hid hb2
    have HV := Lib.hid hV
    have HS2 := Lib.hid hS2
    clear hb1 hcr hrd hk hrd2 hb2 hV hS2
    go_wp2_with fail
    rw [← HV.out, ← HS2.out]
    refine (HMAY.out V HB2.out).mono ?_
    clear HMAY
    rintro e w2 ⟨rfl, hb3⟩
    have hk2 := HK.out.below hb3 HK.out.lt
    have hrd3 := HRD.out.below hb3 (Nat.le_refl _)
    have hb3' := HB2.out.trans (hb3.mono HB2.out.size)
    have d0 := hk2.cell 0
    have d1 := hk2.cell 1
    have d2 := hk2.cell 2
    have d3 := hk2.cell 3
    have HWHOLE := Lib.hid (top_whole B C Ac (some ⟨gw, 0, none⟩) (some ⟨gt, 0, none⟩) m cB L cC kc m m (wN c.inn) w2)
    have HK2 := Lib.hid hk2
    have HRD3 := Lib.hid hrd3
    have HB3 := Lib.hid hb3'
    clear hk2 hrd3 hb3' hb3
    go_wp2_with fail
    refine HWHOLE.out.mono ?_
    clear HWHOLE d0 d1 d2 d3
    rintro e w3 ⟨rfl, hb4⟩
    have hk3 := HK2.out.below hb4 HK2.out.lt
    have hrd4 := HRD3.out.below hb4 (Nat.le_refl _)
    have hb4' := HB3.out.trans (hb4.mono HB3.out.size)
    obtain ⟨Y, hY⟩ : ∃ Y, Y = w3.heap.size := ⟨_, rfl⟩
    have HK3 := Lib.hid hk3
    have HRD4 := Lib.hid hrd4
    have HB4 := Lib.hid hb4'
    have HY := Lib.hid hY
    clear hk3 hrd4 hb4' hb4 HK HRD HB2 HK2 HRD3 HB3 hY
    go_wp2_with (at_make; go_loud (refine wpList_make1 rfl _ _ _ rfl w3.heap.size 3 8 (fun x => .int .i64 x) 0 Try.underlying27 (by kernel_rfl) rfl w3 .i64 .i64 W rfl rfl (by omega) (by unfold maxLen; omega) (Nat.le_refl _) ?_; intro v4 hown4 hgrow4; have q3 := (HK3.out.grown hgrow4 (by simp)).cell 3))
    have hb5 := (Below.refl w3.heap.size w3).grown hgrow4 (Nat.le_refl _) (by simp)
    rw [← HY.out] at hown4 hb5 ⊢
    have HO5 : Hid (Own v4 Y 3 1 icell (some ⟨Y, 0, none⟩) W (cntL W (preT c.tasks 0 0))) := Lib.hid (by rw [preT_zero, cntL_nil]; exact hown4)
    have HB5 := Lib.hid hb5
    clear hown4 hgrow4 hb5
    go_loopw [45] (fun s45 wr => ∃ s : Nat, s ≤ m ∧ s45 = .int .i64 s ∧ Below Y w3 wr ∧ Own wr Y 3 1 icell (some ⟨Y, 0, none⟩) W (cntL W (preT c.tasks s 0))) (fun s45 _ => m - (intOf s45).toNat)
    case atStart => exact ⟨0, Nat.zero_le _, rfl, HB5.out, HO5.out⟩
    case round =>
      clear HB5 HO5 q3
      rename World => wr
      obtain ⟨s, hs, rfl, hb, ho⟩ := hrel
      have hrd := HRD4.out.below hb (by rw [HY.out]; exact Nat.le_refl _)
      by_cases hsm : s < m
      · have hsr : s < rows.length := by rw [HRD4.out.rl]; exact hsm
        have hst : s < c.tasks.length := by rw [← HRD4.out.tsk, List.length_map]; exact hsr
        obtain ⟨b1, o1, e1, _, r0⟩ := hrd.tab.at1 (f := fun t : Sls Int => t.val) hsr
        simp only [Option.some.injEq, Addr.mk.injEq] at e1
        obtain ⟨rfl, rfl, -⟩ := e1
        rw [Nat.zero_add] at r0
        have hl : rows[s].l = c.tasks.getD s [] := by
          have := rw_len HRD4.out.tsk s
          unfold rwAt at this
          rw [getD_at rows s hsr] at this
          exact this
        have hrow := HRD4.out.row rows[s] (List.getElem_mem hsr)
        have hl12 := HOK.out.t12 s
        have hnext := preT_next c.tasks hst
        have htk := HOK.out.tk s
        rw [← hl] at hl12 hnext htk
        obtain ⟨rw1, hrw⟩ : ∃ r, r = rows[s] := ⟨_, rfl⟩
        rw [← hrw] at r0 hl hrow hl12 hnext htk
        obtain ⟨sA, sc, sl⟩ := rw1
        simp only at r0 hl hrow hl12 hnext htk
        have hstep : ∀ i (hi : i < sl.length), preT c.tasks s (i + 1) = preT c.tasks s i ++ [sl[i]] := fun i hi => by
          have := preT_step c.tasks (s := s) (i := i) (by rw [← hl]; exact hi)
          simp only [← hl] at this
          exact this
        obtain ⟨n, hn⟩ : ∃ n, n = sl.length := ⟨_, rfl⟩
        have hpl : ∀ i, (preT c.tasks s i).length ≤ 12 * (s + 1) := fun i => preT_len HOK.out.t12
        have HNEXT := Lib.hid hnext
        have HTK := Lib.hid htk
        have HSTEP := Lib.hid hstep
        have HROW := Lib.hid hrow
        have HB := Lib.hid hb
        have HO := Lib.hid ho
        have HPL := Lib.hid hpl
        have HN := Lib.hid hn
        rw [← hn] at hl12
        replace r0 : wr.cell? ⟨gt, s, none⟩ = some (.slice sA n sc) := by rw [hn]; exact r0
        clear hl hnext htk hstep hrow hb ho hrd hrw hpl hn
        go_wp2_with fail
        go_loopw [52] (fun s52 wq => ∃ i : Nat, i ≤ n ∧ s52 = .int .i64 i ∧ Below Y w3 wq ∧ Own wq Y 3 1 icell (some ⟨Y, 0, none⟩) W (cntL W (preT c.tasks s i))) (fun s52 _ => n - (intOf s52).toNat)
        case atStart => exact ⟨0, Nat.zero_le _, rfl, HB.out, HO.out⟩
        case round =>
          clear HB HO r0
          rename World => wq
          obtain ⟨i, hi, rfl, hb, ho⟩ := hrel
          by_cases hin : i < n
          · have hil : i < sl.length := by rw [← HN.out]; exact hin
            have hbw := HB4.out.trans (hb.mono (by rw [HY.out]; exact HB4.out.size))
            obtain ⟨bx, ox, hsA, _, x0⟩ := (HROW.out.below hb (by rw [HY.out]; exact Nat.le_refl _)).els.at1 (f := fun x : Int => .int .i64 x) hil
            obtain ⟨q, hq, hqW, hbit, hmay⟩ := HTK.out _ (List.getElem_mem hil)
            have hst2 := HSTEP.out i hil
            rw [hq] at x0 hst2
            have hqw : q < W := by rw [← HW.out]; exact hqW
            have hd1 : decide ((q : Int) < 0) = false := decide_eq_false (by omega)
            have hd2 : decide ((W : Int) ≤ (q : Int)) = false := decide_eq_false (by omega)
            have hd3 : decide (W ≤ q) = false := decide_eq_false (by omega)
            obtain ⟨bw, ow, hAw, _, g0, g1⟩ := (HWS.out.below hbw).at2 (f := fun a : Wk => .int .i64 a.1) (g := fun a : Wk => .int .u32 (wN a.2)) hqW
            have hss : s < svs.length := by rw [HM.out]; exact hsm
            obtain ⟨bs, os, hBs, _, t0⟩ := (HTS.out.below hbw).at1 (f := fun x : BitVec 32 => .int .u32 (wN x)) hss
            rw [← getD_at ws q hqW (0, w0)] at g0 g1
            rw [← getD_at svs s hss w0] at t0
            have e1 : ws.getD q (0, w0) = wk ws q := rfl
            have e2 : svs.getD s w0 = lw svs s := rfl
            rw [e1] at g0 g1
            rw [e2] at t0
            obtain ⟨kk, hkk⟩ : ∃ kk, kk = wk ws q := ⟨_, rfl⟩
            obtain ⟨tt, htt⟩ : ∃ tt, tt = lw svs s := ⟨_, rfl⟩
            rw [← hkk] at g0 g1 hmay
            rw [← htt] at t0 hmay
            have d1 := (HK3.out.below hb (by rw [HY.out]; exact HK3.out.lt)).cell 1
            have HBIT := Lib.hid (Bit_any c.inn q wq.drew)
            rw [hbit] at HBIT
            have HMAYQ := Lib.hid (ref_May kk tt wq.drew)
            rw [hmay] at HMAYQ
            have hcnt := cntL_at (W := W) (preT c.tasks s i) hqw
            have hcs := cntL_step (W := W) (preT c.tasks s i) hqw
            rw [← hst2] at hcs
            have hcl : (preT c.tasks s i).count (q : Int) ≤ 168 := Nat.le_trans List.count_le_length (by have := HPL.out i; omega)
            obtain ⟨v, hv⟩ : ∃ v, v = (cntL W (preT c.tasks s i)).getD q 0 := ⟨_, rfl⟩
            rw [← hv] at hcnt hcs
            have hwv : IntKind.i64.wrap (v + 1) = v + 1 := IntWalk.i64_in _ (by omega)
            have HCS := Lib.hid hcs
            have HV := Lib.hid hv
            have HB := Lib.hid hb
            have HO := Lib.hid ho
            have hYz : Y ≤ wq.heap.size := by have := hb.size; rw [HY.out]; exact this
            subst hsA hAw hBs
            clear e1 e2 hkk htt hbit hmay hcs hv hb ho hbw hst2 hq hcl hcnt
            go_wp2_with fail
            refine region_plain 24 27 (fun w' => w' = wq.drew) (by kernel_rfl) rfl ?_
            refine anyC_reads (by kernel_rfl) [0, 1, 2, 3, 4, 5, 6, 7, 8, 9, 10, 11] ?opa ?oha 15 _ _ _ (by kernel_rfl) ?oka
            case oha => (simp only [List.filterMap_cons, List.filterMap_nil, List.getElem?_toArray, List.getElem?_cons_zero, List.getElem?_cons_succ]; try rfl)
            repeat (
              refine readC_step (v := ?_) rfl (fun w' hw' => ?_) ?_
              rotate_left
              focus (subst hw'; go_simp; try with_reducible rfl)
              go_simp)
            refine readC_nil ?_
            refine anyC_one (i := 12) (by kernel_rfl) rfl rfl (.inr rfl) ?_
            go_simp
            refine HBIT.out.mono ?_
            rintro e wz ⟨rfl, rfl⟩
            refine anyC_reads (by kernel_rfl) [13, 14, 15, 16, 17, 18, 19, 20, 21, 22, 23] ?opb ?ohb 3 _ _ _ (by kernel_rfl) ?okb
            case ohb => (simp only [List.filterMap_cons, List.filterMap_nil, List.getElem?_toArray, List.getElem?_cons_zero, List.getElem?_cons_succ]; try rfl)
            repeat (
              refine readC_step (v := ?_) rfl (fun w' hw' => ?_) ?_
              rotate_left
              focus (subst hw'; go_simp; try with_reducible rfl)
              go_simp)
            refine readC_nil ?_
            refine anyC_one (i := 24) (by kernel_rfl) rfl rfl (.inr rfl) ?_
            go_simp
            refine HMAYQ.out.mono ?_
            rintro e w6 ⟨rfl, hb6⟩
            have hb6' := HB.out.drew.trans (hb6.mono hYz)
            have ho6 := HO.out.drew.below hb6 (Nat.le_refl _)
            have hz6 := hb6.size
            obtain ⟨Y', hY', hYl, _, m0, mf⟩ := ho6.cell1 (k := q) (by rw [cntL_len]; exact hqw)
            have : Y = Y' := by simpa using hY'
            subst this
            rw [← getD_at _ q (by rw [cntL_len]; exact hqw) 0, ← HV.out] at m0
            have hput := ho6.put1 (k := q) (x := v + 1) (by rw [cntL_len]; exact hqw)
            rw [← HCS.out] at hput
            have HPUT := Lib.hid hput
            have HB6 := Lib.hid (hb6'.setCell (p := ⟨Y, q, none⟩) (Nat.le_refl _) (.int .i64 (v + 1)))
            clear hb6 hb6' ho6 hput
            refine anyC_one (i := 25) (by kernel_rfl) rfl rfl (.inl rfl) ?_
            go_simp
            refine anyC_one (i := 26) (by kernel_rfl) rfl rfl (.inl rfl) ?_
            go_simp
            refine anyC_end (by kernel_rfl) (.inl rfl) ?_
            go_wp2_with fail
            go_roundw
            case rel => exact ⟨i + 1, by omega, by go_num, HB6.out, HPUT.out⟩
            case measure => simp [intOf]; omega
          · obtain rfl : i = n := by omega
            have HB := Lib.hid hb
            have ho' : Own wq Y 3 1 icell (some ⟨Y, 0, none⟩) W (cntL W (preT c.tasks (s + 1) 0)) := by
              rw [← HNEXT.out, ← HN.out]
              exact ho
            have HO := Lib.hid ho'
            clear hb ho ho'
            go_wp2_with fail
            go_roundw
            case rel => exact ⟨s + 1, by omega, by go_num, HB.out, HO.out⟩
            case measure => simp [intOf]; omega
      · obtain rfl : s = m := by omega
        have hsl : s = c.tasks.length := by rw [← HRD4.out.tsk, List.length_map]; exact HRD4.out.rl.symm
        have hall : preT c.tasks s 0 = c.tasks.flatten := by rw [hsl]; exact preT_all _
        rw [hall] at ho
        have HB := Lib.hid hb
        have HO := Lib.hid ho
        clear hb ho hrd hall hsl
        go_wp2_with fail
        go_loopw [95] (fun s95 wq => ∃ j : Nat, j ≤ W ∧ s95 = .int .i64 j ∧ Below Y w3 wq ∧ Own wq Y 3 1 icell (some ⟨Y, 0, none⟩) W (cntL W c.tasks.flatten)) (fun s95 _ => W - (intOf s95).toNat)
        case atStart => exact ⟨0, Nat.zero_le _, rfl, HB.out, HO.out⟩
        case round =>
          clear HB HO
          rename World => wq
          obtain ⟨j, hj, rfl, hb, ho⟩ := hrel
          have hYz : Y ≤ wq.heap.size := by have := hb.size; rw [HY.out]; exact this
          have hbw := HB4.out.trans (hb.mono (by rw [HY.out]; exact HB4.out.size))
          by_cases hjW : j < W
          · have hjl : j < ws.length := by rw [HW.out]; exact hjW
            obtain ⟨bw, ow, hAw, hbw2, g0, g1⟩ := (HWS.out.below hbw).at2 (f := fun a : Wk => .int .i64 a.1) (g := fun a : Wk => .int .u32 (wN a.2)) hjl
            rw [← getD_at ws j hjl (0, w0)] at g0 g1
            have e1 : ws.getD j (0, w0) = wk ws j := rfl
            rw [e1] at g0 g1
            have hcnt := HOK.out.cnt j
            have hca := cntL_at (W := W) c.tasks.flatten hjW
            obtain ⟨kk, hkk⟩ : ∃ kk, kk = wk ws j := ⟨_, rfl⟩
            rw [← hkk] at g0 g1 hcnt
            obtain ⟨Z, hZ⟩ : ∃ Z, Z = wq.heap.size := ⟨_, rfl⟩
            have hzk := Blk.new wq 39 #[.int .i64 kk.1, .int .u32 (wN kk.2)]
            have z0 := hzk.cell 0
            have ho2 := ho.alloc (.cells #[.int .i64 kk.1, .int .u32 (wN kk.2)] 39)
            obtain ⟨Y', hY', _, _, m0, _⟩ := ho2.cell1 (k := j) (by rw [cntL_len]; exact hjW)
            have : Y = Y' := by simpa using hY'
            subst this
            rw [← getD_at _ j (by rw [cntL_len]; exact hjW) 0] at m0
            obtain ⟨v, hv⟩ : ∃ v, v = (cntL W c.tasks.flatten).getD j 0 := ⟨_, rfl⟩
            rw [← hv] at m0 hca
            have hd : decide (kk.1 < v) = false := decide_eq_false (by omega)
            have HB := Lib.hid (hb.alloc hYz (.cells #[.int .i64 kk.1, .int .u32 (wN kk.2)] 39))
            have HO := Lib.hid ho2
            subst hAw
            clear e1 hkk hv hb ho ho2 hzk hbw hcnt hca
            go_wp2_with fail
            go_quiet (fail)
            go_wp2_with fail
            go_roundw
            case rel => exact ⟨j + 1, by omega, by go_num, below_drewN HB.out _, HO.out.drewN _⟩
            case measure => simp [intOf]; omega
          · obtain rfl : j = W := by omega
            have HBF := Lib.hid hbw
            have hkq := HK3.out.below hb (by rw [HY.out]; exact HK3.out.lt)
            have d0 := hkq.cell 0
            have d1 := hkq.cell 1
            have d2 := hkq.cell 2
            have d3 := hkq.cell 3
            have hrq := HRD4.out.below hb (by rw [HY.out]; exact Nat.le_refl _)
            have HRQ := Lib.hid hrq
            clear hb ho hbw hkq hrq
            by_cases hL0 : L = 0
            · have hl0 : ((L : Int) == 0) = true := by simp [hL0]
              clear hL0
              go_wp2_with fail
              go_ret
              exact ⟨ret_bool rfl, HBF.out⟩
            · have hl0 : ((L : Int) == 0) = false := by simp [hL0]
              have hLl : L - 1 < script.length := by rw [HL.out]; omega
              obtain ⟨bc, oc, hCc, -, q0, -, -⟩ := (HCS.out.below HBF.out).at3 (f := fun x : Chg => .int .i64 x.1) (g := fun x : Chg => .int .i64 x.2.1) (p := fun x : Chg => .int .i64 x.2.2) hLl
              obtain ⟨x, hx⟩ : ∃ x, x = script[L - 1] := ⟨_, rfl⟩
              rw [← hx] at q0
              have hsp : script = script.take (L - 1) ++ [x] := by
                rw [hx]
                conv => lhs; rw [← List.take_of_length_le (l := script) (i := L - 1 + 1) (by rw [HL.out]; omega), List.take_succ_eq_append_getElem hLl]
              have HTK := Lib.hid (HTICK.out x _ hsp)
              have hw1 : IntKind.i64.wrap ((L : Int) - 1) = ((L - 1 : Nat) : Int) := by rw [IntWalk.i64_in _ (by omega)]; omega
              have hw2 : (L : Int) - 1 = ((L - 1 : Nat) : Int) := by omega
              have hL1 : L - 1 < L := by omega
              obtain ⟨L1, hL1e⟩ : ∃ L1, L1 = L - 1 := ⟨_, rfl⟩
              rw [← hL1e] at q0 hw1 hw2 hL1
              obtain ⟨K, hK⟩ : ∃ K, K = x.1 := ⟨_, rfl⟩
              rw [← hK] at q0 HTK
              subst hCc
              clear hsp hx hK hL0 hL1e hLl
              by_cases hK4 : K = 4
              · have hk4 : (K != 4) = false := by simp [hK4]
                have HWN := Lib.hid (top_wanted Ac L kc s gw gt rows c wq hm12 HRQ.out HOK.out.t12 HOK.out.w0 (HTK.out hK4))
                clear hK4
                go_wp2_with fail
                refine HWN.out.mono ?_
                rintro e w9 ⟨rfl, hb9⟩
                go_wp2_with fail
                go_ret
                exact ⟨ret_bool rfl, HBF.out.trans (hb9.mono HBF.out.size)⟩
              · have hk4 : (K != 4) = true := by simp [hK4]
                clear hK4
                go_wp2_with fail
                go_ret
                exact ⟨ret_bool rfl, HBF.out⟩
  · have HPLAY := Lib.hid (crew_Play_bad A B C W cA m cB L cC ws w hW hWm hmm hLm hws he)
    have HMAY := Lib.hid (fun (v : World) (hb : Below w.heap.size w v) => top_may A B C W cA m cB L cC ws v hW hWm hmm hLm ((hws.below hb).more hb.size))
    have h1 : (playE ws m L == 0) = false := by simpa using he
    have h2 : (playE ws m L != 0) = true := by simpa using he
    rw [h1] at HMAY
    generalize playE ws m L = x at HPLAY h1 h2 he
    clear he hws hts hcs hW hM hL
    go_enter Try.func3, Try.ntmps3
    go_wp2_with fail
    refine HPLAY.out.mono ?_
    clear HPLAY
    rintro e w1 ⟨rfl, hb1⟩
    have hb2 := hb1.alloc hb1.size (.cells #[.slice none 0 0, .int .u32 0, .slice none 0 0, .slice none 0 0] 30)
    obtain ⟨V, hV⟩ : ∃ V, V = w1.alloc (.cells #[.slice none 0 0, .int .u32 0, .slice none 0 0, .slice none 0 0] 30) := ⟨_, rfl⟩
    rw [← hV] at hb2
    have HB2 := Lib.hid hb2
    have HV := Lib.hid hV
    clear hb1 hb2 hV
    go_wp2_with fail
    rw [← HV.out]
    refine (HMAY.out V HB2.out).mono ?_
    rintro e w2 ⟨rfl, hb3⟩
    go_wp2_with fail
    go_ret
    exact ⟨ret_bool rfl, HB2.out.trans (hb3.mono HB2.out.size)⟩
theorem TopRoom_row (s : Sls (Int × Int)) (t : Sls Int) (u : Sls Chg) (w : World) (h : s.Good w w.heap.size 2 (fun p => [.int .i64 p.1, .int .u32 p.2]) (fun p => OkI p.1 ∧ OkU p.2)) (ht : t.Good w w.heap.size 1 (fun p => [.int .u32 p]) OkU) (hu : u.Good w w.heap.size 3 chcell (fun p => OkI p.1 ∧ OkI p.2.1 ∧ OkI p.2.2)) :
    Calls Try.prog 3 #[s.val, t.val, u.val] w fun e w' => e = .returned (.bool true) ∧ Below w.heap.size w w' :=
  law_TopRoom s.A t.A u.A s.l.length s.c t.l.length t.c u.l.length u.c (s.l.map fun p => (p.1, wordOf p.2)) (t.l.map wordOf) u.l w (by simp) (by simp) rfl h.1 ht.1 hu.1
    (h.2.2.1.map_ _ fun a ha => by rw [wkcell, wN_wordOf (h.2.2.2 a ha).2.1 (h.2.2.2 a ha).2.2])
    (ht.2.2.1.map_ _ fun a ha => by rw [wcell, wN_wordOf (ht.2.2.2 a ha).1 (ht.2.2.2 a ha).2]) hu.2.2.1
end Go.Proofs.Ytdinknpagklkjaa
