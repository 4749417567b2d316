/- All is placed anew. Conditions: the crew lies in memory; workers and services read as lists. -/
import Derived.Test.YtdinknpagklkjaaCrewPlays16
namespace Go.Proofs.Ytdinknpagklkjaa
open Go.RowKit
attribute [local go_sem ↓] w_and w_or w_xor w_andNot w_and1 w_and255 w_xor1 w_or0 w_shl w_shl1 w_shr w_sub w_add w_sub1 w_add1
attribute [local go_sem] w_eq0 w_ne0 w_eq1 w_eq w_ne
attribute [local go_sem] Oper.semAt_some

theorem ent_tick1 : Ent Try.prog 118 := ent_of Try.func118 (by kernel_rfl) rfl
theorem crew_tick1 (j : Int) (w : World) : Calls Try.prog 118 #[.int .i64 j] w fun e w' => e = .returned (.bool (decide (j < 0))) ∧ w' = w := by
  go_enter Try.func118, Try.ntmps118
  go_wp2_with fail
  go_ret
  exact ⟨ret_bool rfl, rfl⟩
/-- While the tasks are handed out: k services done. -/
def TickI (lo P : Nat) (vw vs : Value) (m gw gt : Nat) (Ac : Option Addr) (kc : Nat) (c : Cw) (full : List Int) (M : Nat) (w : World) (s66 s7 : Value) (wr : World) : Prop :=
  ∃ (k : Nat) (rows' : List (Sls Int)) (A3 : Option Addr) (cap3 : Nat), k ≤ m ∧ s66 = .int .i64 k ∧ s7 = .slice A3 (M - offN c.wants k) cap3 ∧ M - offN c.wants k ≤ cap3 ∧ Below lo w wr ∧ CrewIn wr lo P vw vs m gw gt Ac kc rows' ⟨c.codes, c.inn, c.wants, rows'.map (·.l)⟩ ∧ RowI wr ⟨A3, cap3, full.drop (offN c.wants k)⟩ ∧ (∀ j, j < k → (rwAt rows' j).l = (cutF c.wants full).getD j [])
theorem tickI_end {m : Nat} {rows' : List (Sls Int)} {t : List (List Int)} (h2 : rows'.length = m) (ht : t.length = m) (h : ∀ j, j < m → (rwAt rows' j).l = t.getD j []) : rows'.map (·.l) = t := by
  apply List.ext_getElem
  · simp [h2, ht]
  · intro j hj1 hj2
    have hj : j < m := by simpa [h2] using hj1
    have := h j hj
    unfold rwAt at this
    rw [List.getD_eq_getElem?_getD, List.getElem?_eq_getElem (by omega), List.getD_eq_getElem?_getD, List.getElem?_eq_getElem (by omega)] at this
    simpa using this
theorem run_head {P : Program} {t e : TypeId} (ht : P.underlying t = some (.slice e)) (hs : ∀ w, (sizeOf e).run P w = .ok 1 w) (A : Option Addr) (m cap k : Nat) (hk : k ≤ m) (hm : m ≤ cap) (w : World) :
    (Instr.slice t (.slice A m cap) none (some (.int .i64 (k : Int))) none).run P w = .ok (.slice A k cap) w := by
  have h1 : (0 : Int) ≤ (k : Int) := by omega
  have h2 : (k : Int) ≤ (cap : Int) := by omega
  have hkc : k ≤ cap := by omega
  have e : A.map (fun x => x.add 0) = A := by cases A <;> simp [Addr.add]
  simp [Instr.slice, run_underlying ht, Instr.sliceBounds, Instr.sliceBound, asIntOf, h1, h2, hs, Result.andThen, hkc, e]
theorem Els.head {α : Type} {w : World} {B c : Nat} {f : α → List Value} {A : Option Addr} {l : List α} (h : Els w B c f A l) (n : Nat) : Els w B c f A (l.take n) := fun hlt => by
  obtain ⟨b, off, e, hb, hc⟩ := h (by rw [List.length_take] at hlt; omega)
  refine ⟨b, off, e, hb, fun k a ha j u hu => hc k a ?_ j u hu⟩
  rw [List.getElem?_take] at ha
  split at ha
  · exact ha
  · cases ha
theorem filter_tick (l : List Int) : (l.filter fun x => !decide (x < 0)) = l.filter fun x => decide (0 ≤ x) := by
  congr 1
  funext x
  by_cases h : x < 0
  · rw [decide_eq_true h, decide_eq_false (by omega)]; rfl
  · rw [decide_eq_false h, decide_eq_true (by omega)]; rfl
set_option maxRecDepth 100000 in
set_option maxHeartbeats 1000000 in
theorem crew_tick (A B : Option Addr) (W cA cB lo P m gw gt kc : Nat) (Ac : Option Addr) (rows : List (Sls Int)) (c : Cw) (ws : List Wk) (svs : List (BitVec 32)) (w : World) (h : CrewIn w lo P (.slice A W cA) (.slice B m cB) m gw gt Ac kc rows c) (hm : m ≤ 12)
    (hW : ws.length = W) (hW6 : W ≤ 6) (hM : svs.length = m) (hgood : ∀ k ∈ ws, 0 ≤ k.1 ∧ k.1 ≤ 12) (h0 : ∀ n ∈ c.wants, 0 ≤ n) (h12 : c.wants.sum ≤ 12) (hws : Els w lo 2 wkcell A ws) (hts : Els w lo 1 wcell B svs) :
    Calls Try.prog 86 #[.pointer (some ⟨P, 0, none⟩)] w fun e w' => (∃ v, e = .returned v) ∧ ∃ rows', CrewIn w' lo P (.slice A W cA) (.slice B m cB) m gw gt Ac kc rows' ⟨c.codes, c.inn, c.wants, tickF ws svs c.inn c.wants⟩ ∧ Below lo w w' := by
  obtain ⟨Y, hY⟩ : ∃ Y, Y = w.heap.size := ⟨_, rfl⟩
  have hPY : P < Y := by rw [hY]; exact h.blk.lt
  have hloP := h.hlo
  have hloY : lo ≤ Y := by omega
  have c0 := h.blk.cell 0
  have HCL := Lib.hid (Clone_workers A W cA ws w hW (by omega) (hws.more (by rw [← hY]; exact hloY)))
  rw [← hY] at HCL
  have H := Lib.hid h
  have HY := Lib.hid hY
  have HW := Lib.hid hW
  have HM := Lib.hid hM
  have HG := Lib.hid hgood
  have H0 := Lib.hid h0
  have H12 := Lib.hid h12
  have HWS := Lib.hid hws
  have HTS := Lib.hid hts
  have HWL := Lib.hid h.wl
  clear h hY hW hM hgood h0 h12 hws hts
  go_enter Try.func86, Try.ntmps86
  go_wp2_with fail
  refine HCL.out.mono ?_
  clear HCL
  rintro e w1 ⟨A1, cap1, rfl, hb1, ho1⟩
  have HB1 := Lib.hid hb1
  have HO1 := Lib.hid ho1
  clear hb1 ho1 c0
  go_wp2_with fail
  go_loopw [18] (fun s18 wr => ∃ i : Nat, i ≤ W ∧ s18 = .int .i64 i ∧ Below Y w wr ∧ Own wr Y 39 2 wkcell A1 cap1 (nowTo c.inn ws i)) (fun s18 _ => W - (intOf s18).toNat)
  case atStart => exact ⟨0, Nat.zero_le _, rfl, HB1.out, by rw [nowTo_zero]; exact HO1.out⟩
  case round =>
    clear HB1 HO1
    rename World => wr
    obtain ⟨i, hi, rfl, hb, ho⟩ := hrel
    by_cases hiW : i < W
    · have hIN := crew_in P _ _ _ _ _ c.inn i wr (H.out.below hb (by rw [HY.out]; exact Nat.le_refl _)).blk
      have HIN := Lib.hid hIN
      have HB := Lib.hid hb
      have hil : i < (nowTo c.inn ws i).length := by rw [nowTo_length, HW.out]; exact hiW
      rcases Bool.eq_false_or_eq_true (bitB c.inn i) with hbit | hbit
      · have hnx := nowTo_in (ws := ws) hbit
        have HNX : Hid (Own wr Y 39 2 wkcell A1 cap1 (nowTo c.inn ws (i + 1))) := Lib.hid (by rw [hnx]; exact ho)
        rw [hbit] at HIN
        clear hb ho hIN hbit hnx
        go_wp2_with fail
        refine HIN.out.mono ?_
        rintro e w2 ⟨rfl, rfl⟩
        go_wp2_with fail
        go_roundw
        case rel => exact ⟨i + 1, by omega, by go_num, HB.out, HNX.out⟩
        case measure => simp [intOf]; omega
      · have hnx := nowTo_out (ws := ws) hbit
        obtain ⟨g1, hA1, hg1Y, hg1z⟩ := ho.form_ (by omega)
        subst hA1
        obtain ⟨b, off, he1, _, d0, _⟩ := ho.els.at2 (f := fun a : Wk => .int .i64 a.1) (g := fun a : Wk => .int .u32 (wN a.2)) hil
        simp only [Option.some.injEq, Addr.mk.injEq] at he1
        obtain ⟨rfl, rfl, _⟩ := he1
        have f0 := ho.2.frozenAt (i * 2)
        have hput := ho.putc (k := i) (j := 0) (x := (0, (wk ws i).2)) (u := .int .i64 0) hil (by omega) (by rw [nowTo_at hil]; rfl)
        rw [← hnx, Nat.add_zero] at hput
        rw [Nat.zero_add] at d0
        have HPUT := Lib.hid hput
        rw [hbit] at HIN
        generalize ((nowTo c.inn ws i)[i]).1 = y0 at d0
        clear hb ho hIN hbit hnx hput
        go_wp2_with fail
        refine HIN.out.mono ?_
        rintro e w2 ⟨rfl, rfl⟩
        go_wp2_with fail
        go_roundw
        case rel => exact ⟨i + 1, by omega, by go_num, HB.out.setCell (p := ⟨g1, i * 2, none⟩) hg1Y _, HPUT.out⟩
        case measure => simp [intOf]; omega
    · obtain rfl : i = W := by omega
      have hnf : nowTo c.inn ws i = nowF ws c.inn := by rw [← HW.out]; exact nowTo_all _ _
      rw [hnf] at ho
      have hcr := H.out.below hb (by rw [HY.out]; exact Nat.le_refl _)
      have HCR := Lib.hid hcr
      have HB := Lib.hid hb
      have HO := Lib.hid ho
      have c4 := hcr.blk.cell 4
      have hYz : Y ≤ wr.heap.size := by have := hb.size; rw [← HY.out] at this; exact this
      clear hb ho hnf hcr
      go_wp2_with fail
      go_loopw [36, 4] (fun s36 s4 wq => ∃ (k : Nat) (A2 : Option Addr) (n2 cap2 : Nat), k ≤ m ∧ s36 = .int .i64 k ∧ s4 = .slice A2 n2 cap2 ∧ n2 = offN c.wants k ∧ Below Y w wq ∧ Own wq Y 39 2 wkcell A1 cap1 (nowF ws c.inn) ∧ Own wq Y 26 1 wcell A2 cap2 (tasksF (c.wants.take k) (svs.take k))) (fun s36 _ _ => m - (intOf s36).toNat)
      case atStart => exact ⟨0, none, 0, 0, Nat.zero_le _, rfl, rfl, rfl, HB.out, HO.out, Own.nil _ _ _ (fun _ => rfl)⟩
      case round =>
        clear HB HO HCR c4 hYz
        rename World => wq
        obtain ⟨k, A2, n2, cap2, hk, rfl, rfl, hn2, hb, ho, ho2⟩ := hrel
        have hcr := H.out.below hb (by rw [HY.out]; exact Nat.le_refl _)
        have hYz : Y ≤ wq.heap.size := by have := hb.size; rw [← HY.out] at this; exact this
        have hbl : Below lo w wq := hb.mono hloY
        by_cases hkm : k < m
        · have hkl : k < c.wants.length := by rw [HWL.out]; exact hkm
          have hks : k < svs.length := by rw [HM.out]; exact hkm
          obtain ⟨gw', hgw', _, _, r0, _⟩ := hcr.wnt.cell1 hkl
          have : gw = gw' := by simpa using hgw'
          subst this
          rw [← getD_at _ k hkl 0] at r0
          obtain ⟨bs, os, hAB, hbs, t0⟩ := (HTS.out.below hbl).at1 (f := fun x => .int .u32 (wN x)) hks
          subst hAB
          rw [← getD_at svs k hks w0] at t0
          have hlw : lw svs k = svs.getD k w0 := rfl
          rw [← hlw] at t0
          obtain ⟨x, hx⟩ : ∃ x, x = lw svs k := ⟨_, rfl⟩
          rw [← hx] at t0
          have hts := tasksF_succ c.wants svs k hkl hks
          rw [← hx] at hts
          obtain ⟨n, hn⟩ : ∃ n : Nat, c.wants.getD k 0 = n := Int.eq_ofNat_of_zero_le (by rw [getD_at _ k hkl]; exact H0.out _ (List.getElem_mem hkl))
          rw [hn] at r0 hts
          rw [Int.toNat_natCast] at hts
          have hoff := offN_succ hkl
          rw [hn, Int.toNat_natCast] at hoff
          have hole := offN_le H0.out (k + 1)
          have h12 := H12.out
          have htl : (tasksF (c.wants.take k) (svs.take k)).length = n2 := by rw [tasksF_length c.wants svs (by rw [HWL.out, HM.out]) k (by omega), hn2]
          have c1 := hcr.blk.cell 1
          have hn16 : n2 + n ≤ 12 := by omega
          have hoff2 : n2 + n = offN c.wants (k + 1) := by omega
          obtain ⟨K, hK⟩ : ∃ K, K = wq.heap.size := ⟨_, rfl⟩
          have hb2 := hb.alloc hYz (.cells #[.int .u32 (wN x)] 26)
          have ho' := ho.alloc (.cells #[.int .u32 (wN x)] 26)
          have ho2' := ho2.alloc (.cells #[.int .u32 (wN x)] 26)
          have hlb := Blk.new wq 26 #[.int .u32 (wN x)]
          obtain ⟨V, hV⟩ : ∃ V, V = wq.alloc (.cells #[.int .u32 (wN x)] 26) := ⟨_, rfl⟩
          have hzV : V.heap.size = K + 1 := by rw [hV, size_alloc', hK]
          have hYK : Y ≤ K := by rw [hK]; exact hYz
          rw [← hV] at hb2 ho' ho2' hlb
          rw [← hK] at hlb
          have HREP := Lib.hid (Repeat_words x (some ⟨K, 0, none⟩) 1 n (K + 1) V (by omega) (els_of_blk hlb 1 wcell (fun _ => rfl) [x] rfl |>.more (by omega)))
          have HB2 := Lib.hid hb2
          have HO1 := Lib.hid ho'
          have HO2 := Lib.hid ho2'
          have HTL := Lib.hid htl
          have HTS2 := Lib.hid hts
          have HOFF := Lib.hid hoff2
          have HV := Lib.hid hV
          have HK := Lib.hid hK
          have HN2 := Lib.hid hn2
          clear hb ho ho2 hb2 ho' ho2' hlb htl hts hoff hoff2 hV hK hn hx hlw hcr hole h12 hn2 hbl
          go_wp2_with fail
          rw [← HV.out, ← HK.out]
          refine HREP.out.mono ?_
          clear HREP
          rintro e w3 ⟨rfl, hb3, ho3⟩
          have hb3' := HB2.out.trans (hb3.mono (by omega))
          have hz3 := hb3.size
          rw [hzV] at ho3 ⊢
          have ho13 := HO1.out.below hb3 (Nat.le_refl _)
          have ho23 := HO2.out.below hb3 (Nat.le_refl _)
          have HB3 := Lib.hid hb3'
          have HO3 := Lib.hid ho3
          have HO13 := Lib.hid ho13
          have HO23 := Lib.hid ho23
          clear hb3 hb3' ho3 ho13 ho23
          go_wp2_with (at_builtin; go_loud (refine wpList_append_els rfl _ _ _ rfl Y 1 26 (.int .u32 0) 4 Try.underlying23 (by kernel_rfl) rfl (by omega) wcell w3 A2 n2 cap2 _ HTL.out rfl HO23.out _ n n (List.replicate n x) (by rw [List.length_replicate]) rfl _ HO3.out.els (one_flat (fun a u hu => by simp at hu; rw [hu]; rfl) _) (by unfold maxLen; omega) (by omega) (by omega) ?_; intro A4 cap4 w4 hown4 hgrow4 hloc4))
          rw [← HTS2.out] at hown4
          have hb4 := HB3.out.grown hgrow4 (by omega) (fun g hg => (HO23.out.lt g hg).1)
          have ho14 : Own w4 Y 39 2 wkcell A1 cap1 (nowF ws c.inn) := HO13.out.kept hgrow4 (by
            cases hA : blkOf A1 with
            | none => exact .inl rfl
            | some g =>
              refine .inr fun e => ?_
              obtain ⟨cur, hcur⟩ := own_cellsAt HO13.out hA
              exact own_far_blk HO23.out hcur (by decide) e.symm)
          have HB4 := Lib.hid hb4
          have HO4 := Lib.hid hown4
          have HO14 := Lib.hid ho14
          clear hown4 hgrow4 hloc4 hb4 ho14
          go_roundw
          case rel => exact ⟨k + 1, A4, _, cap4, by omega, by go_num, rfl, HOFF.out, HB4.out, HO14.out, HO4.out⟩
          case measure => simp [intOf]; omega
        · obtain rfl : k = m := by omega
          have htw : tasksF (c.wants.take k) (svs.take k) = tasksF c.wants svs := by
            rw [List.take_of_length_le (by rw [HWL.out]; exact Nat.le_refl _), List.take_of_length_le (by rw [HM.out]; exact Nat.le_refl _)]
          have htl : (tasksF (c.wants.take k) (svs.take k)).length = n2 := by rw [tasksF_length c.wants svs (by rw [HWL.out, HM.out]) k (by rw [HWL.out]; exact Nat.le_refl _), hn2]
          rw [htw] at ho2 htl
          have hole := offN_le H0.out k
          have h12 := H12.out
          have hn12 : n2 ≤ 12 := by omega
          have hc2 := ho2.cap_le
          rw [htl] at hc2
          have hgd := now_good (inn := c.inn) HG.out (by rw [HW.out]; exact hW6) hn12
          obtain ⟨full, hfull⟩ : ∃ full, full = mostF (nowF ws c.inn) (tasksF c.wants svs) := ⟨_, rfl⟩
          have hfl : full.length = n2 := by rw [hfull, mostF_len, htl]
          have HMOST := Lib.hid (place_Most A1 A2 i cap1 n2 cap2 (nowF ws c.inn) (tasksF c.wants svs) wq (by rw [nowF_length]; exact HW.out) htl hc2 ho.els ho2.els hgd)
          rw [← hfull] at HMOST
          have HB := Lib.hid hbl
          have HCR := Lib.hid hcr
          have HFULL := Lib.hid hfull
          have HFL := Lib.hid hfl
          have HN2 := Lib.hid hn2
          have hloz : lo ≤ wq.heap.size := by omega
          clear hb ho ho2 htw htl hole h12 hc2 hgd hfull hfl hbl hcr hn2
          go_wp2_with fail
          refine HMOST.out.mono ?_
          clear HMOST
          rintro e w5 ⟨A5, cap5, rfl, hb5, ho5⟩
          have hcr5 := HCR.out.below hb5 (Nat.le_refl _)
          have hc5 := ho5.cap_le
          rw [HFL.out] at hc5
          have HB5 := Lib.hid (HB.out.trans (hb5.mono hloz))
          have HR5 := Lib.hid (RowI.of_own ho5)
          have HC5 := Lib.hid (show CrewIn w5 lo P (.slice A i cA) (.slice B k cB) k gw gt Ac kc rows ⟨c.codes, c.inn, c.wants, rows.map (·.l)⟩ from ⟨hcr5.blk, hcr5.cod, hcr5.wnt, hcr5.tab, rfl, hcr5.row, hcr5.far, hcr5.nw, hcr5.hlo, hcr5.rl, hcr5.wl⟩)
          have d4 := hcr5.blk.cell 4
          clear hb5 ho5 hcr5 HB HCR
          go_wp2_with fail
          go_loopw [66, 7] (fun s66 s7 wr => TickI lo P (.slice A i cA) (.slice B k cB) k gw gt Ac kc c full n2 w s66 s7 wr) (fun s66 _ _ => k - (intOf s66).toNat)
          case atStart => exact ⟨0, rows, A5, cap5, Nat.zero_le _, rfl, rfl, by show n2 - 0 ≤ _; omega, HB5.out, HC5.out, HR5.out, fun j hj => by omega⟩
          case round =>
            clear HB5 HC5 HR5 d4 hc5
            rename World => wr
            obtain ⟨q, rows', A3, cap3, hq, rfl, rfl, hrc, hb, h, hrow, hdone⟩ := hrel
            by_cases hqm : q < k
            · have hql : q < c.wants.length := by rw [HWL.out]; exact hqm
              have hqr : q < rows'.length := by rw [h.rl]; exact hqm
              obtain ⟨gw', hgw', _, hgwz, r0, _⟩ := h.wnt.cell1 hql
              have : gw = gw' := by simpa using hgw'
              subst this
              rw [← getD_at _ q hql 0] at r0
              obtain ⟨n, hn⟩ : ∃ n : Nat, c.wants.getD q 0 = n := Int.eq_ofNat_of_zero_le (by rw [getD_at _ q hql]; exact H0.out _ (List.getElem_mem hql))
              have hr0 : wr.cell? ⟨gw, q, none⟩ = some (.int .i64 n) := by rw [← hn]; exact r0
              have hoff := offN_succ hql
              rw [hn, Int.toNat_natCast] at hoff
              have hmono := offN_mono hql
              rw [hn, Int.toNat_natCast, HWL.out, ← HN2.out] at hmono
              have hcut := cutF_at c.wants full q hql
              rw [hn, Int.toNat_natCast] at hcut
              obtain ⟨o, ho⟩ : ∃ o, o = offN c.wants q := ⟨_, rfl⟩
              rw [← ho] at hoff hmono hcut hrc hrow
              obtain ⟨r, hr⟩ : ∃ r, r = n2 - o := ⟨_, rfl⟩
              rw [← ho, ← hr]
              rw [← hr] at hrc
              have hnr : n ≤ r := by omega
              have hr12 : r ≤ 12 := by omega
              have hrl : (full.drop o).length = r := by rw [List.length_drop, HFL.out, hr]
              have hsl : ∀ W0 : World, (Instr.slice 27 (.slice A3 r cap3) none (some (.int .i64 (n : Int))) none).run Try.prog W0 = .ok (.slice A3 n cap3) W0 := fun W0 => run_head Try.underlying27 (fun w => by kernel_rfl) A3 r cap3 n hnr hrc W0
              have hcell := hrow.cut n (cap3 - n) hnr hrl hrc
              have hct : ∀ W0 : World, (Instr.slice 27 (.slice A3 r cap3) (some (.int .i64 (n : Int))) none none).run Try.prog W0 = .ok (.slice (if cap3 = n then A3 else A3.map (·.add (n * 1))) (r - n) (cap3 - n)) W0 := fun W0 => run_tail Try.underlying27 (fun w => by kernel_rfl) A3 r cap3 n hnr hrc (by omega) W0
              obtain ⟨AX, hAX⟩ : ∃ AX, AX = (if cap3 = n then A3 else A3.map (·.add (n * 1))) := ⟨_, rfl⟩
              rw [← hAX, List.drop_drop] at hcell
              simp only [← hAX] at hct
              rw [← hoff] at hcell
              have hrn : r - n = n2 - offN c.wants (q + 1) := by omega
              have hrcn : r - n ≤ cap3 - n := by omega
              obtain ⟨part, hpart⟩ : ∃ part, part = (full.drop o).take n := ⟨_, rfl⟩
              rw [← hpart, ← filter_tick] at hcut
              have hpl : part.length = n := by rw [hpart, List.length_take, hrl]; omega
              have hpe : Els wr wr.heap.size 1 icell A3 part := by rw [hpart]; exact hrow.els.head n
              have d4 := h.blk.cell 4
              have d5 := h.blk.cell 5
              obtain ⟨Z, hZ⟩ : ∃ Z, Z = wr.heap.size := ⟨_, rfl⟩
              have HCL := Lib.hid (Clone_ints A3 n cap3 part wr.drew hpl (by omega) hpe)
              have H' := Lib.hid h
              have HB := Lib.hid hb
              have HDONE := Lib.hid hdone
              have HCUT := Lib.hid hcut
              have HPL := Lib.hid hpl
              have HROW := Lib.hid hcell
              have HRN := Lib.hid hrn
              have HZ := Lib.hid hZ
              have hloZ : lo ≤ Z := by have := h.blk.lt; have := h.hlo; omega
              have hn65 : n ≤ 65536 := by omega
              clear h hb hdone hcut hpart hpl hpe hrow hcell hAX hrn hZ r0 hoff hmono hrl hn ho hr
              go_wp2_with fail
              refine region_plain 12 13 (fun w' => w'.cell? ⟨P, 5, none⟩ = some (.slice (some ⟨gt, 0, none⟩) k k)) (by kernel_rfl) rfl ?_
              refine anyC_reads (by kernel_rfl) [0, 1, 2, 3, 4, 5, 6, 7, 8] ?opz ?ohz 4 _ _ _ (by kernel_rfl) ?okz
              case ohz => (simp only [List.filterMap_cons, List.filterMap_nil, List.getElem?_toArray, List.getElem?_cons_zero, List.getElem?_cons_succ]; try rfl)
              repeat (
                refine readC_step (v := ?_) rfl (fun w' hw' => ?_) ?_
                rotate_left
                focus (have p1 := hw'; go_simp; try with_reducible rfl)
                go_simp)
              refine readC_nil ?_
              refine anyC_one (i := 9) (by kernel_rfl) rfl rfl (.inr d5) ?_
              go_simp
              refine HCL.out.mono ?_
              clear HCL
              rintro e w6 ⟨A6, cap6, rfl, hb6, ho6⟩
              have hz6 : wr.drew.heap.size = Z := HZ.out.symm
              rw [hz6] at hb6 ho6
              have h6 := H'.out.drew.below hb6 (by rw [hz6]; exact Nat.le_refl _)
              have d56 := h6.blk.cell 5
              have hr6 := HROW.out.drew.below hb6 (by rw [hz6]; exact Nat.le_refl _)
              have HDEL := Lib.hid (DeleteFunc_ints 118 ent_tick1 #[] (fun x => decide (x < 0)) A6 n Z cap6 part w6 HPL.out hn65 ho6 (fun a wx _ => by simpa using crew_tick1 a wx))
              have HB6 := Lib.hid hb6
              have HO6 := Lib.hid ho6
              clear hb6 ho6 h6 hr6
              refine anyC_one (i := 10) (by kernel_rfl) rfl rfl (.inr d56) ?_
              clear d56
              go_simp
              refine HDEL.out.mono ?_
              clear HDEL
              rintro e w7 ⟨rfl, ho7, hg7⟩
              have hb7 : Below Z wr.drew w7 := HB6.out.grown hg7 (by have := HB6.out.size; rw [hz6] at this; exact this) (fun g hg => (HO6.out.lt g hg).1)
              have h7 := H'.out.drew.below hb7 (by rw [hz6]; exact Nat.le_refl _)
              have hr7 := HROW.out.drew.below hb7 (by rw [hz6]; exact Nat.le_refl _)
              have d57 := h7.blk.cell 5
              obtain ⟨gt', hgt', hgl, hgz, r7, f7⟩ := h7.tab.cell1 (f := fun s : Sls Int => s.val) hqr
              have : gt = gt' := by simpa using hgt'
              subst this
              have hlt : ∀ j, j < k → ∀ g, blkOf (rwAt rows' j).A = some g → g < Z := fun j hj g hg => by rw [← hz6]; exact ((H'.out.drew.row j hj).lt g hg).2
              have hput := h7.put (s := ⟨A6, cap6, part.filter fun x => !decide (x < 0)⟩) hqm h7.blk h7.cod h7.wnt h7.tab (fun j hj _ => h7.row j hj) (ho7.weaken hloZ) (fun j hj _ g hg e => by
                have h1 := (ho7.lt g hg).1
                have h2 := hlt j hj g e
                omega) (fun e => by
                have h1 := (ho7.lt gw e).1
                have h2 := HZ.out
                omega)
              rw [← List.map_set] at hput
              have hr8 := hr7.grown (gb_setCell w7 gt q (.slice A6 (part.filter fun x => !decide (x < 0)).length cap6)) (by exact h7.tab) (by decide)
              have hb8 := (HB.out.drew.trans (hb7.mono hloZ)).setCell (p := ⟨gt, q, none⟩) hgl (.slice A6 (part.filter fun x => !decide (x < 0)).length cap6)
              have hnx : ∀ j, j < q + 1 → (rwAt (rows'.set q ⟨A6, cap6, part.filter fun x => !decide (x < 0)⟩) j).l = (cutF c.wants full).getD j [] := fun j hj => by
                rw [show rwAt (rows'.set q ⟨A6, cap6, part.filter fun x => !decide (x < 0)⟩) j = if q = j then ⟨A6, cap6, part.filter fun x => !decide (x < 0)⟩ else rwAt rows' j from getD_set_any rows' q j _ _ hqr]
                split
                · rename_i e
                  rw [← e, HCUT.out]
                · exact HDONE.out j (by omega)
              have HPUT := Lib.hid hput
              have HR8 := Lib.hid hr8
              have HB8 := Lib.hid hb8
              have HNX := Lib.hid hnx
              clear ho7 hg7 hb7 h7 hr7 hput hr8 hb8 hnx hlt
              refine anyC_one (i := 11) (by kernel_rfl) rfl rfl (.inr d57) ?_
              go_simp
              refine anyC_one (i := 12) (by kernel_rfl) rfl rfl (.inr d57) ?_
              go_simp
              refine anyC_end (by kernel_rfl) (.inl rfl) ?_
              clear d4 d5 r7 f7 d57
              go_wp2_with fail
              go_roundw
              case rel => exact ⟨q + 1, _, AX, cap3 - n, by omega, by go_num, by rw [HRN.out], by rw [← HRN.out]; exact hrcn, HB8.out, HPUT.out, HR8.out, HNX.out⟩
              case measure => simp [intOf]; omega
            · obtain rfl : q = k := by omega
              have he := tickI_end h.rl (by rw [cutF_length]; exact HWL.out) hdone
              rw [he, HFULL.out] at h
              have H' := Lib.hid h
              have HB := Lib.hid hb
              clear h hb hdone hrow he
              go_wp2_with fail
              go_end0
              exact ⟨⟨_, rfl⟩, rows', H'.out, HB.out⟩
end Go.Proofs.Ytdinknpagklkjaa
