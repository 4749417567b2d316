/- The document's tick. Conditions: the crew lies in memory; workers and services read as lists. -/
import Derived.Test.YtdinknpagklkjaaCrewPlays16
import Derived.Test.YtdinknpagklkjaaCrewPlays17
import Derived.Test.YtdinknpagklkjaaCrewPlays19
import Derived.Test.YtdinknpagklkjaaCrewPlays21
namespace Go.Proofs.Ytdinknpagklkjaa
open Go.RowKit
attribute [local go_sem ↓] w_and w_or w_xor w_andNot w_and1 w_and255 w_xor1 w_or0 w_shl w_shl1 w_shr w_sub w_add w_sub1 w_add1
attribute [local go_sem] w_eq0 w_ne0 w_eq1 w_eq w_ne
attribute [local go_sem] Oper.semAt_some

theorem Own.apart {α β : Type} {w w2 : World} {B B' c c' cap cap' : Nat} {e e' : TypeId} {f : α → List Value} {f' : β → List Value} {A A' : Option Addr} {l : List α} {l' : List β} (h : Own w B e c f A cap l) (h' : Own w B' e' c' f' A' cap' l') (hg : w.grownBy w2 (blkOf A')) (hne : e ≠ e') : Own w2 B e c f A cap l := by
  refine h.kept hg ?_
  cases hA : blkOf A with
  | none => exact .inl rfl
  | some g =>
    refine .inr fun e => ?_
    obtain ⟨cur, hcur⟩ := own_cellsAt h hA
    exact own_far_blk h' hcur (fun e => hne e.symm) e.symm
/-- While the placed are handed out: i of them. -/
def HandJ (lo P : Nat) (m gw gt : Nat) (Ac : Option Addr) (kc : Nat) (c : Cw) (full who : List Int) (A3 A5 : Option Addr) (c3 c5 M Y D : Nat) (w v : World) (s : Value) (wr : World) : Prop :=
  ∃ (i : Nat) (rows' : List (Sls Int)), i ≤ M ∧ s = .int .i64 i ∧ Below lo w wr ∧ D ≤ wr.heap.size ∧ CrefIn wr lo P m gw gt Ac kc rows' ⟨c.codes, c.inn, c.wants, rows'.map (·.l)⟩ ∧ Own wr Y 3 1 icell A3 c3 who ∧ Own wr Y 3 1 icell A5 c5 full ∧ (∀ j, j < m → ∀ g, blkOf (rwAt rows' j).A = some g → D ≤ g) ∧ ∀ j, j < m → (rwAt rows' j).l = rwTo full who j i
def ClearJ (lo P : Nat) (m gw gt : Nat) (Ac : Option Addr) (kc : Nat) (c : Cw) (w v : World) (Y : Nat) (A1 A2 A3 : Option Addr) (c1 c2 c3 : Nat) (l1 : List Wk) (l2 : List (BitVec 32)) (l3 : List Int) (s : Value) (wr : World) : Prop :=
  ∃ (k : Nat) (rows' : List (Sls Int)), k ≤ m ∧ s = .int .i64 k ∧ Below lo w wr ∧ Y ≤ wr.heap.size ∧ CrefIn wr lo P m gw gt Ac kc rows' ⟨c.codes, c.inn, c.wants, rows'.map (·.l)⟩ ∧ Own wr Y 39 2 wkcell A1 c1 l1 ∧ Own wr Y 26 1 wcell A2 c2 l2 ∧ Own wr Y 3 1 icell A3 c3 l3 ∧ ∀ j, j < k → rwAt rows' j = ⟨none, 0, []⟩
set_option maxRecDepth 100000 in
set_option maxHeartbeats 1000000 in
theorem cref_tick (A B : Option Addr) (W cA cB lo P m gw gt kc : Nat) (Ac : Option Addr) (rows : List (Sls Int)) (c : Cw) (who n : Int) (ws : List Wk) (svs : List (BitVec 32)) (w : World) (h : CrefIn w lo P m gw gt Ac kc rows c) (hm : m ≤ 12) (hW : ws.length = W) (hW6 : W ≤ 6) (hM : svs.length = m) (hgood : ∀ k ∈ ws, 0 ≤ k.1 ∧ k.1 ≤ 12) (h0 : ∀ n ∈ c.wants, 0 ≤ n) (h12 : c.wants.sum ≤ 12) (hws : Els w lo 2 wkcell A ws) (hts : Els w lo 1 wcell B svs) :
    Calls Try.prog 83 #[.pointer (some ⟨P, 0, none⟩), .slice A W cA, .slice B m cB, .agg #[.int .i64 4, .int .i64 who, .int .i64 n]] w fun e w' => e = .returned (.int .i64 0) ∧ Below lo w w' ∧ ∃ rows', CrefIn w' lo P m gw gt Ac kc rows' ⟨c.codes, c.inn, c.wants, tickF ws svs c.inn c.wants⟩ := by
  have HT := Lib.hid h.tsk
  have HRL := Lib.hid h.rl
  have HWL := Lib.hid h.wl
  have HW := Lib.hid hW
  have HM := Lib.hid hM
  have HG := Lib.hid hgood
  have H0 := Lib.hid h0
  have H12 := Lib.hid h12
  have hZ := Blk.new w 41 #[.int .i64 4, .int .i64 who, .int .i64 n]
  have h1 := h.alloc (.cells #[.int .i64 4, .int .i64 who, .int .i64 n] 41)
  have hloz : lo ≤ w.heap.size := by have := h.blk.lt; have := h.hlo; omega
  have hb1 := (Below.refl lo w).alloc hloz (.cells #[.int .i64 4, .int .i64 who, .int .i64 n] 41)
  have z0 := hZ.cell 0
  have z1 := hZ.cell 1
  have z2 := hZ.cell 2
  have c1 := h1.blk.cell 1
  have c2 := h1.blk.cell 2
  have c3 := h1.blk.cell 3
  obtain ⟨V, hV⟩ : ∃ V, V = w.alloc (.cells #[.int .i64 4, .int .i64 who, .int .i64 n] 41) := ⟨_, rfl⟩
  obtain ⟨Z, hZe⟩ : ∃ Z, Z = w.heap.size := ⟨_, rfl⟩
  rw [← hV] at h1 hb1 hZ
  rw [← hZe] at hZ
  have H := Lib.hid h1
  have HB := Lib.hid hb1
  have HV := Lib.hid hV
  have HZ := Lib.hid hZ
  have HZE := Lib.hid hZe
  clear h hZ h1 hb1 hV hZe
  have HWS := Lib.hid (hws.below HB.out)
  have HTS := Lib.hid (hts.below HB.out)
  obtain ⟨Y, hY⟩ : ∃ Y, Y = V.heap.size := ⟨_, rfl⟩
  have hloY : lo ≤ Y := by rw [hY]; have := H.out.blk.lt; have := H.out.hlo; omega
  have HY := Lib.hid hY
  have HB0 : Hid (Below Y V V) := Lib.hid (Below.refl _ _)
  have hnl : (nowF ws c.inn).length = W := by rw [nowF_length, HW.out]
  have HNL := Lib.hid hnl
  rw [← HV.out, ← HZE.out] at z0 z1 z2
  rw [← HV.out] at c1 c2 c3
  clear hW hM hgood h0 h12 hws hts hY hnl
  go_enter Try.func83, Try.ntmps83
  go_wp2_with fail
  rw [← HV.out, ← HZE.out]
  go_loopw [33, 9] (fun s33 s9 wr => ∃ (i : Nat) (A1 : Option Addr) (cap1 : Nat), i ≤ W ∧ s33 = .int .i64 i ∧ s9 = .slice A1 i cap1 ∧ Below Y V wr ∧ Own wr Y 39 2 wkcell A1 cap1 ((nowF ws c.inn).take i)) (fun s33 _ _ => W - (intOf s33).toNat)
  case atStart => exact ⟨0, none, 0, Nat.zero_le _, rfl, rfl, HB0.out, by rw [List.take_zero]; exact Own.nil _ _ _ (fun _ => rfl)⟩
  case round =>
    clear HB0 c1 c2 c3 z0 z1 z2
    rename World => wr
    obtain ⟨i, A1, cap1, hi, rfl, rfl, hb, ho⟩ := hrel
    have hYr : Y ≤ wr.heap.size := by have := hb.size; rw [← HY.out] at this; exact this
    by_cases hiW : i < W
    · have hil : i < ws.length := by rw [HW.out]; exact hiW
      obtain ⟨bs, os, hAB, hbs, t0, t1⟩ := (HWS.out.below (hb.mono hloY)).at2 (f := fun a : Wk => .int .i64 a.1) (g := fun a : Wk => .int .u32 (wN a.2)) hil
      subst hAB
      have hwk : ws[i] = wk ws i := (getD_at ws i hil _).symm
      rw [hwk] at t0 t1
      have hsn := nowF_snoc (inn := c.inn) hil
      unfold nowAt at hsn
      have htl : ((nowF ws c.inn).take i).length = i := by rw [List.length_take, HNL.out]; omega
      obtain ⟨y, hy⟩ : ∃ y, y = wk ws i := ⟨_, rfl⟩
      rw [← hy] at t0 t1 hsn
      obtain ⟨y1, y2⟩ := y
      simp only at t0 t1 hsn
      have HTL := Lib.hid htl
      have hcr := H.out.below hb (by rw [HY.out]; exact Nat.le_refl _)
      have hXc := hcr.alloc (.cells #[.int .i64 y1, .int .u32 (wN y2)] 39)
      have c1 := hXc.blk.cell 1
      rcases Bool.eq_false_or_eq_true (bitB c.inn i) with hbit | hbit
      · rw [if_pos hbit] at hsn
        have HIN := Lib.hid (Bit_any c.inn (i : Int) (wr.alloc (.cells #[.int .i64 y1, .int .u32 (wN y2)] 39)))
        rw [hbit] at HIN
        have HSN := Lib.hid hsn
        have HBX := Lib.hid (hb.alloc hYr (.cells #[.int .i64 y1, .int .u32 (wN y2)] 39))
        have HOX := Lib.hid (ho.alloc (.cells #[.int .i64 y1, .int .u32 (wN y2)] 39))
        have HKX := Lib.hid (Blk.new wr 39 #[.int .i64 y1, .int .u32 (wN y2)])
        have hXz : Y ≤ (wr.alloc (.cells #[.int .i64 y1, .int .u32 (wN y2)] 39)).heap.size := by rw [size_alloc']; omega
        obtain ⟨X, hX⟩ : ∃ X, X = wr.alloc (.cells #[.int .i64 y1, .int .u32 (wN y2)] 39) := ⟨_, rfl⟩
        obtain ⟨b1, hb1⟩ : ∃ b1, b1 = wr.heap.size := ⟨_, rfl⟩
        rw [← hX] at HIN HBX HOX HKX hXz
        rw [← hb1] at HKX
        have k0 := HKX.out.cell 0
        have k1 := HKX.out.cell 1
        have HX := Lib.hid hX
        have HB1 := Lib.hid hb1
        clear hb ho hcr hXc htl hsn hbit hy hX hb1 hwk
        go_wp2_with fail
        rw [← HX.out, ← HB1.out]
        refine HIN.out.mono ?_
        rintro e w2 ⟨rfl, rfl⟩
        go_wp2_with (at_builtin; (
          refine wpList_push rfl _ _ _ rfl Y 2 39 (.agg #[.int .i64 0, .int .u32 0]) 16 Try.underlying22 (by kernel_rfl) rfl (by omega) wkcell X #[.int .i64 y1, .int .u32 (wN y2)] A1 i cap1 _ HTL.out rfl HOX.out 1 [(y1, y2)] rfl rfl _ rfl rfl (by simp [Value.oneCell']) (by unfold maxLen; omega) (by omega) hXz ?_
          intro A9 cap9 w9 hown9 hgrow9 hloc9))
        have hb9 := (HBX.out.alloc hXz _).grown hgrow9 (by rw [size_alloc']; omega) (fun g hg => (HOX.out.lt g hg).1)
        rw [← HSN.out] at hown9
        have HB9 := Lib.hid hb9
        have HO9 := Lib.hid hown9
        clear hb9 hown9 hgrow9 hloc9
        go_roundw
        case rel => exact ⟨i + 1, A9, cap9, by omega, by go_num, rfl, HB9.out, HO9.out⟩
        case measure => simp [intOf]; omega
      · rw [if_neg (by rw [hbit]; simp)] at hsn
        have HIN := Lib.hid (Bit_any c.inn (i : Int) (wr.alloc (.cells #[.int .i64 y1, .int .u32 (wN y2)] 39)))
        rw [hbit] at HIN
        have HSN := Lib.hid hsn
        have HBX := Lib.hid (hb.alloc hYr (.cells #[.int .i64 y1, .int .u32 (wN y2)] 39))
        have HOX := Lib.hid (ho.alloc (.cells #[.int .i64 y1, .int .u32 (wN y2)] 39))
        have HKX := Lib.hid (Blk.new wr 39 #[.int .i64 y1, .int .u32 (wN y2)])
        have hXz : Y ≤ (wr.alloc (.cells #[.int .i64 y1, .int .u32 (wN y2)] 39)).heap.size := by rw [size_alloc']; omega
        have hA1 : ∀ g, blkOf A1 = some g → g < wr.heap.size := fun g hg => (ho.lt g hg).2
        obtain ⟨X, hX⟩ : ∃ X, X = wr.alloc (.cells #[.int .i64 y1, .int .u32 (wN y2)] 39) := ⟨_, rfl⟩
        obtain ⟨b1, hb1⟩ : ∃ b1, b1 = wr.heap.size := ⟨_, rfl⟩
        rw [← hX] at HIN HBX HOX HKX hXz
        rw [← hb1] at HKX hA1
        have k0 := HKX.out.cell 0
        have k1 := HKX.out.cell 1
        have q0 := HKX.out.frozen 0
        have hob := HOX.out.far (p := ⟨b1, 0, none⟩) (fun e => by have := hA1 b1 e; omega) (.int .i64 0)
        have hbb := HBX.out.setCell (p := ⟨b1, 0, none⟩) (show Y ≤ b1 by omega) (.int .i64 0)
        have hkb := HKX.out.put 0 (.int .i64 0)
        have hzb : Y ≤ (X.setCell ⟨b1, 0, none⟩ (.int .i64 0)).heap.size := by simpa using hXz
        obtain ⟨X2, hX2⟩ : ∃ X2, X2 = X.setCell ⟨b1, 0, none⟩ (.int .i64 0) := ⟨_, rfl⟩
        rw [← hX2] at hob hbb hkb hzb
        have HOB := Lib.hid hob
        have HBB := Lib.hid hbb
        have HX2 := Lib.hid hX2
        have j0 := hkb.cell 0
        have j1 := hkb.cell 1
        have HX := Lib.hid hX
        have HB1 := Lib.hid hb1
        clear hb ho hcr hXc htl hsn hbit hy hX hb1 hwk hob hbb hkb hX2 hA1
        go_wp2_with fail
        rw [← HX.out, ← HB1.out]
        refine HIN.out.mono ?_
        rintro e w2 ⟨rfl, rfl⟩
        have hq : (Value.int IntKind.i64 0) = .int .i64 0 := rfl
        clear hq
        rw [HX2.out] at hzb j0 j1 HOB HBB
        go_wp2_with (at_builtin; (
          refine wpList_push rfl _ _ _ rfl Y 2 39 (.agg #[.int .i64 0, .int .u32 0]) 16 Try.underlying22 (by kernel_rfl) rfl (by omega) wkcell (X.setCell ⟨b1, 0, none⟩ (.int .i64 0)) #[.int .i64 0, .int .u32 (wN y2)] A1 i cap1 _ HTL.out rfl HOB.out 1 [((0 : Int), y2)] rfl rfl X.heap.size rfl (by simp) (by simp [Value.oneCell']) (by unfold maxLen; omega) (by omega) hXz ?_
          intro A9 cap9 w9 hown9 hgrow9 hloc9))
        have hb9 := (HBB.out.alloc hzb _).grown hgrow9 (by rw [size_alloc']; omega) (fun g hg => (HOB.out.lt g hg).1)
        rw [← HSN.out] at hown9
        have HB9 := Lib.hid hb9
        have HO9 := Lib.hid hown9
        clear hb9 hown9 hgrow9 hloc9
        go_roundw
        case rel => exact ⟨i + 1, A9, cap9, by omega, by go_num, rfl, HB9.out, HO9.out⟩
        case measure => simp [intOf]; omega
    · obtain rfl : i = W := by omega
      rw [List.take_of_length_le (by rw [HNL.out]; exact Nat.le_refl _)] at ho
      have hcr := H.out.below hb (by rw [HY.out]; exact Nat.le_refl _)
      have c2 := hcr.blk.cell 2
      have HB1 := Lib.hid hb
      have HO1 := Lib.hid ho
      clear hb ho hcr
      go_wp2_with fail
      go_loopw [56, 12, 13] (fun s56 s12 s13 wq => ∃ (k : Nat) (A2 A3 : Option Addr) (n2 cap2 cap3 : Nat), k ≤ m ∧ s56 = .int .i64 k ∧ s12 = .slice A2 n2 cap2 ∧ s13 = .slice A3 n2 cap3 ∧ n2 = offN c.wants k ∧ Below Y V wq ∧ Own wq Y 39 2 wkcell A1 cap1 (nowF ws c.inn) ∧ Own wq Y 26 1 wcell A2 cap2 (tasksF (c.wants.take k) (svs.take k)) ∧ Own wq Y 3 1 icell A3 cap3 (whoTo c.wants k)) (fun s56 _ _ _ => m - (intOf s56).toNat)
      case atStart => exact ⟨0, none, none, 0, 0, 0, Nat.zero_le _, rfl, rfl, rfl, rfl, HB1.out, HO1.out, Own.nil _ _ _ (fun _ => rfl), Own.nil _ _ _ (fun _ => rfl)⟩
      case round =>
        clear HB1 HO1 c2 hYr
        rename World => wq
        obtain ⟨k, A2, A3, n2, cap2, cap3, hk, rfl, rfl, rfl, hn2, hb, ho1, ho2, ho3⟩ := hrel
        have hYq : Y ≤ wq.heap.size := by have := hb.size; rw [← HY.out] at this; exact this
        by_cases hkm : k < m
        · have hkl : k < c.wants.length := by rw [HWL.out]; exact hkm
          have hks : k < svs.length := by rw [HM.out]; exact hkm
          have hcr := H.out.below hb (by rw [HY.out]; exact Nat.le_refl _)
          obtain ⟨gw', hgw', _, _, r0, _⟩ := hcr.wnt.cell1 hkl
          have : gw = gw' := by simpa using hgw'
          subst this
          rw [← getD_at _ k hkl 0] at r0
          have hts := tasksF_succ c.wants svs k hkl hks
          have hwh := whoTo_succ c.wants k
          obtain ⟨n', hn⟩ : ∃ n' : Nat, c.wants.getD k 0 = n' := Int.eq_ofNat_of_zero_le (by rw [getD_at _ k hkl]; exact H0.out _ (List.getElem_mem hkl))
          rw [hn] at r0 hts hwh
          rw [Int.toNat_natCast] at hts hwh
          have hoff := offN_succ hkl
          rw [hn, Int.toNat_natCast] at hoff
          have hole := offN_le H0.out (k + 1)
          have h12 := H12.out
          have htl : (tasksF (c.wants.take k) (svs.take k)).length = n2 := by rw [tasksF_length c.wants svs (by rw [HWL.out, HM.out]) k (by omega), hn2]
          have hwl : (whoTo c.wants k).length = n2 := by rw [whoTo_len _ k (by omega), hn2]
          have hn16 : n2 + n' ≤ 12 := by omega
          have hoff2 : n2 + n' = offN c.wants (k + 1) := by omega
          obtain ⟨l2, hl2⟩ : ∃ l2, l2 = tasksF (c.wants.take k) (svs.take k) := ⟨_, rfl⟩
          obtain ⟨l3, hl3⟩ : ∃ l3, l3 = whoTo c.wants k := ⟨_, rfl⟩
          rw [← hl2] at ho2 hts htl
          rw [← hl3] at ho3 hwh hwl
          have HO1 := Lib.hid ho1
          have HO2 := Lib.hid ho2
          have HO3 := Lib.hid ho3
          have HB2 := Lib.hid hb
          have HTS2 := Lib.hid hts
          have HWH := Lib.hid hwh
          have HTL := Lib.hid htl
          have HWL2 := Lib.hid hwl
          have HOFF := Lib.hid hoff2
          clear ho1 ho2 ho3 hb hts hwh htl hwl hoff2 hoff hole h12 hl2 hl3 hcr hn hn2
          go_wp2_with fail
          go_loopw [16, 12, 13] (fun s16 s12 s13 wz => ∃ (q : Nat) (A2 A3 : Option Addr) (nq cap2 cap3 : Nat), q ≤ n' ∧ nq = n2 + q ∧ s16 = .int .i64 q ∧ s12 = .slice A2 nq cap2 ∧ s13 = .slice A3 nq cap3 ∧ Below Y V wz ∧ Own wz Y 39 2 wkcell A1 cap1 (nowF ws c.inn) ∧ Own wz Y 26 1 wcell A2 cap2 (l2 ++ List.replicate q (lw svs k)) ∧ Own wz Y 3 1 icell A3 cap3 (l3 ++ List.replicate q (k : Int)) ) (fun s16 _ _ _ => n' - (intOf s16).toNat)
          case atStart => exact ⟨0, A2, A3, n2, cap2, cap3, Nat.zero_le _, rfl, rfl, rfl, rfl, HB2.out, HO1.out, by rw [List.replicate_zero, List.append_nil]; exact HO2.out, by rw [List.replicate_zero, List.append_nil]; exact HO3.out⟩
          case round =>
            clear HB2 HO1 HO2 HO3 hYq r0
            rename World => wz
            obtain ⟨q, A2, A3, nq, cap2, cap3, hq, hnq, rfl, rfl, rfl, hb, ho1, ho2, ho3⟩ := hrel
            have hYz : Y ≤ wz.heap.size := by have := hb.size; rw [← HY.out] at this; exact this
            by_cases hqn : q < n'
            · obtain ⟨bs, os, hAB, hbs, t0⟩ := (HTS.out.below (hb.mono hloY)).at1 (f := fun x => .int .u32 (wN x)) hks
              subst hAB
              rw [← getD_at svs k hks w0] at t0
              have hlw : lw svs k = svs.getD k w0 := rfl
              rw [← hlw] at t0
              obtain ⟨x, hx⟩ : ∃ x, x = lw svs k := ⟨_, rfl⟩
              rw [← hx] at t0 ho2
              have hx2 : ∃ l', l' = l2 ++ List.replicate q x := ⟨_, rfl⟩
              obtain ⟨l2', hl2'⟩ := hx2
              obtain ⟨l3', hl3'⟩ : ∃ l', l' = l3 ++ List.replicate q (k : Int) := ⟨_, rfl⟩
              have hlen2 : l2'.length = nq := by rw [hl2', List.length_append, HTL.out, List.length_replicate, hnq]
              have hlen3 : l3'.length = nq := by rw [hl3', List.length_append, HWL2.out, List.length_replicate, hnq]
              have hs2 : l2' ++ [x] = l2 ++ List.replicate (q + 1) (lw svs k) := by rw [hl2', List.replicate_succ', List.append_assoc, ← hx]
              have hs3 : l3' ++ [(k : Int)] = l3 ++ List.replicate (q + 1) (k : Int) := by rw [hl3', List.replicate_succ', List.append_assoc]
              rw [← hl2'] at ho2
              rw [← hl3'] at ho3
              have HO1 := Lib.hid ho1
              have HO2 := Lib.hid ho2
              have HO3 := Lib.hid ho3
              have HBZ := Lib.hid hb
              have HN2 := Lib.hid hlen2
              have HN3 := Lib.hid hlen3
              have HS2 := Lib.hid hs2
              have HS3 := Lib.hid hs3
              have hnq12 : nq + 1 ≤ 12 := by omega
              have HNQ := Lib.hid hnq
              clear ho1 ho2 ho3 hb hlen2 hlen3 hs2 hs3 hl2' hl3' hx hlw hnq
              go_wp2_with (first
                | (at_builtin; (
                    refine wpList_push rfl _ _ _ rfl Y 1 26 (.int .u32 0) 4 Try.underlying23 (by kernel_rfl) rfl (by omega) wcell wz #[.int .u32 (wN x)] A2 nq cap2 l2' HN2.out rfl HO2.out 1 [x] rfl rfl _ rfl rfl (by simp [Value.oneCell']) (by unfold maxLen; omega) (by omega) hYz ?_
                    intro A8 cap8 w8 hown8 hgrow8 hloc8
                    have hz8 : Y ≤ w8.heap.size := Nat.le_trans hYz (Nat.le_trans (Nat.le_succ _) (Nat.le_trans (Nat.le_of_eq (size_alloc' _ _).symm) hgrow8.size))
                    have ho38 := Own.apart (HO3.out.alloc (.cells #[.int .u32 (wN x)] 26)) (HO2.out.alloc (.cells #[.int .u32 (wN x)] 26)) hgrow8 (by decide)))
                | (at_builtin; (
                    refine wpList_push rfl _ _ _ rfl Y 1 3 (.int .i64 0) 8 Try.underlying27 (by kernel_rfl) rfl (by omega) icell w8 #[.int .i64 k] A3 nq cap3 l3' HN3.out rfl ho38 1 [(k : Int)] rfl rfl _ rfl rfl (by simp [Value.oneCell']) (by unfold maxLen; omega) (by omega) hz8 ?_
                    intro A9 cap9 w9 hown9 hgrow9 hloc9)))
              have hb8 := (HBZ.out.alloc hYz _).grown hgrow8 (by rw [size_alloc']; omega) (fun g hg => (HO2.out.lt g hg).1)
              have hb9 := (hb8.alloc hz8 _).grown hgrow9 (by rw [size_alloc']; omega) (fun g hg => (ho38.lt g hg).1)
              have ho18 := Own.apart (HO1.out.alloc (.cells #[.int .u32 (wN x)] 26)) (HO2.out.alloc (.cells #[.int .u32 (wN x)] 26)) hgrow8 (by decide)
              have ho19 := Own.apart (ho18.alloc (.cells #[.int .i64 k] 3)) (ho38.alloc (.cells #[.int .i64 k] 3)) hgrow9 (by decide)
              have ho29 := Own.apart (hown8.alloc (.cells #[.int .i64 k] 3)) (ho38.alloc (.cells #[.int .i64 k] 3)) hgrow9 (by decide)
              rw [HS2.out] at ho29
              rw [HS3.out] at hown9
              have HB9 := Lib.hid hb9
              have HO19 := Lib.hid ho19
              have HO29 := Lib.hid ho29
              have HO39 := Lib.hid hown9
              clear hb8 hb9 ho18 ho19 ho29 hown9 hown8 ho38 hgrow8 hgrow9 hloc8 hloc9
              go_roundw
              case rel => exact ⟨q + 1, A8, A9, nq + 1, cap8, cap9, by omega, by rw [HNQ.out]; omega, by go_num, rfl, rfl, HB9.out, HO19.out, HO29.out, HO39.out⟩
              case measure => simp [intOf]; omega
            · obtain rfl : q = n' := by omega
              rw [← HTS2.out] at ho2
              rw [← HWH.out] at ho3
              rw [HOFF.out] at hnq
              have HO1 := Lib.hid ho1
              have HO2 := Lib.hid ho2
              have HO3 := Lib.hid ho3
              have HBZ := Lib.hid hb
              have HNQ := Lib.hid hnq
              clear ho1 ho2 ho3 hb hnq
              go_wp2_with fail
              go_roundw
              case rel => exact ⟨k + 1, A2, A3, nq, cap2, cap3, by omega, by go_num, rfl, rfl, HNQ.out, HBZ.out, HO1.out, HO2.out, HO3.out⟩
              case measure => simp [intOf]; omega
        · obtain rfl : k = m := by omega
          have hcr := H.out.below hb (by rw [HY.out]; exact Nat.le_refl _)
          have htw : tasksF (c.wants.take k) (svs.take k) = tasksF c.wants svs := by
            rw [List.take_of_length_le (by rw [HWL.out]; exact Nat.le_refl _), List.take_of_length_le (by rw [HM.out]; exact Nat.le_refl _)]
          have htl : (tasksF (c.wants.take k) (svs.take k)).length = n2 := by rw [tasksF_length c.wants svs (by rw [HWL.out, HM.out]) k (by rw [HWL.out]; exact Nat.le_refl _), hn2]
          rw [htw] at ho2 htl
          have hole := offN_le H0.out k
          have h12 := H12.out
          have hn12 : n2 ≤ 12 := by omega
          have hwl : (whoTo c.wants k).length = n2 := by rw [whoTo_len _ k (by rw [HWL.out]; exact Nat.le_refl _), hn2]
          have hwe : whoTo c.wants k = whoTo c.wants c.wants.length := by rw [HWL.out]
          rw [hwe] at ho3 hwl
          obtain ⟨who3, hwho3⟩ : ∃ x, x = whoTo c.wants c.wants.length := ⟨_, rfl⟩
          obtain ⟨tk, htk⟩ : ∃ x, x = tasksF c.wants svs := ⟨_, rfl⟩
          rw [← hwho3] at ho3 hwl
          rw [← htk] at ho2 htl
          have d3 := hcr.blk.cell 3
          have HWHO := Lib.hid hwho3
          have HTK := Lib.hid htk
          have HTL := Lib.hid htl
          have HWL3 := Lib.hid hwl
          have HN2 := Lib.hid hn2
          have HO1 := Lib.hid ho1
          have HO2 := Lib.hid ho2
          have HO3 := Lib.hid ho3
          have HC := Lib.hid hcr.map
          have HBL := Lib.hid (HB.out.trans (hb.mono hloY))
          clear ho1 ho2 ho3 hcr htw htl hole h12 hwl hwe hwho3 htk hb hn2
          go_wp2_with fail
          go_loopw [83] (fun s83 wr => ClearJ lo P k gw gt Ac kc c w V Y A1 A2 A3 cap1 cap2 cap3 (nowF ws c.inn) tk who3 s83 wr) (fun s83 _ => k - (intOf s83).toNat)
          case atStart => exact ⟨0, rows, Nat.zero_le _, rfl, HBL.out, hYq, HC.out, HO1.out, HO2.out, HO3.out, fun j hj => by omega⟩
          case round =>
            clear HBL HC HO1 HO2 HO3 hYq d3
            rename World => wr
            obtain ⟨j, rows', hj, rfl, hb, hYr, h, ho1, ho2, ho3, hnil⟩ := hrel
            by_cases hjm : j < k
            · have hjr : j < rows'.length := by rw [h.rl]; exact hjm
              have d3 := h.blk.cell 3
              obtain ⟨gt', hgt', hlg, _, r2, f2⟩ := h.tab.cell1 (f := fun s : Sls Int => s.val) hjr
              have : gt = gt' := by simpa using hgt'
              subst this
              have hput := h.put (s := ⟨none, 0, []⟩) hjm h.blk h.cod h.wnt h.tab (fun j hj _ => h.row j hj) (Own.nil _ _ _ (fun _ => rfl)) (fun j hj _ g hg => by cases hg) (fun e => by cases e)
              rw [← List.map_set] at hput
              have htyp : ∀ {α : Type} {BB cc cap : Nat} {e : TypeId} {f : α → List Value} {AA : Option Addr} {l : List α}, Own wr BB e cc f AA cap l → e ≠ 27 → Own (wr.setCell ⟨gt, j, none⟩ (.slice none 0 0)) BB e cc f AA cap l := fun ho he =>
                ho.far (p := ⟨gt, j, none⟩) (fun e => by
                  obtain ⟨cur, hcur⟩ := own_cellsAt ho e
                  exact own_far_blk h.tab hcur (fun e => he e.symm) rfl) _
              have hsv : (⟨none, 0, []⟩ : Sls Int).val = .slice none 0 0 := rfl
              rw [hsv] at hput
              have HPUT := Lib.hid hput
              have HO1 := Lib.hid (htyp ho1 (by decide))
              have HO2 := Lib.hid (htyp ho2 (by decide))
              have HO3 := Lib.hid (htyp ho3 (by decide))
              have HB3 := Lib.hid (hb.setCell (p := ⟨gt, j, none⟩) hlg (.slice none 0 0))
              have hnx : ∀ q, q < j + 1 → rwAt (rows'.set j ⟨none, 0, []⟩) q = ⟨none, 0, []⟩ := fun q hq => by
                rw [show rwAt (rows'.set j ⟨none, 0, []⟩) q = if j = q then ⟨none, 0, []⟩ else rwAt rows' q from getD_set_any rows' j q _ _ hjr]
                split
                · rfl
                · exact hnil q (by omega)
              have HNX := Lib.hid hnx
              generalize rows'[j] = rj at r2
              clear hput hb h ho1 ho2 ho3 hnil hnx hsv htyp
              go_wp2_with fail
              go_roundw
              case rel => exact ⟨j + 1, _, by omega, by go_num, HB3.out, by simpa using hYr, HPUT.out, HO1.out, HO2.out, HO3.out, HNX.out⟩
              case measure => simp [intOf]; omega
            · obtain rfl : j = k := by omega
              have hc2 := ho2.cap_le
              rw [HTL.out] at hc2
              have HPL := Lib.hid (ref_Placed A1 A2 i cap1 n2 cap2 (nowF ws c.inn) tk wr HNL.out hW6 HTL.out hn12 hc2 (now_rooms HG.out) ho1.els ho2.els)
              have hpe : placedG (nowF ws c.inn) tk ((nowF ws c.inn).map (·.1)) = mostF (nowF ws c.inn) tk := placed_most _ _ _ (by rw [List.length_map]) (fun q => by
                rw [nowF_room]
                split
                · rcases Nat.lt_or_ge q ws.length with hq | hq
                  · have : wk ws q ∈ ws := by
                      unfold wk
                      rw [getD_at ws q hq]
                      exact List.getElem_mem hq
                    exact (HG.out _ this).1
                  · unfold wk
                    rw [List.getD_eq_getElem?_getD, List.getElem?_eq_none hq]
                    exact Int.le_refl _
                · exact Int.le_refl _)
              rw [hpe] at HPL
              obtain ⟨full, hfull⟩ : ∃ full, full = mostF (nowF ws c.inn) tk := ⟨_, rfl⟩
              have hfl : full.length = n2 := by rw [hfull, mostF_len, HTL.out]
              rw [← hfull] at HPL
              have HFULL := Lib.hid hfull
              have HFL := Lib.hid hfl
              have HC := Lib.hid h
              have HB4 := Lib.hid hb
              have HO3 := Lib.hid ho3
              have HNIL := Lib.hid hnil
              clear hb h ho1 ho2 ho3 hnil hpe hfull hfl hc2
              go_wp2_with fail
              refine HPL.out.mono ?_
              clear HPL
              rintro e w5 ⟨A5, cap5, rfl, hb5, ho5⟩
              have hloz5 : lo ≤ wr.heap.size := by omega
              have h5 := HC.out.below hb5 (Nat.le_refl _)
              have HC5 := Lib.hid h5
              have HB5 := Lib.hid (HB4.out.trans (hb5.mono hloz5))
              have HO35 := Lib.hid (HO3.out.below hb5 (Nat.le_refl _))
              have HO55 := Lib.hid (ho5.weaken hYr)
              obtain ⟨D, hD⟩ : ∃ D, D = w5.heap.size := ⟨_, rfl⟩
              have HL3 := Lib.hid (fun g (hg : blkOf A3 = some g) => (HO35.out.lt g hg).2)
              have HL5 := Lib.hid (fun g (hg : blkOf A5 = some g) => (HO55.out.lt g hg).2)
              have hDD : D ≤ w5.heap.size := by omega
              rw [← hD] at HL3 HL5
              have hYD : Y ≤ D := by rw [hD]; have := hb5.size; omega
              have hrows : ∀ q, q < j → (rwAt rows' q).l = rwTo full who3 q 0 ∧ blkOf (rwAt rows' q).A = none := fun q hq => by rw [HNIL.out q hq]; exact ⟨rfl, rfl⟩
              have HROWS := Lib.hid hrows
              clear hb5 ho5 h5 hD hrows HC HB4 HO3
              go_wp2_with fail
              go_loopw [97] (fun s97 wr => HandJ lo P j gw gt Ac kc c full who3 A3 A5 cap3 cap5 n2 Y D w V s97 wr) (fun s97 _ => n2 - (intOf s97).toNat)
              case atStart => exact ⟨0, rows', Nat.zero_le _, rfl, HB5.out, hDD, HC5.out, HO35.out, HO55.out, (fun q hq g hg => by rw [(HROWS.out q hq).2] at hg; cases hg), fun q hq => (HROWS.out q hq).1⟩
              case round =>
                clear HB5 hDD HC5 HO35 HO55 HROWS HNIL
                rename World => wq
                obtain ⟨p, rowsq, hp, rfl, hb, hDq, h, ho3, ho5, hblk, hdone⟩ := hrel
                by_cases hpn : p < n2
                · have hpl : p < full.length := by rw [HFL.out]; exact hpn
                  have hpw : p < who3.length := by rw [HWL3.out]; exact hpn
                  obtain ⟨b5, o5, hA5, hb5z, t5⟩ := ho5.els.at1 (f := fun x : Int => .int .i64 x) hpl
                  subst hA5
                  obtain ⟨b3, o3, hA3, hb3z, t3⟩ := ho3.els.at1 (f := fun x : Int => .int .i64 x) hpw
                  subst hA3
                  obtain ⟨s, hsk, hws, _, _⟩ := whoTo_at c.wants c.wants.length (Nat.le_refl _) p (by rw [HWL.out, ← HN2.out]; exact hpn)
                  rw [HWL.out] at hsk
                  rw [← HWHO.out] at hws
                  have hws2 : who3[p] = (s : Int) := by rw [← hws]; exact (getD_at who3 p hpw 0).symm
                  rw [hws2] at t3
                  have hfp : full.getD p 0 = full[p] := getD_at full p hpl 0
                  have hrs : ∀ q, rwTo full who3 q (p + 1) = if ((s : Int) = (q : Int) ∧ 0 ≤ full[p]) then rwTo full who3 q p ++ [full[p]] else rwTo full who3 q p := fun q => by rw [rwTo_succ, hws, hfp]
                  obtain ⟨x, hx⟩ : ∃ x, x = full[p] := ⟨_, rfl⟩
                  rw [← hx] at t5
                  simp only [← hx] at hrs
                  by_cases hx0 : 0 ≤ x
                  · have hsr : s < rowsq.length := by rw [h.rl]; exact hsk
                    obtain ⟨gt', hgt', hlg, _, r0, _⟩ := h.tab.cell1 (f := fun s : Sls Int => s.val) hsr
                    have : gt = gt' := by simpa using hgt'
                    subst this
                    rw [← getD_at rowsq s hsr ⟨none, 0, []⟩] at r0
                    have hat : rowsq.getD s ⟨none, 0, []⟩ = rwAt rowsq s := rfl
                    rw [hat] at r0
                    have hck := h.row s hsk
                    have hsl := hdone s hsk
                    have hbs := hblk s hsk
                    have hsfar := fun q (hq : q < j) (hne : q ≠ s) => h.far s q hsk hq (fun e => hne e.symm)
                    have hsnw := h.nw s hsk
                    obtain ⟨sk, hsk'⟩ : ∃ sk, sk = rwAt rowsq s := ⟨_, rfl⟩
                    rw [← hsk'] at r0 hck hsl hbs hsfar hsnw
                    obtain ⟨skA, skc, skl⟩ := sk
                    simp only at hck hsl hbs hsfar hsnw
                    obtain ⟨L, hL⟩ : ∃ L, L = skl.length := ⟨_, rfl⟩
                    have r1 : wq.cell? ⟨gt, s, none⟩ = some (.slice skA L skc) := by rw [hL]; exact r0
                    have hLp : L ≤ p := by rw [hL, hsl]; exact rwTo_len _ _ _ _
                    have d3 := h.blk.cell 3
                    have hlow : lo ≤ wq.heap.size := by have := h.blk.lt; have := h.hlo; omega
                    have HH := Lib.hid h
                    have HO3 := Lib.hid ho3
                    have HO5 := Lib.hid ho5
                    have HCK := Lib.hid hck
                    have HL := Lib.hid hL
                    have HSL := Lib.hid hsl
                    have HBS := Lib.hid hbs
                    have HSF := Lib.hid hsfar
                    have HNW := Lib.hid hsnw
                    have HBLK := Lib.hid hblk
                    have HDONE := Lib.hid hdone
                    have HRS := Lib.hid hrs
                    have HBQ := Lib.hid hb
                    have HSK := Lib.hid hsk'
                    have HWS2 := Lib.hid hws2
                    have hsm := hsk
                    clear h ho3 ho5 hck hL hsl hbs hsfar hsnw hblk hdone hrs hb hsk' r0 hx hfp hws hws2 hat
                    go_wp2_with fail
                    refine region_plain 22 23 (fun w' => w'.cell? ⟨P, 3, none⟩ = some (.slice (some ⟨gt, 0, none⟩) j j) ∧ w'.cell? ⟨b3, o3 + p, none⟩ = some (.int .i64 s) ∧ w'.cell? ⟨gt, s, none⟩ = some (.slice skA L skc)) (by kernel_rfl) rfl ?_
                    refine anyC_reads (by kernel_rfl) [0, 1, 2, 3, 4, 5, 6, 7, 8, 9, 10, 11, 12, 13, 14, 15, 16, 17, 18] ?opz ?ohz 4 _ _ _ (by kernel_rfl) ?okz
                    case ohz => (simp only [List.filterMap_cons, List.filterMap_nil, List.getElem?_toArray, List.getElem?_cons_zero, List.getElem?_cons_succ]; try rfl)
                    repeat (
                      refine readC_step (v := ?_) rfl (fun w' hw' => ?_) ?_
                      rotate_left
                      focus (obtain ⟨p1, p2, p3⟩ := hw'; go_simp; try with_reducible rfl)
                      go_simp)
                    refine readC_nil ?_
                    refine anyC_one (i := 19) (by kernel_rfl) rfl rfl (.inr ⟨d3, t3, r1⟩) ?_
                    go_simp
                    have hlit := (Blk.new wq 3 #[.int .i64 x]).drew
                    have h7 := (HH.out.alloc (.cells #[.int .i64 x] 3)).drew
                    have ho37 := ((HO3.out).alloc (.cells #[.int .i64 x] 3)).drew
                    have ho57 := ((HO5.out).alloc (.cells #[.int .i64 x] 3)).drew
                    have hck7 := ((HCK.out).alloc (.cells #[.int .i64 x] 3)).drew
                    have hb7 := ((HBQ.out).alloc hlow (.cells #[.int .i64 x] 3)).drew
                    have hz7 : ((wq.alloc (.cells #[.int .i64 x] 3)).drew).heap.size = wq.heap.size + 1 := size_alloc' _ _
                    obtain ⟨w7, hw7⟩ : ∃ w7, w7 = (wq.alloc (.cells #[.int .i64 x] 3)).drew := ⟨_, rfl⟩
                    rw [← hw7] at hlit h7 ho37 ho57 hck7 hb7 hz7
                    have d37 := h7.blk.cell 3
                    obtain ⟨b3', o3', hA3', _, t37⟩ := ho37.els.at1 (f := fun x : Int => .int .i64 x) hpw
                    simp only [Option.some.injEq, Addr.mk.injEq] at hA3'
                    obtain ⟨rfl, rfl, -⟩ := hA3'
                    rw [HWS2.out] at t37
                    obtain ⟨gt', hgt', _, _, r7, _⟩ := h7.tab.cell1 (f := fun s : Sls Int => s.val) hsr
                    have : gt = gt' := by simpa using hgt'
                    subst this
                    rw [← getD_at rowsq s hsr ⟨none, 0, []⟩, show rowsq.getD s ⟨none, 0, []⟩ = rwAt rowsq s from rfl, ← HSK.out] at r7
                    have r71 : w7.cell? ⟨gt, s, none⟩ = some (.slice skA L skc) := by rw [HL.out]; exact r7
                    have HLIT := Lib.hid hlit
                    have H7 := Lib.hid h7
                    have HO37 := Lib.hid ho37
                    have HO57 := Lib.hid ho57
                    have HCK7 := Lib.hid hck7
                    have HB7 := Lib.hid hb7
                    have HW7 := Lib.hid hw7
                    have hlo7 : lo ≤ w7.heap.size := by rw [hz7]; omega
                    clear hlit h7 ho37 ho57 hck7 hb7 hw7 r7
                    rw [← HW7.out]
                    refine anyC_one (i := 20) (by kernel_rfl) rfl rfl (.inr ⟨d37, t37, r71⟩) ?_
                    refine wp_append_els _ _ 27 rfl lo 1 3 (.int .i64 0) 8 Try.underlying27 (by kernel_rfl) rfl (by omega) icell _ skA L skc skl HL.out.symm rfl HCK7.out _ 1 1 [x] rfl rfl _ (els_of_blk HLIT.out 1 icell (fun _ => rfl) [x] rfl) (by simp [Value.oneCell']) (by unfold maxLen; omega) (by omega) hlo7 ?_
                    intro A8 cap8 w8 hown8 hgrow8 hloc8
                    have hz8 := hgrow8.size
                    have hk8 := H7.out.blk.grown hgrow8 (fun e => own_far_blk HCK7.out H7.out.blk (by decide) e.symm)
                    have htab8 := Own.apart H7.out.tab HCK7.out hgrow8 (by decide)
                    have hcod8 := Own.apart H7.out.cod HCK7.out hgrow8 (by decide)
                    have hwnt8 := H7.out.wnt.kept hgrow8 (.inr fun e => HNW.out e.symm)
                    have hrow8 : ∀ q, q < j → q ≠ s → Own w8 lo 3 1 icell (rwAt rowsq q).A (rwAt rowsq q).c (rwAt rowsq q).l := fun q hq hne => by
                      refine (H7.out.row q hq).kept hgrow8 ?_
                      cases hA : blkOf (rwAt rowsq q).A with
                      | none => exact .inl rfl
                      | some g => exact .inr fun e => HSF.out q hq hne g e.symm hA
                    have hD3 : blkOf (some ⟨b3, o3, none⟩) ≠ blkOf skA := fun e => by
                      have h1 := HL3.out b3 rfl
                      have h2 := HBS.out b3 (by rw [← e]; rfl)
                      omega
                    have hD5 : blkOf (some ⟨b5, o5, none⟩) ≠ blkOf skA := fun e => by
                      have h1 := HL5.out b5 rfl
                      have h2 := HBS.out b5 (by rw [← e]; rfl)
                      omega
                    have ho38 := HO37.out.kept hgrow8 (.inr hD3)
                    have ho58 := HO57.out.kept hgrow8 (.inr hD5)
                    have hb8 := (HB7.out.grown hgrow8 hlo7 (fun g hg => (HCK7.out.lt g hg).1)).setCell (p := ⟨gt, s, none⟩) hlg (.slice A8 (L + 1) cap8)
                    have hA8D : ∀ g, blkOf A8 = some g → D ≤ g := fun g hg => by
                      rcases hloc8 with e | e
                      · exact HBS.out g (by rw [← e]; exact hg)
                      · have : g = w7.heap.size := by rw [hg] at e; simpa using e
                        omega
                    have hnewb : ∀ q, q < j → ∀ g, blkOf (rwAt rowsq q).A = some g → g < w7.heap.size := fun q hq g hg => ((H7.out.row q hq).lt g hg).2
                    have hgw7 : gw < w7.heap.size := (H7.out.wnt.lt gw rfl).2
                    have hput := H7.out.put (s := ⟨A8, cap8, skl ++ [x]⟩) hsm hk8 hcod8 hwnt8 htab8 hrow8 hown8 (fun q hq hne g hg e => by
                      rcases hloc8 with e2 | e2
                      · exact HSF.out q hq hne g (by rw [← e2]; exact hg) e
                      · have h1 : g = w7.heap.size := by rw [hg] at e2; simpa using e2
                        have h2 := hnewb q hq g e
                        omega) (fun e => by
                      rcases hloc8 with e2 | e2
                      · exact HNW.out (by rw [← e2]; exact e)
                      · have h1 : gw = w7.heap.size := by rw [e] at e2; simpa using e2
                        omega)
                    rw [← List.map_set] at hput
                    have hsv : (⟨A8, cap8, skl ++ [x]⟩ : Sls Int).val = .slice A8 (L + 1) cap8 := by
                      show Value.slice A8 (skl ++ [x]).length cap8 = _
                      rw [List.length_append, ← HL.out]
                      rfl
                    rw [hsv] at hput
                    have htyp : ∀ {α : Type} {BB cc cap : Nat} {e : TypeId} {f : α → List Value} {AA : Option Addr} {l : List α}, Own w8 BB e cc f AA cap l → e ≠ 27 → Own (w8.setCell ⟨gt, s, none⟩ (.slice A8 (L + 1) cap8)) BB e cc f AA cap l := fun ho he =>
                      ho.far (p := ⟨gt, s, none⟩) (fun e => by
                        obtain ⟨cur, hcur⟩ := own_cellsAt ho e
                        exact own_far_blk htab8 hcur (fun e => he e.symm) rfl) _
                    have hat : ∀ q, rwAt (rowsq.set s ⟨A8, cap8, skl ++ [x]⟩) q = if s = q then ⟨A8, cap8, skl ++ [x]⟩ else rwAt rowsq q := fun q => getD_set_any rowsq s q _ _ hsr
                    have hblk9 : ∀ q, q < j → ∀ g, blkOf (rwAt (rowsq.set s ⟨A8, cap8, skl ++ [x]⟩) q).A = some g → D ≤ g := fun q hq g hg => by
                      rw [hat] at hg
                      split at hg
                      · exact hA8D g hg
                      · exact HBLK.out q hq g hg
                    have hdone9 : ∀ q, q < j → (rwAt (rowsq.set s ⟨A8, cap8, skl ++ [x]⟩) q).l = rwTo full who3 q (p + 1) := fun q hq => by
                      rw [hat, HRS.out]
                      split
                      · rename_i e
                        rw [if_pos ⟨by rw [e], hx0⟩, ← e, ← HSL.out]
                      · rename_i e
                        rw [if_neg (fun h => e (by have := h.1; omega))]
                        exact HDONE.out q hq
                    obtain ⟨gt', hgt', _, _, r8, f8⟩ := htab8.cell1 (f := fun s : Sls Int => s.val) hsr
                    have : gt = gt' := by simpa using hgt'
                    subst this
                    rw [← getD_at rowsq s hsr ⟨none, 0, []⟩, show rowsq.getD s ⟨none, 0, []⟩ = rwAt rowsq s from rfl, ← HSK.out] at r8
                    have r81 : w8.cell? ⟨gt, s, none⟩ = some (.slice skA L skc) := by rw [HL.out]; exact r8
                    have d38 := hk8.cell 3
                    obtain ⟨b3', o3', hA3', _, t38⟩ := ho38.els.at1 (f := fun x : Int => .int .i64 x) hpw
                    simp only [Option.some.injEq, Addr.mk.injEq] at hA3'
                    obtain ⟨rfl, rfl, -⟩ := hA3'
                    rw [HWS2.out] at t38
                    have HPUT := Lib.hid hput
                    have HB9 := Lib.hid hb8
                    have HO39 := Lib.hid (htyp ho38 (by decide))
                    have HO59 := Lib.hid (htyp ho58 (by decide))
                    have HBLK9 := Lib.hid hblk9
                    have HDONE9 := Lib.hid hdone9
                    have hD9 : D ≤ (w8.setCell ⟨gt, s, none⟩ (.slice A8 (L + 1) cap8)).heap.size := by
                      have : (w8.setCell ⟨gt, s, none⟩ (.slice A8 (L + 1) cap8)).heap.size = w8.heap.size := by simp
                      omega
                    clear hput hb8 htyp hblk9 hdone9 ho38 ho58 hown8 hgrow8 hloc8 hk8 htab8 hcod8 hwnt8 hrow8 hat hsv hA8D hnewb r8
                    go_simp
                    refine anyC_one (i := 21) (by kernel_rfl) rfl rfl (.inr ⟨d38, t38, r81⟩) ?_
                    go_simp
                    refine anyC_one (i := 22) (by kernel_rfl) rfl rfl (.inr ⟨d38, t38, r81⟩) ?_
                    go_simp
                    refine anyC_end (by kernel_rfl) (.inl rfl) ?_
                    go_wp2_with fail
                    go_roundw
                    case rel => exact ⟨p + 1, _, by omega, by go_num, HB9.out, hD9, HPUT.out, HO39.out, HO59.out, HBLK9.out, HDONE9.out⟩
                    case measure => simp [intOf]; omega
                  · have HNX : Hid (∀ q, q < j → (rwAt rowsq q).l = rwTo full who3 q (p + 1)) := Lib.hid (fun q hq => by rw [hrs, if_neg (fun e => hx0 e.2)]; exact hdone q hq)
                    have HH := Lib.hid h
                    have HO3 := Lib.hid ho3
                    have HO5 := Lib.hid ho5
                    have HBLK := Lib.hid hblk
                    have HBQ := Lib.hid hb
                    clear h ho3 ho5 hblk hdone hrs hb hx hfp hws hws2
                    go_wp2_with fail
                    go_roundw
                    case rel => exact ⟨p + 1, rowsq, by omega, by go_num, HBQ.out, hDq, HH.out, HO3.out, HO5.out, HBLK.out, HNX.out⟩
                    case measure => simp [intOf]; omega
                · obtain rfl : p = n2 := by omega
                  have he : rowsq.map (·.l) = cutF c.wants full := tickI_end h.rl (by rw [cutF_length]; exact HWL.out) (fun q hq => by
                    rw [hdone q hq, HWHO.out, ← HFL.out]
                    refine rwTo_cut (by rw [HFL.out, HN2.out, HWL.out]) (by rw [HWL.out]; exact hq))
                  rw [he, HFULL.out, HTK.out] at h
                  have H' := Lib.hid h
                  have HB' := Lib.hid hb
                  clear h hb hdone he ho3 ho5
                  go_wp2_with fail
                  go_ret
                  exact ⟨ret_i64 rfl, HB'.out, rowsq, H'.out⟩
end Go.Proofs.Ytdinknpagklkjaa
