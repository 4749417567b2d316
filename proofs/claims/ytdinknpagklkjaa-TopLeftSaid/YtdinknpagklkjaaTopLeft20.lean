/- The statement TopLeft: its law's walk. Conditions: workers, services and changes read as lists; the changes take no more memory than there is. -/
import Derived.Test.YtdinknpagklkjaaTopLeft19
namespace Go.Proofs.Ytdinknpagklkjaa
open Go.RowKit
attribute [local go_sem] Oper.semAt_some

theorem filter_ne_self {l : List Int} {j : Int} (h : ∀ x ∈ l, x ≠ j) : (l.filter fun x => x != j) = l := by
  rw [List.filter_eq_self]
  intro x hx
  simpa using h x hx
theorem leave_law {ws : List Wk} {svs : List (BitVec 32)} {c : Cw} (h : CwOk ws svs c) (j : Int) : (∀ s, (stepF ws svs c (2, j, 0)).tasks.getD s [] = (c.tasks.getD s []).filter fun x => x != j) ∧ (stepF ws svs c (2, j, 0)).wants = c.wants ∧ (stepF ws svs c (2, j, 0)).codes = c.codes ++ [(chgF ws svs c (2, j, 0)).2] ∧ ((chgF ws svs c (2, j, 0)).2 == 0) = (decide (0 ≤ j) && decide (j < ws.length) && bitB c.inn j) := by
  have hstay : (∀ q : Nat, j = q → q < ws.length → bitB c.inn q = true → False) → ∀ s, c.tasks.getD s [] = (c.tasks.getD s []).filter fun x => x != j := fun hno s => by
    refine (filter_ne_self fun x hx e => ?_).symm
    obtain ⟨q, h1, h2, h3, _⟩ := h.tk s x hx
    exact hno q (by rw [← e]; exact h1) h2 h3
  have e0 : chgF ws svs c (2, j, 0) = if j < 0 ∨ (ws.length : Int) ≤ j then (c, 2) else if bitB c.inn j = false then (c, 7) else ({ c with inn := wBut c.inn (wShl w1 j.toNat), tasks := leftF c.tasks j }, 0) := by
    by_cases h1 : j < 0 ∨ (ws.length : Int) ≤ j
    · rw [if_pos h1]
      unfold chgF
      rw [if_neg (by show ¬((2 : Int) < 1 ∨ (4 : Int) < 2); omega), if_neg (by show ¬((2 : Int) = 4); omega), if_pos]
      show j < 0 ∨ ((if (2 : Int) = 3 then svs.length else ws.length : Nat) : Int) ≤ j
      rw [if_neg (by omega)]
      exact h1
    · rw [if_neg h1]
      unfold chgF
      rw [if_neg (by show ¬((2 : Int) < 1 ∨ (4 : Int) < 2); omega), if_neg (by show ¬((2 : Int) = 4); omega), if_neg (c := _ ∨ _), if_neg (by show ¬((2 : Int) = 3); omega)]
      · by_cases h3 : bitB c.inn j = false
        · rw [if_pos h3, if_pos (by show bitB c.inn j = decide ((2 : Int) = 1); rw [h3]; rfl)]
        · rw [if_neg h3, if_neg (by show ¬(bitB c.inn j = decide ((2 : Int) = 1)); exact h3), if_neg (by show ¬((2 : Int) = 1); omega)]
      · show ¬(j < 0 ∨ ((if (2 : Int) = 3 then svs.length else ws.length : Nat) : Int) ≤ j)
        rw [if_neg (by omega)]
        exact h1
  unfold stepF
  rw [e0]
  by_cases h1 : j < 0 ∨ (ws.length : Int) ≤ j
  · rw [if_pos h1]
    refine ⟨hstay (fun q hq hw _ => by omega), rfl, rfl, ?_⟩
    have : (decide (0 ≤ j) && decide (j < ws.length)) = false := by
      rw [Bool.and_eq_false_iff]
      rcases h1 with h1 | h1
      · exact .inl (decide_eq_false (by omega))
      · exact .inr (decide_eq_false (by omega))
    rw [this]
    rfl
  · rw [if_neg h1]
    have h2 : (decide (0 ≤ j) && decide (j < ws.length)) = true := by
      rw [Bool.and_eq_true]
      exact ⟨decide_eq_true (by omega), decide_eq_true (by omega)⟩
    rw [h2, Bool.true_and]
    by_cases h3 : bitB c.inn j = false
    · rw [if_pos h3]
      refine ⟨hstay (fun q hq hw hb => by rw [hq, hb] at h3; cases h3), rfl, rfl, ?_⟩
      rw [h3]
      rfl
    · rw [if_neg h3]
      refine ⟨fun s => left_getD _ _ _, rfl, rfl, ?_⟩
      have : bitB c.inn j = true := by simpa using h3
      rw [this]
      rfl
set_option maxRecDepth 100000 in
set_option maxHeartbeats 2000000 in
theorem law_TopLeft (A B C : Option Addr) (W cA m cB L cC : Nat) (j : Int) (ws : List Wk) (svs : List (BitVec 32)) (script : List Chg) (w : World) (hW : ws.length = W) (hM : svs.length = m) (hL : script.length = L) (hWm : W ≤ maxLen) (hmm : m ≤ maxLen) (hLb : L * 24 ≤ 140737488351232) (hws : Els w w.heap.size 2 wkcell A ws) (hts : Els w w.heap.size 1 wcell B svs) (hcs : Els w w.heap.size 3 chcell C script) :
    Calls Try.prog 5 #[.slice A W cA, .slice B m cB, .slice C L cC, .int .i64 j] w fun e w' => e = .returned (.bool true) ∧ Below w.heap.size w w' := by
  obtain ⟨S, hS⟩ : ∃ S, S = w.heap.size := ⟨_, rfl⟩
  rw [← hS] at hws hts hcs ⊢
  have HS := Lib.hid hS
  have HW := Lib.hid hW
  have HM := Lib.hid hM
  have HL := Lib.hid hL
  have HWS := Lib.hid hws
  have HTS := Lib.hid hts
  have HCS := Lib.hid hcs
  have hE0 := Own.empty w 41 3 chcell (fun _ => rfl)
  have hb0 := (Below.refl S w).alloc (by omega) (.cells #[] 41)
  have hz0 : (w.alloc (.cells #[] 41)).heap.size = S + 1 := by rw [size_alloc', hS]
  obtain ⟨V0, hV0⟩ : ∃ V0, V0 = w.alloc (.cells #[] 41) := ⟨_, rfl⟩
  rw [← hV0] at hE0 hb0 hz0
  rw [← hS] at hE0
  have HE0 := Lib.hid hE0
  have HB0 := Lib.hid hb0
  have hS2 : w.heap.size = S := hS.symm
  clear hS hW hM hL hws hts hcs hE0 hb0
  go_enter Try.func5, Try.ntmps5
  go_wp2_with (first
    | (at_builtin; (refine wpList_append_els rfl _ _ _ rfl S 3 41 chzero 24 Try.underlying24 (by kernel_rfl) rfl (by omega) chcell _ (some ⟨S, 0, none⟩) 0 0 [] rfl rfl (by rw [← hV0]; exact HE0.out) _ L cC script HL.out rfl _ (HCS.out.below (by rw [← hV0]; exact HB0.out)) (one_flat (fun a u hu => by simp at hu; rcases hu with rfl | rfl | rfl <;> rfl) _) (by unfold maxLen; omega) (by omega) (by rw [← hV0, hz0]; omega) ?_; intro A1 cap1 w1 hown1 hgrow1 hloc1; rw [List.nil_append] at hown1; have hz1 : S + 1 ≤ w1.heap.size := by (have := hgrow1.size; rw [← hV0, hz0] at this; exact this)))
    | (at_builtin; (refine wpList_push rfl _ _ _ rfl S 3 41 chzero 24 Try.underlying24 (by kernel_rfl) rfl (by omega) chcell w1 #[.int .i64 2, .int .i64 j, .int .i64 0] A1 L cap1 script HL.out rfl hown1 1 [((2 : Int), j, (0 : Int))] rfl rfl _ rfl rfl (by simp [Value.oneCell']) (by unfold maxLen; omega) (by omega) (by omega) ?_; intro A2 cap2 w2 hown2 hgrow2 hloc2; have hz2 : S + 1 ≤ w2.heap.size := Nat.le_trans hz1 (Nat.le_trans (Nat.le_succ _) (Nat.le_trans (Nat.le_of_eq (size_alloc' _ _).symm) hgrow2.size)))))
  have hb01 : Below S w w1 := (HB0.out).grown (by rw [hV0]; exact hgrow1) (by omega) (fun g hg => by
    have : S = g := by simpa [blkOf] using hg
    omega)
  have hb02 : Below S w w2 := (hb01.alloc (by omega) _).grown hgrow2 (by rw [size_alloc']; omega) (fun g hg => (hown1.lt g hg).1)
  have hone := hown2.els
  obtain ⟨one, hone'⟩ : ∃ l, l = script ++ [((2 : Int), j, (0 : Int))] := ⟨_, rfl⟩
  rw [← hone'] at hone
  have hl1 : one.length = L + 1 := by rw [hone', List.length_append, HL.out]; rfl
  have hpl : playF ws svs one = stepF ws svs (playF ws svs script) ((2 : Int), j, (0 : Int)) := by rw [hone', playF_snoc]
  have HB2 := Lib.hid hb02
  have HONE := Lib.hid hone
  have HL1 := Lib.hid hl1
  have HPL := Lib.hid hpl
  have hm0 : L ≤ maxLen := by unfold maxLen; omega
  have hm1 : L + 1 ≤ maxLen := by unfold maxLen; omega
  have hS4 : S ≤ w2.heap.size := by omega
  have hcs2 := (HCS.out.below hb02).more hS4
  have HCS2 := Lib.hid hcs2
  clear hb01 hb02 hone hone' hl1 hpl hown1 hown2 hgrow1 hgrow2 hloc1 hloc2 hz1 hz2 HE0 HB0 hV0 hz0 HCS hcs2
  have HWSA := Lib.hid (fun v (hb : Below S w v) (hz : S ≤ v.heap.size) => ((HWS.out.below hb).more hz : Els v v.heap.size 2 wkcell A ws))
  have HTSA := Lib.hid (fun v (hb : Below S w v) (hz : S ≤ v.heap.size) => ((HTS.out.below hb).more hz : Els v v.heap.size 1 wcell B svs))
  have HMAY := Lib.hid (fun (v : World) (hb : Below S w v) (hz : S ≤ v.heap.size) => top_may A B A2 W cA m cB (L + 1) cap2 ws v HW.out hWm hmm hm1 (HWSA.out v hb hz))
  by_cases he2 : playE ws m (L + 1) = 0
  · have he1 := playE_more he2
    obtain ⟨hW6, hm12, hL64, hgood⟩ := play_good he2
    rw [HW.out] at hW6
    have hokc := CwOk.play (svs := svs) (room_nonneg hgood) script
    have hcl := step_codes ws svs script
    rw [HL.out] at hcl
    have hlaw := leave_law hokc j
    rw [← HPL.out] at hlaw
    rw [he2] at HMAY
    have HP1 := Lib.hid (crew_Play A B C W cA m cB L cC ws svs script w2 HW.out HM.out HL.out (HWSA.out w2 HB2.out hS4) (HTSA.out w2 HB2.out hS4) HCS2.out he1)
    have HP2 := Lib.hid (fun (v : World) (hb : Below w2.heap.size w2 v) (hb0 : Below S w v) (hz : S ≤ v.heap.size) => crew_Play A B A2 W cA m cB (L + 1) cap2 ws svs one v HW.out HM.out HL1.out (HWSA.out v hb0 hz) (HTSA.out v hb0 hz) ((HONE.out.below hb).more hb.size) he2)
    obtain ⟨c, hc⟩ : ∃ c, c = playF ws svs script := ⟨_, rfl⟩
    obtain ⟨d, hd⟩ : ∃ d, d = playF ws svs one := ⟨_, rfl⟩
    rw [← hc, ← hd] at hlaw
    rw [← hc] at HP1 hokc hcl
    rw [← hd] at HP2
    obtain ⟨hlt, hlw, hlc, hle⟩ := hlaw
    obtain ⟨cd, hcd⟩ : ∃ x, x = (chgF ws svs c ((2 : Int), j, (0 : Int))).2 := ⟨_, rfl⟩
    rw [← hcd] at hlc hle
    rw [HW.out] at hle
    have HLT := Lib.hid hlt
    have HLW := Lib.hid hlw
    have HLC := Lib.hid hlc
    have HLE := Lib.hid hle
    have HOKC := Lib.hid hokc
    have HCL := Lib.hid hcl
    clear he1 he2 hgood hokc hcl hc hd hlt hlw hlc hle hcd HPL
    refine HP1.out.mono ?_
    clear HP1
    rintro e w5 ⟨hb5, P, gw, gt, Ac, kc, rows, hcr, rfl⟩
    obtain ⟨Sc, hSc⟩ : ∃ Sc, Sc = w5.heap.size := ⟨_, rfl⟩
    have hrd := hcr.read
    have hk := Blk.new w5 30 #[.slice Ac L kc, .int .u32 (wN c.inn), .slice (some ⟨gw, 0, none⟩) m m, .slice (some ⟨gt, 0, none⟩) m m]
    have hrda := hrd.alloc (.cells #[.slice Ac L kc, .int .u32 (wN c.inn), .slice (some ⟨gw, 0, none⟩) m m, .slice (some ⟨gt, 0, none⟩) m m] 30)
    have hz1 : (w5.alloc (.cells #[.slice Ac L kc, .int .u32 (wN c.inn), .slice (some ⟨gw, 0, none⟩) m m, .slice (some ⟨gt, 0, none⟩) m m] 30)).heap.size = Sc + 1 := by rw [size_alloc', hSc]
    have hb6 := hb5.alloc hb5.size (.cells #[.slice Ac L kc, .int .u32 (wN c.inn), .slice (some ⟨gw, 0, none⟩) m m, .slice (some ⟨gt, 0, none⟩) m m] 30)
    obtain ⟨V1, hV1⟩ : ∃ V, V = w5.alloc (.cells #[.slice Ac L kc, .int .u32 (wN c.inn), .slice (some ⟨gw, 0, none⟩) m m, .slice (some ⟨gt, 0, none⟩) m m] 30) := ⟨_, rfl⟩
    rw [← hV1] at hk hrda hz1 hb6
    rw [← hSc] at hk
    have hb0V1 : Below S w V1 := HB2.out.trans (hb6.mono hS4)
    have hSV : S ≤ V1.heap.size := Nat.le_trans hS4 hb6.size
    have HK := Lib.hid hk
    have HRD := Lib.hid hrda
    have HB6 := Lib.hid hb6
    have HB0 := Lib.hid hb0V1
    have HV1 := Lib.hid hV1
    have HSC := Lib.hid hSc
    clear hb5 hcr hrd hk hrda hb6 hb0V1 hV1 hSc
    go_wp2_with fail
    rw [← HV1.out, ← HSC.out]
    refine (HP2.out V1 HB6.out HB0.out hSV).mono ?_
    clear HP2
    rintro e w6 ⟨hb7, P2, gw2, gt2, Ad, kd, rows2, hcr2, rfl⟩
    obtain ⟨Sd, hSd⟩ : ∃ Sd, Sd = w6.heap.size := ⟨_, rfl⟩
    have hz6 : Sc + 1 ≤ Sd := by have := hb7.size; omega
    have hrd6 := hcr2.read.alloc (.cells #[.slice Ad (L + 1) kd, .int .u32 (wN d.inn), .slice (some ⟨gw2, 0, none⟩) m m, .slice (some ⟨gt2, 0, none⟩) m m] 30)
    have hk2a := (HK.out.below hb7 (by omega)).alloc (.cells #[.slice Ad (L + 1) kd, .int .u32 (wN d.inn), .slice (some ⟨gw2, 0, none⟩) m m, .slice (some ⟨gt2, 0, none⟩) m m] 30)
    have hrda := (HRD.out.below hb7 (Nat.le_refl _)).alloc (.cells #[.slice Ad (L + 1) kd, .int .u32 (wN d.inn), .slice (some ⟨gw2, 0, none⟩) m m, .slice (some ⟨gt2, 0, none⟩) m m] 30)
    have hkd := Blk.new w6 30 #[.slice Ad (L + 1) kd, .int .u32 (wN d.inn), .slice (some ⟨gw2, 0, none⟩) m m, .slice (some ⟨gt2, 0, none⟩) m m]
    have hb0d := HB0.out.trans ((hb7.alloc hb7.size (.cells #[.slice Ad (L + 1) kd, .int .u32 (wN d.inn), .slice (some ⟨gw2, 0, none⟩) m m, .slice (some ⟨gt2, 0, none⟩) m m] 30)).mono hSV)
    obtain ⟨V2, hV2⟩ : ∃ V, V = w6.alloc (.cells #[.slice Ad (L + 1) kd, .int .u32 (wN d.inn), .slice (some ⟨gw2, 0, none⟩) m m, .slice (some ⟨gt2, 0, none⟩) m m] 30) := ⟨_, rfl⟩
    have hz2 : V2.heap.size = Sd + 1 := by rw [hV2, size_alloc', hSd]
    rw [← hV2] at hrd6 hk2a hrda hkd hb0d
    rw [← hSd] at hkd
    have HK2 := Lib.hid hk2a
    have HKD := Lib.hid hkd
    have HRC := Lib.hid hrda
    have HRD2 := Lib.hid hrd6
    have HB0D := Lib.hid hb0d
    have HV2 := Lib.hid hV2
    have HSD := Lib.hid hSd
    have hSV2 : S ≤ V2.heap.size := by have := hb7.size; omega
    clear hb7 hcr2 hk2a hrda hkd hrd6 hb0d hV2 hSd HK HRD HB6 HB0
    go_wp2_with fail
    rw [← HV2.out, ← HSD.out]
    refine (HMAY.out V2 HB0D.out hSV2).mono ?_
    clear HMAY
    rintro e w7 ⟨rfl, hb8⟩
    have HK7 := Lib.hid (HK2.out.below hb8 (by omega))
    have HKD7 := Lib.hid (HKD.out.below hb8 (by omega))
    have HRC7 := Lib.hid (HRC.out.below hb8 (Nat.le_refl _))
    have HRD7 := Lib.hid (HRD2.out.below hb8 (Nat.le_refl _))
    have HB07 := Lib.hid (HB0D.out.trans (hb8.mono hSV2))
    have hz7 : Sd + 1 ≤ w7.heap.size := by have := hb8.size; omega
    have a0 := HK7.out.cell 0
    have a1 := HK7.out.cell 1
    have a2 := HK7.out.cell 2
    have a3 := HK7.out.cell 3
    have HWH1 := Lib.hid (top_whole B C Ac (some ⟨gw, 0, none⟩) (some ⟨gt, 0, none⟩) m cB L cC kc m m (wN c.inn) w7)
    clear hb8 HK2 HKD HRC HRD2 HB0D
    go_wp2_with fail
    refine HWH1.out.mono ?_
    clear HWH1 a0 a1 a2 a3
    rintro e w8 ⟨rfl, hb9⟩
    have HK8 := Lib.hid (HK7.out.below hb9 (by omega))
    have HKD8 := Lib.hid (HKD7.out.below hb9 (by omega))
    have HRC8 := Lib.hid (HRC7.out.below hb9 (Nat.le_refl _))
    have HRD8 := Lib.hid (HRD7.out.below hb9 (Nat.le_refl _))
    have HB08 := Lib.hid (HB07.out.trans (hb9.mono (by omega)))
    have hz8 : Sd + 1 ≤ w8.heap.size := by have := hb9.size; omega
    have a0 := HKD8.out.cell 0
    have a1 := HKD8.out.cell 1
    have a2 := HKD8.out.cell 2
    have a3 := HKD8.out.cell 3
    have HWH2 := Lib.hid (top_whole B A2 Ad (some ⟨gw2, 0, none⟩) (some ⟨gt2, 0, none⟩) m cB (L + 1) cap2 kd m m (wN d.inn) w8)
    clear hb9 HK7 HKD7 HRC7 HRD7 HB07
    go_wp2_with fail
    refine HWH2.out.mono ?_
    clear HWH2 a0 a1 a2 a3
    rintro e w9 ⟨rfl, hb10⟩
    have HK9 := Lib.hid (HK8.out.below hb10 (by omega))
    have HKD9 := Lib.hid (HKD8.out.below hb10 (by omega))
    have HRC9 := Lib.hid (HRC8.out.below hb10 (Nat.le_refl _))
    have HRD9 := Lib.hid (HRD8.out.below hb10 (Nat.le_refl _))
    have HB09 := Lib.hid (HB08.out.trans (hb10.mono (by omega)))
    have hz9 : Sd + 1 ≤ w9.heap.size := by have := hb10.size; omega
    have b3 := HK9.out.cell 3
    clear hb10 HK8 HKD8 HRC8 HRD8 HB08
    obtain ⟨Y, hY⟩ : ∃ Y, Y = w9.heap.size := ⟨_, rfl⟩
    have HY := Lib.hid hY
    have hYd : Sd + 1 ≤ Y := by rw [hY]; exact hz9
    clear hY
    go_wp2_with fail
    go_loopw [69] (fun s69 wr => ∃ s : Nat, s ≤ m ∧ s69 = .int .i64 s ∧ Below Y w9 wr) (fun s69 _ => m - (intOf s69).toNat)
    case atStart => exact ⟨0, Nat.zero_le _, rfl, Below.refl _ _⟩
    case round =>
      clear b3
      rename World => wr
      obtain ⟨s, hs, rfl, hb⟩ := hrel
      have hYz : Y ≤ wr.heap.size := by have := hb.size; rw [HY.out]; exact this
      have hkc := HK9.out.below hb (by omega)
      have hkd := HKD9.out.below hb (by omega)
      have hrc := HRC9.out.below hb (by rw [HY.out]; exact Nat.le_refl _)
      have hrd := HRD9.out.below hb (by rw [HY.out]; exact Nat.le_refl _)
      by_cases hsm : s < m
      · have b3 := hkc.cell 3
        have hsr : s < rows.length := by rw [hrc.rl]; exact hsm
        have hsr2 : s < rows2.length := by rw [hrd.rl]; exact hsm
        obtain ⟨b1, o1, e1, _, r0⟩ := hrc.tab.at1 (f := fun t : Sls Int => t.val) hsr
        simp only [Option.some.injEq, Addr.mk.injEq] at e1
        obtain ⟨rfl, rfl, -⟩ := e1
        rw [Nat.zero_add] at r0
        have hl : rows[s].l = c.tasks.getD s [] := by
          have := rw_len hrc.tsk s
          unfold rwAt at this
          rw [getD_at rows s hsr] at this
          exact this
        have hl2 : rows2[s].l = (c.tasks.getD s []).filter fun x => x != j := by
          have := rw_len hrd.tsk s
          unfold rwAt at this
          rw [getD_at rows2 s hsr2, HLT.out s] at this
          exact this
        have hrow := hrc.row rows[s] (List.getElem_mem hsr)
        have hl12 := HOKC.out.t12 s
        rw [← hl] at hl12 hl2
        obtain ⟨rw1, hrw⟩ : ∃ r, r = rows[s] := ⟨_, rfl⟩
        rw [← hrw] at r0 hrow hl12 hl2
        obtain ⟨sA, sc, sl⟩ := rw1
        simp only at r0 hrow hl12 hl2
        obtain ⟨n, hn⟩ : ∃ n, n = sl.length := ⟨_, rfl⟩
        rw [← hn] at hl12
        replace r0 : wr.cell? ⟨gt, s, none⟩ = some (.slice sA n sc) := by rw [hn]; exact r0
        have HROW := Lib.hid hrow
        have HKC := Lib.hid hkc
        have HKDD := Lib.hid hkd
        have HRCR := Lib.hid hrc
        have HRDR := Lib.hid hrd
        have HB := Lib.hid hb
        have HN := Lib.hid hn
        have HL2 := Lib.hid hl2
        obtain ⟨Z, hZ⟩ : ∃ Z, Z = wr.heap.size := ⟨_, rfl⟩
        have HZ := Lib.hid hZ
        have hYZ : Y ≤ Z := by rw [hZ]; exact hYz
        clear hl hrow hkc hkd hrc hrd hb hn hl2 hrw hZ
        go_wp2_with fail
        go_loopw [78, 15] (fun s78 s15 wq => ∃ (i : Nat) (A7 : Option Addr) (k7 cap7 : Nat), i ≤ n ∧ s78 = .int .i64 i ∧ s15 = .slice A7 k7 cap7 ∧ k7 = ((sl.take i).filter fun x => x != j).length ∧ Below Z wr wq ∧ Own wq Z 3 1 icell A7 cap7 ((sl.take i).filter fun x => x != j)) (fun s78 _ _ => n - (intOf s78).toNat)
        case atStart => exact ⟨0, none, 0, 0, Nat.zero_le _, rfl, rfl, rfl, Below.refl _ _, Own.nil _ _ _ (fun _ => rfl)⟩
        case round =>
          clear r0 b3
          rename World => wq
          obtain ⟨i, A7, k7, cap7, hi, rfl, rfl, hk7, hb, ho⟩ := hrel
          have hZz : Z ≤ wq.heap.size := by have := hb.size; rw [HZ.out]; exact this
          by_cases hin : i < n
          · have hil : i < sl.length := by rw [← HN.out]; exact hin
            obtain ⟨bx, ox, hsA, _, x0⟩ := (HROW.out.below hb (by rw [HZ.out]; exact Nat.le_refl _)).els.at1 (f := fun x : Int => .int .i64 x) hil
            have hts : (sl.take (i + 1)).filter (fun x => x != j) = (sl.take i).filter (fun x => x != j) ++ (if (sl[i] != j) = true then [sl[i]] else []) := by
              rw [List.take_succ_eq_append_getElem hil, List.filter_append]
              congr 1
              by_cases h : (sl[i] != j) = true
              · rw [if_pos h]; simp [h]
              · rw [if_neg h]; simp [h]
            have hk12 : k7 ≤ 12 := by
              have h1 := List.length_filter_le (fun x => x != j) (sl.take i)
              rw [List.length_take] at h1
              omega
            obtain ⟨x, hx⟩ : ∃ x, x = sl[i] := ⟨_, rfl⟩
            simp only [← hx] at x0 hts
            have HTS' := Lib.hid hts
            have HB := Lib.hid hb
            have HO := Lib.hid ho
            have HK7 := Lib.hid hk7
            subst hsA
            clear hts hx hb ho hk7
            by_cases hxj : x = j
            · have hne : (x != j) = false := by simp [hxj]
              have hts2 := HTS'.out
              rw [hne, if_neg (by simp), List.append_nil] at hts2
              have HT2 := Lib.hid hts2
              clear hxj hts2
              go_wp2_with fail
              go_roundw
              case rel => exact ⟨i + 1, A7, k7, cap7, by omega, by go_num, rfl, by rw [HT2.out]; exact HK7.out, HB.out, by rw [HT2.out]; exact HO.out⟩
              case measure => simp [intOf]; omega
            · have hne : (x != j) = true := by simp [hxj]
              have hts2 := HTS'.out
              rw [hne, if_pos rfl] at hts2
              have HT2 := Lib.hid hts2
              clear hxj hts2
              go_wp2_with (at_builtin; (
                refine wpList_push rfl _ _ _ rfl Z 1 3 (.int .i64 0) 8 Try.underlying27 (by kernel_rfl) rfl (by omega) icell wq #[.int .i64 x] A7 k7 cap7 _ HK7.out.symm rfl HO.out 1 [x] rfl rfl _ rfl rfl (by simp [Value.oneCell']) (by unfold maxLen; omega) (by omega) hZz ?_
                intro A9 cap9 w9' hown9 hgrow9 hloc9))
              have hb9 := (HB.out.alloc hZz _).grown hgrow9 (by rw [size_alloc']; omega) (fun g hg => (HO.out.lt g hg).1)
              rw [← HT2.out] at hown9
              have HB9 := Lib.hid hb9
              have HO9 := Lib.hid hown9
              clear hb9 hown9 hgrow9 hloc9
              go_roundw
              case rel => exact ⟨i + 1, A9, k7 + 1, cap9, by omega, by go_num, rfl, by rw [HT2.out, List.length_append, ← HK7.out]; rfl, HB9.out, HO9.out⟩
              case measure => simp [intOf]; omega
          · obtain rfl : i = n := by omega
            rw [List.take_of_length_le (by rw [← HN.out]; exact Nat.le_refl _)] at hk7 ho
            have hkd := HKDD.out.below hb (by rw [HZ.out]; exact HKDD.out.lt)
            have hrd := HRDR.out.below hb (by rw [HZ.out]; exact Nat.le_refl _)
            have d3 := hkd.cell 3
            obtain ⟨b2, o2, e2, _, r2⟩ := hrd.tab.at1 (f := fun t : Sls Int => t.val) hsr2
            simp only [Option.some.injEq, Addr.mk.injEq] at e2
            obtain ⟨rfl, rfl, -⟩ := e2
            rw [Nat.zero_add] at r2
            have hrow2 := hrd.row rows2[s] (List.getElem_mem hsr2)
            have hl2 := HL2.out
            obtain ⟨rw2, hrw2⟩ : ∃ r, r = rows2[s] := ⟨_, rfl⟩
            rw [← hrw2] at r2 hrow2 hl2
            obtain ⟨tA, tc, tl⟩ := rw2
            simp only at r2 hrow2 hl2
            subst hl2
            have hk12 : k7 ≤ 12 := by
              have h1 := List.length_filter_le (fun x => x != j) sl
              rw [← HN.out] at h1
              omega
            replace r2 : wq.cell? ⟨gt2, s, none⟩ = some (.slice tA k7 tc) := by rw [hk7]; exact r2
            have HI := Lib.hid (Ints_same A7 tA k7 cap7 tc _ wq.heap.size wq.heap.size wq hk7.symm (by unfold maxLen; omega) ho.els hrow2.els)
            have HBQ := Lib.hid (HB.out.trans (hb.mono hYZ))
            clear hb ho hk7 hkd hrd hrow2 hrw2
            go_wp2_with fail
            refine HI.out.mono ?_
            clear HI
            rintro e wz ⟨rfl, q, rfl⟩
            go_wp2_with fail
            go_roundw
            case rel => exact ⟨s + 1, by omega, by go_num, below_drewN HBQ.out q⟩
            case measure => simp [intOf]; omega
      · obtain rfl : s = m := by omega
        have b1 := hkc.cell 1
        have b2 := hkc.cell 2
        have d0 := hkd.cell 0
        have d2 := hkd.cell 2
        have hLd : L < d.codes.length := by rw [HLC.out, List.length_append, HCL.out]; exact Nat.lt_succ_self _
        have hcode : d.codes[L] = cd := by
          have h1 : d.codes[L]? = some cd := by rw [HLC.out, List.getElem?_append_right (by rw [HCL.out]; exact Nat.le_refl _), HCL.out, Nat.sub_self]; rfl
          rw [List.getElem?_eq_getElem hLd] at h1
          simpa using h1
        obtain ⟨bd, od, hAd, _, k0⟩ := hrd.cod.at1 (f := fun x : Int => .int .i64 x) hLd
        rw [hcode] at k0
        subst hAd
        have HI := Lib.hid (Ints_same (some ⟨gw, 0, none⟩) (some ⟨gw2, 0, none⟩) s s s c.wants wr.heap.size wr.heap.size wr.drew hrc.wl (by unfold maxLen; omega) hrc.wnt.drew (by have := hrd.wnt.drew; rw [HLW.out] at this; exact this))
        have HBF := Lib.hid (HB09.out.trans (hb.mono (by omega)))
        have hLL : (L : Int) < (L : Int) + 1 := by omega
        have hlastE := HLE.out
        clear hb hkc hkd hrc hrd hcode hLd
        by_cases hj0 : j < 0
        · have hd1 : decide (0 ≤ j) = false := decide_eq_false (by omega)
          rw [hd1, Bool.false_and, Bool.false_and] at hlastE
          clear hj0
          go_wp2_with fail
          refine region_plain 27 30 (fun w' => w' = wr.drew) (by kernel_rfl) rfl ?_
          refine anyC_reads (by kernel_rfl) [0, 1, 2, 3, 4, 5, 6, 7, 8, 9, 10, 11, 12, 13, 14, 15, 16, 17, 18, 19, 20, 21, 22, 23, 24, 25, 26] ?opa3 ?oha3 3 _ _ _ (by kernel_rfl) ?oka3
          case oha3 => (simp only [List.filterMap_cons, List.filterMap_nil, List.getElem?_toArray, List.getElem?_cons_zero, List.getElem?_cons_succ]; try rfl)
          repeat (first
            | (refine readC_step (v := ?_) rfl (fun w' hw' => ?_) ?_
               rotate_left
               focus (subst hw'; go_simp; try with_reducible rfl)
               go_simp)
            | (refine readC_skip rfl ?_; go_simp))
          refine readC_nil ?_
          refine anyC_one (i := 27) (by kernel_rfl) rfl rfl (.inr rfl) ?_
          go_simp
          refine HI.out.mono ?_
          rintro e wz ⟨rfl, q, rfl⟩
          refine anyC_one (i := 28) (by kernel_rfl) rfl rfl (.inl rfl) ?_
          go_simp
          refine anyC_one (i := 29) (by kernel_rfl) rfl rfl (.inl rfl) ?_
          go_simp
          refine anyC_end (by kernel_rfl) (.inl rfl) ?_
          go_wp2_with fail
          go_ret
          exact ⟨ret_bool rfl, ⟨HBF.out.os, HBF.out.tape, HBF.out.output, HBF.out.size, HBF.out.block⟩⟩
        · have hd1 : decide (0 ≤ j) = true := decide_eq_true (by omega)
          by_cases hjW : j < (W : Int)
          · obtain ⟨q, rfl⟩ := Int.eq_ofNat_of_zero_le (show 0 ≤ j by omega)
            have hd2 : decide ((q : Int) < (W : Int)) = true := decide_eq_true hjW
            have hd3 : decide (q < W) = true := decide_eq_true (by omega)
            have HBIT := Lib.hid (Bit_any c.inn q wr.drew)
            rw [hd1, hd2, Bool.true_and, Bool.true_and] at hlastE
            rcases Bool.eq_false_or_eq_true (bitB c.inn q) with hbit | hbit
            · rw [hbit] at HBIT hlastE
              clear hbit hj0 hjW
              go_wp2_with fail
              refine region_plain 27 30 (fun w' => w' = wr.drew) (by kernel_rfl) rfl ?_
              refine anyC_reads (by kernel_rfl) [0, 1, 2, 3, 4, 5, 6, 7, 8, 9, 10, 11, 12, 13, 14, 15, 16, 17, 18] ?opb1 ?ohb1 11 _ _ _ (by kernel_rfl) ?okb1
              case ohb1 => (simp only [List.filterMap_cons, List.filterMap_nil, List.getElem?_toArray, List.getElem?_cons_zero, List.getElem?_cons_succ]; try rfl)
              repeat (first
                | (refine readC_step (v := ?_) rfl (fun w' hw' => ?_) ?_
                   rotate_left
                   focus (subst hw'; go_simp; try with_reducible rfl)
                   go_simp)
                | (refine readC_skip rfl ?_; go_simp))
              refine readC_nil ?_
              refine anyC_one (i := 19) (by kernel_rfl) rfl rfl (.inr rfl) ?_
              go_simp
              refine HBIT.out.mono ?_
              rintro e wy ⟨rfl, rfl⟩
              refine anyC_reads (by kernel_rfl) [20, 21, 22, 23, 24, 25, 26] ?opb2 ?ohb2 3 _ _ _ (by kernel_rfl) ?okb2
              case ohb2 => (simp only [List.filterMap_cons, List.filterMap_nil, List.getElem?_toArray, List.getElem?_cons_zero, List.getElem?_cons_succ]; try rfl)
              repeat (first
                | (refine readC_step (v := ?_) rfl (fun w' hw' => ?_) ?_
                   rotate_left
                   focus (subst hw'; go_simp; try with_reducible rfl)
                   go_simp)
                | (refine readC_skip rfl ?_; go_simp))
              refine readC_nil ?_
              refine anyC_one (i := 27) (by kernel_rfl) rfl rfl (.inr rfl) ?_
              go_simp
              refine HI.out.mono ?_
              rintro e wz ⟨rfl, q, rfl⟩
              refine anyC_one (i := 28) (by kernel_rfl) rfl rfl (.inl rfl) ?_
              go_simp
              refine anyC_one (i := 29) (by kernel_rfl) rfl rfl (.inl rfl) ?_
              go_simp
              refine anyC_end (by kernel_rfl) (.inl rfl) ?_
              go_wp2_with fail
              go_ret
              exact ⟨ret_bool rfl, ⟨HBF.out.os, HBF.out.tape, HBF.out.output, HBF.out.size, HBF.out.block⟩⟩
            · rw [hbit] at HBIT hlastE
              clear hbit hj0 hjW
              go_wp2_with fail
              refine region_plain 27 30 (fun w' => w' = wr.drew) (by kernel_rfl) rfl ?_
              refine anyC_reads (by kernel_rfl) [0, 1, 2, 3, 4, 5, 6, 7, 8, 9, 10, 11, 12, 13, 14, 15, 16, 17, 18] ?opc1 ?ohc1 11 _ _ _ (by kernel_rfl) ?okc1
              case ohc1 => (simp only [List.filterMap_cons, List.filterMap_nil, List.getElem?_toArray, List.getElem?_cons_zero, List.getElem?_cons_succ]; try rfl)
              repeat (first
                | (refine readC_step (v := ?_) rfl (fun w' hw' => ?_) ?_
                   rotate_left
                   focus (subst hw'; go_simp; try with_reducible rfl)
                   go_simp)
                | (refine readC_skip rfl ?_; go_simp))
              refine readC_nil ?_
              refine anyC_one (i := 19) (by kernel_rfl) rfl rfl (.inr rfl) ?_
              go_simp
              refine HBIT.out.mono ?_
              rintro e wy ⟨rfl, rfl⟩
              refine anyC_reads (by kernel_rfl) [20, 21, 22, 23, 24, 25, 26] ?opc2 ?ohc2 3 _ _ _ (by kernel_rfl) ?okc2
              case ohc2 => (simp only [List.filterMap_cons, List.filterMap_nil, List.getElem?_toArray, List.getElem?_cons_zero, List.getElem?_cons_succ]; try rfl)
              repeat (first
                | (refine readC_step (v := ?_) rfl (fun w' hw' => ?_) ?_
                   rotate_left
                   focus (subst hw'; go_simp; try with_reducible rfl)
                   go_simp)
                | (refine readC_skip rfl ?_; go_simp))
              refine readC_nil ?_
              refine anyC_one (i := 27) (by kernel_rfl) rfl rfl (.inr rfl) ?_
              go_simp
              refine HI.out.mono ?_
              rintro e wz ⟨rfl, q, rfl⟩
              refine anyC_one (i := 28) (by kernel_rfl) rfl rfl (.inl rfl) ?_
              go_simp
              refine anyC_one (i := 29) (by kernel_rfl) rfl rfl (.inl rfl) ?_
              go_simp
              refine anyC_end (by kernel_rfl) (.inl rfl) ?_
              go_wp2_with fail
              go_ret
              exact ⟨ret_bool rfl, ⟨HBF.out.os, HBF.out.tape, HBF.out.output, HBF.out.size, HBF.out.block⟩⟩
          · have hd2 : decide (j < (W : Int)) = false := decide_eq_false hjW
            rw [hd1, hd2, Bool.true_and, Bool.false_and] at hlastE
            clear hj0 hjW
            go_wp2_with fail
            refine region_plain 27 30 (fun w' => w' = wr.drew) (by kernel_rfl) rfl ?_
            refine anyC_reads (by kernel_rfl) [0, 1, 2, 3, 4, 5, 6, 7, 8, 9, 10, 11, 12, 13, 14, 15, 16, 17, 18, 19, 20, 21, 22, 23, 24, 25, 26] ?opd3 ?ohd3 3 _ _ _ (by kernel_rfl) ?okd3
            case ohd3 => (simp only [List.filterMap_cons, List.filterMap_nil, List.getElem?_toArray, List.getElem?_cons_zero, List.getElem?_cons_succ]; try rfl)
            repeat (first
              | (refine readC_step (v := ?_) rfl (fun w' hw' => ?_) ?_
                 rotate_left
                 focus (subst hw'; go_simp; try with_reducible rfl)
                 go_simp)
              | (refine readC_skip rfl ?_; go_simp))
            refine readC_nil ?_
            refine anyC_one (i := 27) (by kernel_rfl) rfl rfl (.inr rfl) ?_
            go_simp
            refine HI.out.mono ?_
            rintro e wz ⟨rfl, q, rfl⟩
            refine anyC_one (i := 28) (by kernel_rfl) rfl rfl (.inl rfl) ?_
            go_simp
            refine anyC_one (i := 29) (by kernel_rfl) rfl rfl (.inl rfl) ?_
            go_simp
            refine anyC_end (by kernel_rfl) (.inl rfl) ?_
            go_wp2_with fail
            go_ret
            exact ⟨ret_bool rfl, ⟨HBF.out.os, HBF.out.tape, HBF.out.output, HBF.out.size, HBF.out.block⟩⟩
  · have HP1 := Lib.hid (crew_Play_any A B C W cA m cB L cC ws svs script w2 HW.out HM.out HL.out hWm hmm hm0 (HWSA.out w2 HB2.out hS4) (HTSA.out w2 HB2.out hS4) HCS2.out)
    have HP2 := Lib.hid (fun (v : World) (hb : Below w2.heap.size w2 v) (hb0 : Below S w v) (hz : S ≤ v.heap.size) => crew_Play_any A B A2 W cA m cB (L + 1) cap2 ws svs one v HW.out HM.out HL1.out hWm hmm hm1 (HWSA.out v hb0 hz) (HTSA.out v hb0 hz) ((HONE.out.below hb).more hb.size))
    have h1 : (playE ws m (L + 1) == 0) = false := by simpa using he2
    have h2 : (playE ws m (L + 1) != 0) = true := by simpa using he2
    rw [h1] at HMAY
    generalize playE ws m (L + 1) = x at HP2 h1 h2 he2
    generalize playE ws m L = y at HP1
    clear he2
    refine HP1.out.mono ?_
    clear HP1
    rintro e w5 ⟨B0, B1, B2, n0, k0, n1, k1, n2, k2, xx, rfl, hb5⟩
    have hb6 := hb5.alloc hb5.size (.cells #[.slice B0 n0 k0, .int .u32 xx, .slice B1 n1 k1, .slice B2 n2 k2] 30)
    obtain ⟨V1, hV1⟩ : ∃ V, V = w5.alloc (.cells #[.slice B0 n0 k0, .int .u32 xx, .slice B1 n1 k1, .slice B2 n2 k2] 30) := ⟨_, rfl⟩
    rw [← hV1] at hb6
    have hb0V1 : Below S w V1 := HB2.out.trans (hb6.mono hS4)
    have hz1 : S ≤ V1.heap.size := Nat.le_trans hS4 hb6.size
    have HB6 := Lib.hid hb6
    have HB0 := Lib.hid hb0V1
    have HV1 := Lib.hid hV1
    clear hb5 hb6 hb0V1 hV1
    go_wp2_with fail
    rw [← HV1.out]
    refine (HP2.out V1 HB6.out HB0.out hz1).mono ?_
    clear HP2
    rintro e w6 ⟨E0, E1, E2, m0, l0, m1, l1, m2, l2, yy, rfl, hb7⟩
    have hb8 := hb7.alloc hb7.size (.cells #[.slice E0 m0 l0, .int .u32 yy, .slice E1 m1 l1, .slice E2 m2 l2] 30)
    obtain ⟨V2, hV2⟩ : ∃ V, V = w6.alloc (.cells #[.slice E0 m0 l0, .int .u32 yy, .slice E1 m1 l1, .slice E2 m2 l2] 30) := ⟨_, rfl⟩
    rw [← hV2] at hb8
    have HB8 := Lib.hid (HB0.out.trans (hb8.mono hz1))
    have hz2 : S ≤ V2.heap.size := Nat.le_trans hz1 hb8.size
    have HV2 := Lib.hid hV2
    clear hb7 hb8 hV2
    go_wp2_with fail
    rw [← HV2.out]
    refine (HMAY.out V2 HB8.out hz2).mono ?_
    rintro e w7 ⟨rfl, hb9⟩
    go_wp2_with fail
    go_ret
    exact ⟨ret_bool rfl, HB8.out.trans (hb9.mono hz2)⟩
theorem TopLeft_row (s : Sls (Int × Int)) (t : Sls Int) (u : Sls Chg) (j : Int) (w : World) (h : s.Good w w.heap.size 2 (fun p => [.int .i64 p.1, .int .u32 p.2]) (fun p => OkI p.1 ∧ OkU p.2)) (ht : t.Good w w.heap.size 1 (fun p => [.int .u32 p]) OkU) (hu : u.Good w w.heap.size 3 chcell (fun p => OkI p.1 ∧ OkI p.2.1 ∧ OkI p.2.2)) (_ : OkI j) (hb : u.l.length * 24 ≤ 140737488351232) :
    Calls Try.prog 5 #[s.val, t.val, u.val, .int .i64 j] w fun e w' => e = .returned (.bool true) ∧ Below w.heap.size w w' :=
  law_TopLeft s.A t.A u.A s.l.length s.c t.l.length t.c u.l.length u.c j (s.l.map fun p => (p.1, wordOf p.2)) (t.l.map wordOf) u.l w (by simp) (by simp) rfl h.1 ht.1 hb
    (h.2.2.1.map_ _ fun a ha => by rw [wkcell, wN_wordOf (h.2.2.2 a ha).2.1 (h.2.2.2 a ha).2.2])
    (ht.2.2.1.map_ _ fun a ha => by rw [wcell, wN_wordOf (ht.2.2.2 a ha).1 (ht.2.2.2 a ha).2]) hu.2.2.1
end Go.Proofs.Ytdinknpagklkjaa
