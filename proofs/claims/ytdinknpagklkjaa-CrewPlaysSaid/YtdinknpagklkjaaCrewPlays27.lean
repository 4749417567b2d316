/- The statement CrewPlays: its law's walk. Conditions: workers, services and changes read as lists. -/
import Derived.Test.YtdinknpagklkjaaCrewPlays25
import Derived.Test.YtdinknpagklkjaaCrewPlays26
namespace Go.Proofs.Ytdinknpagklkjaa
open Go.RowKit
attribute [local go_sem ↓] w_and w_or w_xor w_andNot w_and1 w_and255 w_xor1 w_or0 w_shl w_shl1 w_shr w_sub w_add w_sub1 w_add1
attribute [local go_sem] w_eq0 w_ne0 w_eq1 w_eq w_ne
attribute [local go_sem] Oper.semAt_some

theorem CrefIn.read {w : World} {lo P m gw gt kc : Nat} {Ac : Option Addr} {rows : List (Sls Int)} {c : Cw} (h : CrefIn w lo P m gw gt Ac kc rows c) : CrewR w m gw gt Ac rows c :=
  ⟨h.cod.els, h.wnt.els, h.tab.els, fun s hs => by
    obtain ⟨j, hj, rfl⟩ := List.mem_iff_getElem.1 hs
    have := RowI.of_own (h.row j (by rw [← h.rl]; exact hj))
    have e : rwAt rows j = rows[j] := getD_at rows j hj _
    rw [e] at this
    exact this, h.tsk, h.rl, h.wl⟩
set_option maxRecDepth 100000 in
set_option maxHeartbeats 1000000 in
theorem Crews_zero (w : World) : Calls Try.prog 18 #[crewZ, crewZ] w fun e w' => e = .returned (.bool true) ∧ Below w.heap.size w w' := by
  have hk1 := Blk.new w 30 #[.slice none 0 0, .int .u32 0, .slice none 0 0, .slice none 0 0]
  have hb1 := (Below.refl w.heap.size w).alloc (Nat.le_refl _) (.cells #[.slice none 0 0, .int .u32 0, .slice none 0 0, .slice none 0 0] 30)
  obtain ⟨S, hS⟩ : ∃ S, S = w.heap.size := ⟨_, rfl⟩
  have hz1 : (w.alloc (.cells #[.slice none 0 0, .int .u32 0, .slice none 0 0, .slice none 0 0] 30)).heap.size = S + 1 := by rw [size_alloc', hS]
  obtain ⟨V1, hV1⟩ : ∃ V1, V1 = w.alloc (.cells #[.slice none 0 0, .int .u32 0, .slice none 0 0, .slice none 0 0] 30) := ⟨_, rfl⟩
  rw [← hV1] at hk1 hb1 hz1
  have hk2 := Blk.new V1 30 #[.slice none 0 0, .int .u32 0, .slice none 0 0, .slice none 0 0]
  have hk12 := hk1.alloc (.cells #[.slice none 0 0, .int .u32 0, .slice none 0 0, .slice none 0 0] 30)
  have hb2 := hb1.alloc (by rw [hz1]; omega) (.cells #[.slice none 0 0, .int .u32 0, .slice none 0 0, .slice none 0 0] 30)
  obtain ⟨V2, hV2⟩ : ∃ V2, V2 = V1.alloc (.cells #[.slice none 0 0, .int .u32 0, .slice none 0 0, .slice none 0 0] 30) := ⟨_, rfl⟩
  rw [← hV2] at hk2 hk12 hb2
  rw [hz1] at hk2
  rw [← hS] at hk12
  have hel : ∀ {α : Type} (f : α → List Value) (B q : Nat), Els (V2.drewN q) B 1 f none ([] : List α) := fun f B q h => absurd h (by simp)
  have HCODES : Hid (∀ q, Calls Try.prog 44 #[.slice none 0 0, .slice none 0 0] (V2.drewN q) fun e w' => e = .returned (.bool true) ∧ ∃ m, w' = (V2.drewN q).drewN m) := Lib.hid (fun q =>
    Codes_same none none 0 0 0 [] V2.heap.size V2.heap.size (V2.drewN q) rfl (by unfold maxLen; omega) (hel _ _ _) (hel _ _ _))
  have HINTS : Hid (∀ q, Calls Try.prog 19 #[.slice none 0 0, .slice none 0 0] (V2.drewN q) fun e w' => e = .returned (.bool true) ∧ ∃ m, w' = (V2.drewN q).drewN m) := Lib.hid (fun q =>
    Ints_same none none 0 0 0 [] V2.heap.size V2.heap.size (V2.drewN q) rfl (by unfold maxLen; omega) (hel _ _ _) (hel _ _ _))
  have HLISTS : Hid (∀ q, Calls Try.prog 45 #[.slice none 0 0, .slice none 0 0] (V2.drewN q) fun e w' => e = .returned (.bool true) ∧ ∃ m, w' = (V2.drewN q).drewN m) := Lib.hid (fun q =>
    Lists_rowI 0 none none 0 0 V2.heap.size V2.heap.size [] [] (V2.drewN q) rfl rfl (by omega) (hel _ _ _) (hel _ _ _) (fun s hs => by cases hs) (fun s hs => by cases hs) rfl (fun s hs => by cases hs))
  have HB2 := Lib.hid hb2
  have HK1 := Lib.hid hk12
  have HK2 := Lib.hid hk2
  have HV1 := Lib.hid hV1
  have HV2 := Lib.hid hV2
  have HS := Lib.hid hS
  have hz1' : V1.heap.size = S + 1 := hz1
  clear hel hb1 hb2 hk1 hk12 hk2 hV1 hV2 hS hz1
  go_enter Try.func18, Try.ntmps18
  go_wp2_with fail
  rw [← HS.out, ← HV1.out, ← HV2.out]
  refine (show Calls _ _ _ V2 _ from HCODES.out 0).mono ?_
  clear HCODES
  rintro e w3 ⟨rfl, k1, rfl⟩
  have e1 : (V2.drewN 0).drewN k1 = V2.drewN k1 := rfl
  rw [e1]
  have a1 := (HK1.out.drewN k1).cell 1
  have a2 := (HK1.out.drewN k1).cell 2
  have b1 := (HK2.out.drewN k1).cell 1
  have b2 := (HK2.out.drewN k1).cell 2
  have HI2 := Lib.hid (HINTS.out k1)
  obtain ⟨W3, hW3⟩ : ∃ W3, W3 = V2.drewN k1 := ⟨_, rfl⟩
  rw [← hW3] at a1 a2 b1 b2 HI2 ⊢
  have HW3 := Lib.hid hW3
  clear e1 hW3 HINTS
  go_wp2_with fail
  refine HI2.out.mono ?_
  clear HI2
  rintro e w4 ⟨rfl, k2, rfl⟩
  have e2 : W3.drewN k2 = V2.drewN (k1 + k2) := by rw [HW3.out, World.drewN_drewN]
  rw [e2]
  have a3 := (HK1.out.drewN (k1 + k2)).cell 3
  have b3 := (HK2.out.drewN (k1 + k2)).cell 3
  have HL2 := Lib.hid (HLISTS.out (k1 + k2))
  obtain ⟨W4, hW4⟩ : ∃ W4, W4 = V2.drewN (k1 + k2) := ⟨_, rfl⟩
  rw [← hW4] at a3 b3 HL2 ⊢
  have HB4 : Hid (Below S w W4) := Lib.hid (by rw [hW4, HS.out]; exact below_drewN HB2.out _)
  clear e2 hW4 HLISTS HW3
  go_wp2_with fail
  refine HL2.out.mono ?_
  clear HL2
  rintro e w5 ⟨rfl, k3, rfl⟩
  go_wp2_with fail
  go_ret
  exact ⟨ret_bool rfl, by have := below_drewN HB4.out k3; rw [HS.out] at this; exact this⟩
set_option maxRecDepth 100000 in
set_option maxHeartbeats 2000000 in
theorem law_CrewPlays (A B C : Option Addr) (W cA m cB L cC : Nat) (ws : List Wk) (svs : List (BitVec 32)) (script : List Chg) (w : World) (hW : ws.length = W) (hM : svs.length = m) (hL : script.length = L) (hWm : W ≤ maxLen) (hmm : m ≤ maxLen) (hLm : L ≤ maxLen) (hws : Els w w.heap.size 2 wkcell A ws) (hts : Els w w.heap.size 1 wcell B svs) (hcs : Els w w.heap.size 3 chcell C script) :
    Calls Try.prog 11 #[.slice A W cA, .slice B m cB, .slice C L cC] w fun e w' => e = .returned (.bool true) ∧ Below w.heap.size w w' := by
  by_cases he : playE ws m L = 0
  · obtain ⟨hW6, hm12, hL64, hgood⟩ := play_good he
    rw [hW] at hW6
    have HPLAY := Lib.hid (crew_Play A B C W cA m cB L cC ws svs script w hW hM hL hws hts hcs he)
    have hok := CwOk.play (svs := svs) (room_nonneg hgood) script
    have hcl := step_codes ws svs script
    rw [hL] at hcl
    have HCHK := Lib.hid (fun (v : World) (hb : Below w.heap.size w v) => ref_PlaceCheck A B W cA m cB ws v hW hWm ((hws.below hb).more hb.size) hmm)
    rw [(play_iff.1 he).1] at HCHK
    have HCREW := Lib.hid (fun (v : World) (hb : Below w.heap.size w v) => ref_Crew A B C W cA m cB L cC ws svs script v hW hM hL ((hws.below hb).more hb.size) ((hts.below hb).more hb.size) ((hcs.below hb).more hb.size) hW6 hm12 hL64 hgood)
    obtain ⟨c, hc⟩ : ∃ c, c = playF ws svs script := ⟨_, rfl⟩
    rw [← hc] at HPLAY HCREW hok hcl
    have HOK := Lib.hid hok
    have HCL := Lib.hid hcl
    have h64 : decide ((64 : Int) < (L : Int)) = false := decide_eq_false (by omega)
    have h64' : ¬ ((64 : Int) < (L : Int)) := by omega
    clear hok hcl hc hW hM hL hws hts hcs he hgood
    go_enter Try.func11, Try.ntmps11
    go_wp2_with fail
    refine HPLAY.out.mono ?_
    clear HPLAY
    rintro e w1 ⟨hb1, P, gw, gt, Ac, kc, rows, hcr, rfl⟩
    obtain ⟨S2, hS2⟩ : ∃ S, S = w1.heap.size := ⟨_, rfl⟩
    have hrd := hcr.read
    have hk := Blk.new w1 30 #[.slice Ac L kc, .int .u32 (wN c.inn), .slice (some ⟨gw, 0, none⟩) m m, .slice (some ⟨gt, 0, none⟩) m m]
    have hrd2 := hrd.alloc (.cells #[.slice Ac L kc, .int .u32 (wN c.inn), .slice (some ⟨gw, 0, none⟩) m m, .slice (some ⟨gt, 0, none⟩) m m] 30)
    have hb2 := hb1.alloc hb1.size (.cells #[.slice Ac L kc, .int .u32 (wN c.inn), .slice (some ⟨gw, 0, none⟩) m m, .slice (some ⟨gt, 0, none⟩) m m] 30)
    have hVz : (w1.alloc (.cells #[.slice Ac L kc, .int .u32 (wN c.inn), .slice (some ⟨gw, 0, none⟩) m m, .slice (some ⟨gt, 0, none⟩) m m] 30)).heap.size = S2 + 1 := by rw [size_alloc', hS2]
    obtain ⟨V, hV⟩ : ∃ V, V = w1.alloc (.cells #[.slice Ac L kc, .int .u32 (wN c.inn), .slice (some ⟨gw, 0, none⟩) m m, .slice (some ⟨gt, 0, none⟩) m m] 30) := ⟨_, rfl⟩
    rw [← hV] at hk hrd2 hb2 hVz
    rw [← hS2] at hk
    have HK := Lib.hid hk
    have HRD := Lib.hid hrd2
    have HB2 := Lib.hid hb2
    have HV := Lib.hid hV
    have HS2 := Lib.hid hS2
    have HC2 := Lib.hid (HCHK.out V hb2)
    clear hb1 hcr hrd hk hrd2 hb2 hV hS2 HCHK
    go_wp2_with fail
    rw [← HV.out, ← HS2.out]
    refine HC2.out.mono ?_
    clear HC2
    rintro e w3 ⟨rfl, hb3⟩
    have hb23 := HB2.out.trans (hb3.mono HB2.out.size)
    have hz3 := hb3.size
    have hk3 := Blk.new w3 30 #[.slice none 0 0, .int .u32 0, .slice none 0 0, .slice none 0 0]
    have hb4 := hb23.alloc hb23.size (.cells #[.slice none 0 0, .int .u32 0, .slice none 0 0, .slice none 0 0] 30)
    have hbV4 := hb3.alloc hz3 (.cells #[.slice none 0 0, .int .u32 0, .slice none 0 0, .slice none 0 0] 30)
    obtain ⟨S4, hS4⟩ : ∃ S, S = w3.heap.size := ⟨_, rfl⟩
    have h4z : (w3.alloc (.cells #[.slice none 0 0, .int .u32 0, .slice none 0 0, .slice none 0 0] 30)).heap.size = S4 + 1 := by rw [size_alloc', hS4]
    obtain ⟨V4, hV4⟩ : ∃ V, V = w3.alloc (.cells #[.slice none 0 0, .int .u32 0, .slice none 0 0, .slice none 0 0] 30) := ⟨_, rfl⟩
    rw [← hV4] at hk3 hb4 hbV4 h4z
    rw [← hS4] at hk3
    have hSS : S2 < S4 := by omega
    have HK3 := Lib.hid hk3
    have HB4 := Lib.hid hb4
    have HBV4 := Lib.hid hbV4
    have HV4 := Lib.hid hV4
    have HS4 := Lib.hid hS4
    have HCW := Lib.hid (HCREW.out V4 hb4)
    clear hb3 hb23 hz3 hk3 hb4 hbV4 hV4 hS4 HCREW
    go_wp2_with fail
    rw [← HV4.out, ← HS4.out]
    refine HCW.out.mono ?_
    clear HCW
    rintro e w5 ⟨hb5, P2, gw2, gt2, Ac2, kc2, rows2, hcr2, rfl⟩
    rw [h4z] at hb5 hcr2
    have hk5 := HK3.out.below hb5 (Nat.lt_succ_self S4)
    have f0 := hk5.frozen 0
    have f1 := hk5.frozen 1
    have f2 := hk5.frozen 2
    have f3 := hk5.frozen 3
    have g0 := hk5.cell 0
    have g1 := hk5.cell 1
    have g2 := hk5.cell 2
    have g3 := hk5.cell 3
    have hbV5 := HBV4.out.trans (hb5.mono (by omega))
    have hbw5 := HB4.out.trans (hb5.mono (by have := HB4.out.size; omega))
    have hwS4 : w.heap.size ≤ S4 := by
      have h1 := HB2.out.size
      omega
    have hc9 := ((((hcr2.kept (gb_setCell _ S4 0 (.slice Ac2 L kc2)) (Nat.lt_succ_self S4)).kept (gb_setCell _ S4 1 (.int .u32 (wN c.inn))) (Nat.lt_succ_self S4)).kept (gb_setCell _ S4 2 (.slice (some ⟨gw2, 0, none⟩) m m)) (Nat.lt_succ_self S4)).kept (gb_setCell _ S4 3 (.slice (some ⟨gt2, 0, none⟩) m m)) (Nat.lt_succ_self S4)).read
    have hbV9 := (((hbV5.setCell (p := ⟨S4, 0, none⟩) (show V.heap.size ≤ S4 by omega) (.slice Ac2 L kc2)).setCell (p := ⟨S4, 1, none⟩) (show V.heap.size ≤ S4 by omega) (.int .u32 (wN c.inn))).setCell (p := ⟨S4, 2, none⟩) (show V.heap.size ≤ S4 by omega) (.slice (some ⟨gw2, 0, none⟩) m m)).setCell (p := ⟨S4, 3, none⟩) (show V.heap.size ≤ S4 by omega) (.slice (some ⟨gt2, 0, none⟩) m m)
    have hbw9 := (((hbw5.setCell (p := ⟨S4, 0, none⟩) hwS4 (.slice Ac2 L kc2)).setCell (p := ⟨S4, 1, none⟩) hwS4 (.int .u32 (wN c.inn))).setCell (p := ⟨S4, 2, none⟩) hwS4 (.slice (some ⟨gw2, 0, none⟩) m m)).setCell (p := ⟨S4, 3, none⟩) hwS4 (.slice (some ⟨gt2, 0, none⟩) m m)
    have hk9 := (((hk5.put 0 (.slice Ac2 L kc2)).put 1 (.int .u32 (wN c.inn))).put 2 (.slice (some ⟨gw2, 0, none⟩) m m)).put 3 (.slice (some ⟨gt2, 0, none⟩) m m)
    obtain ⟨W9, hW9⟩ : ∃ W9, W9 = ((((w5.setCell ⟨S4, 0, none⟩ (.slice Ac2 L kc2)).setCell ⟨S4, 1, none⟩ (.int .u32 (wN c.inn))).setCell ⟨S4, 2, none⟩ (.slice (some ⟨gw2, 0, none⟩) m m)).setCell ⟨S4, 3, none⟩ (.slice (some ⟨gt2, 0, none⟩) m m)) := ⟨_, rfl⟩
    rw [← hW9] at hc9 hbV9 hbw9 hk9
    have hrd9 := HRD.out.below hbV9 (Nat.le_refl _)
    have hkk := HK.out.below hbV9 HK.out.lt
    have q0 := hkk.cell 0
    have q1 := hkk.cell 1
    have q2 := hkk.cell 2
    have q3 := hkk.cell 3
    have e0 := hk9.cell 0
    have e1 := hk9.cell 1
    have e2 := hk9.cell 2
    have e3 := hk9.cell 3
    have HSAME := Lib.hid (Crews_same Ac L kc kc2 m gw gt gw2 gt2 Ac2 rows rows2 c c W9 HCL.out (by omega) hm12 hrd9.cod hc9.cod hrd9 hc9 rfl rfl rfl (fun s hs => by
      obtain ⟨j, hj, rfl⟩ := List.mem_iff_getElem.1 hs
      have h1 := HOK.out.t12 j
      have h2 := rw_len' hrd9.tsk j
      have h3 : rwAt rows j = rows[j] := getD_at rows j hj _
      rw [h3] at h2
      rw [h2]
      omega))
    have HBW := Lib.hid hbw9
    have HW9 := Lib.hid hW9
    clear hb5 hcr2 hk5 hbV5 hbw5 hc9 hbV9 hbw9 hk9 hrd9 hkk
    rw [hW9] at q0 q1 q2 q3 e0 e1 e2 e3
    clear hW9
    go_wp2_with fail
    rw [← HW9.out]
    refine HSAME.out.mono ?_
    clear HSAME
    rintro e w10 ⟨rfl, hb10⟩
    go_wp2_with fail
    go_ret
    exact ⟨ret_bool rfl, HBW.out.trans (hb10.mono HBW.out.size)⟩
  · have HPLAY := Lib.hid (crew_Play_bad A B C W cA m cB L cC ws w hW hWm hmm hLm hws he)
    have HCHK := Lib.hid (fun (v : World) (hb : Below w.heap.size w v) => ref_PlaceCheck A B W cA m cB ws v hW hWm ((hws.below hb).more hb.size) hmm)
    have hpe : playE ws m L = if placeCheck ws m ≠ 0 then placeCheck ws m else if 64 < L then 1 else 0 := rfl
    clear hW hM hL hws hts hcs
    by_cases hx : placeCheck ws m = 0
    · rw [if_neg (by omega)] at hpe
      have hL64 : 64 < L := by
        rcases Nat.lt_or_ge 64 L with h | h
        · exact h
        · rw [if_neg (by omega)] at hpe; omega
      rw [if_pos hL64] at hpe
      rw [hpe] at HPLAY
      rw [hx] at HCHK
      have h64 : (64 : Int) < (L : Int) := by omega
      clear hpe he hx hL64
      go_enter Try.func11, Try.ntmps11
      go_wp2_with fail
      refine HPLAY.out.mono ?_
      clear HPLAY
      rintro e w1 ⟨rfl, hb1⟩
      have hk := Blk.new w1 30 #[.slice none 0 0, .int .u32 0, .slice none 0 0, .slice none 0 0]
      have hb2 := hb1.alloc hb1.size (.cells #[.slice none 0 0, .int .u32 0, .slice none 0 0, .slice none 0 0] 30)
      obtain ⟨S2, hS2⟩ : ∃ S, S = w1.heap.size := ⟨_, rfl⟩
      obtain ⟨V, hV⟩ : ∃ V, V = w1.alloc (.cells #[.slice none 0 0, .int .u32 0, .slice none 0 0, .slice none 0 0] 30) := ⟨_, rfl⟩
      rw [← hV] at hk hb2
      rw [← hS2] at hk
      have HK := Lib.hid hk
      have HB2 := Lib.hid hb2
      have HV := Lib.hid hV
      have HS2 := Lib.hid hS2
      have HC2 := Lib.hid (HCHK.out V hb2)
      clear hb1 hk hb2 hV hS2 HCHK
      go_wp2_with fail
      rw [← HV.out, ← HS2.out]
      refine HC2.out.mono ?_
      clear HC2
      rintro e w3 ⟨rfl, hb3⟩
      have hb23 := HB2.out.trans (hb3.mono HB2.out.size)
      have hk3 := HK.out.below hb3 HK.out.lt
      have hk4 := hk3.alloc (.cells #[.slice none 0 0, .int .u32 0, .slice none 0 0, .slice none 0 0] 30)
      have hb4 := hb23.alloc hb23.size (.cells #[.slice none 0 0, .int .u32 0, .slice none 0 0, .slice none 0 0] 30)
      have q0 := hk4.cell 0
      have q1 := hk4.cell 1
      have q2 := hk4.cell 2
      have q3 := hk4.cell 3
      have HZ := Lib.hid (Crews_zero (w3.alloc (.cells #[.slice none 0 0, .int .u32 0, .slice none 0 0, .slice none 0 0] 30)))
      have HB4 := Lib.hid hb4
      clear hb3 hb23 hk3 hk4 hb4
      go_wp2_with fail
      refine HZ.out.mono ?_
      clear HZ
      rintro e w10 ⟨rfl, hb10⟩
      go_wp2_with fail
      go_ret
      exact ⟨ret_bool rfl, HB4.out.trans (hb10.mono HB4.out.size)⟩
    · rw [if_pos hx] at hpe
      rw [hpe] at HPLAY
      have h1 : (placeCheck ws m == 0) = false := by simpa using hx
      have h2 : (placeCheck ws m == placeCheck ws m) = true := by simp
      generalize placeCheck ws m = x at HPLAY HCHK h1 h2 hx ⊢
      clear hpe he
      go_enter Try.func11, Try.ntmps11
      go_wp2_with fail
      refine HPLAY.out.mono ?_
      clear HPLAY
      rintro e w1 ⟨rfl, hb1⟩
      have hk := Blk.new w1 30 #[.slice none 0 0, .int .u32 0, .slice none 0 0, .slice none 0 0]
      have hb2 := hb1.alloc hb1.size (.cells #[.slice none 0 0, .int .u32 0, .slice none 0 0, .slice none 0 0] 30)
      obtain ⟨S2, hS2⟩ : ∃ S, S = w1.heap.size := ⟨_, rfl⟩
      obtain ⟨V, hV⟩ : ∃ V, V = w1.alloc (.cells #[.slice none 0 0, .int .u32 0, .slice none 0 0, .slice none 0 0] 30) := ⟨_, rfl⟩
      rw [← hV] at hk hb2
      rw [← hS2] at hk
      have HK := Lib.hid hk
      have HB2 := Lib.hid hb2
      have HV := Lib.hid hV
      have HS2 := Lib.hid hS2
      have HC2 := Lib.hid (HCHK.out V hb2)
      clear hb1 hk hb2 hV hS2 HCHK
      go_wp2_with fail
      rw [← HV.out, ← HS2.out]
      refine HC2.out.mono ?_
      clear HC2
      rintro e w3 ⟨rfl, hb3⟩
      have hb23 := HB2.out.trans (hb3.mono HB2.out.size)
      have hk3 := HK.out.below hb3 HK.out.lt
      have hk4 := hk3.alloc (.cells #[.slice none 0 0, .int .u32 0, .slice none 0 0, .slice none 0 0] 30)
      have hb4 := hb23.alloc hb23.size (.cells #[.slice none 0 0, .int .u32 0, .slice none 0 0, .slice none 0 0] 30)
      have q0 := hk4.cell 0
      have q1 := hk4.cell 1
      have q2 := hk4.cell 2
      have q3 := hk4.cell 3
      have HZ := Lib.hid (Crews_zero (w3.alloc (.cells #[.slice none 0 0, .int .u32 0, .slice none 0 0, .slice none 0 0] 30)))
      have HB4 := Lib.hid hb4
      clear hb3 hb23 hk3 hk4 hb4
      go_wp2_with fail
      refine HZ.out.mono ?_
      clear HZ
      rintro e w10 ⟨rfl, hb10⟩
      go_wp2_with fail
      go_ret
      exact ⟨ret_bool rfl, HB4.out.trans (hb10.mono HB4.out.size)⟩
theorem CrewPlays_row (s : Sls (Int × Int)) (t : Sls Int) (u : Sls Chg) (w : World) (h : s.Good w w.heap.size 2 (fun p => [.int .i64 p.1, .int .u32 p.2]) (fun p => OkI p.1 ∧ OkU p.2)) (ht : t.Good w w.heap.size 1 (fun p => [.int .u32 p]) OkU) (hu : u.Good w w.heap.size 3 chcell (fun p => OkI p.1 ∧ OkI p.2.1 ∧ OkI p.2.2)) :
    Calls Try.prog 11 #[s.val, t.val, u.val] w fun e w' => e = .returned (.bool true) ∧ Below w.heap.size w w' :=
  law_CrewPlays s.A t.A u.A s.l.length s.c t.l.length t.c u.l.length u.c (s.l.map fun p => (p.1, wordOf p.2)) (t.l.map wordOf) u.l w (by simp) (by simp) rfl h.1 ht.1 hu.1
    (h.2.2.1.map_ _ fun a ha => by rw [wkcell, wN_wordOf (h.2.2.2 a ha).2.1 (h.2.2.2 a ha).2.2])
    (ht.2.2.1.map_ _ fun a ha => by rw [wcell, wN_wordOf (ht.2.2.2 a ha).1 (ht.2.2.2 a ha).2]) hu.2.2.1
end Go.Proofs.Ytdinknpagklkjaa
