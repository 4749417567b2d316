/- Which tasks lack the most room: the reference; the statement's walk. Conditions: the workers and the tasks read as lists; the table. -/
import Derived.Test.YthopiaggnbkjbaaDoorPlaceShort
namespace Go.Proofs.YthopiaggnbkjbaaDoor
open Go.RowKit
attribute [local go_sem ↓] w_and w_or w_xor w_andNot w_and1 w_and255 w_xor1 w_or0 w_shl w_shl1 w_shr w_sub w_add w_sub1 w_add1
attribute [local go_sem] w_eq0 w_ne0 w_eq1 w_eq w_ne

theorem ref_May (a : Wk) (t : BitVec 32) (w : World) :
    Calls Tryd.prog 69 #[.agg #[.int .i64 a.1, .int .u32 (wN a.2)], .int .u32 (wN t)] w fun e w' => e = .returned (.bool (mayW t a)) ∧ Below w.heap.size w w' := by
  have h1 := (Blk.new w 72 #[.int .i64 a.1, .int .u32 (wN a.2)]).cell 1
  have HB := Lib.hid ((Below.refl w.heap.size w).alloc (Nat.le_refl _) (.cells #[.int .i64 a.1, .int .u32 (wN a.2)] 72))
  have HM := Lib.hid (mayW_and t a)
  go_enter Tryd.func69, Tryd.ntmps69
  go_wp2_with fail
  go_ret
  exact ⟨ret_bool HM.out, HB.out⟩
set_option maxRecDepth 100000 in
set_option maxHeartbeats 1000000 in
theorem ref_Lack (A B : Option Addr) (n c m d : Nat) (ws : List Wk) (ts : List (BitVec 32)) (x : BitVec 32) (w : World) (hl : ws.length = n) (hn : n ≤ 6) (hr : Els w w.heap.size 2 wkcell A ws)
    (hl2 : ts.length = m) (hm : m ≤ 12) (hr2 : Els w w.heap.size 1 wcell B ts) (hroom : ∀ k, 0 ≤ (ws.getD k (0, w0)).1 ∧ (ws.getD k (0, w0)).1 ≤ 12) :
    Calls Tryd.prog 52 #[.slice A n c, .slice B m d, .int .u32 (wN x)] w fun e w' => e = .returned (.int .i64 (lackS ts ws x)) ∧ Below w.heap.size w w' := by
  have HL := Lib.hid hl
  have HL2 := Lib.hid hl2
  have HR := Lib.hid hr
  have HR2 := Lib.hid hr2
  have HRM := Lib.hid hroom
  have hpx := pop_le x
  clear hl hl2 hr hr2 hroom
  go_enter Tryd.func52, Tryd.ntmps52
  go_wp2_with fail
  refine (Size_any x _).mono ?_
  rintro e w' ⟨rfl, rfl⟩
  go_wp2_with fail
  go_loopw [17, 7] (fun s v wr => ∃ i : Nat, i ≤ n ∧ s = .int .i64 i ∧ v = .int .i64 (lackTo ts ws x i) ∧ Below w.heap.size w wr) (fun s _ _ => n - (intOf s).toNat)
  case atStart => exact ⟨0, by omega, rfl, rfl, Below.refl _ _⟩
  case round =>
    rename World => wr
    obtain ⟨i, hi, rfl, rfl, hb⟩ := hrel
    have HB := Lib.hid hb
    have hsz := hb.size
    by_cases hlt : i < n
    · have hil : i < ws.length := by rw [HL.out]; exact hlt
      obtain ⟨b, off, rfl, hbb, g0, g1⟩ := (HR.out.below HB.out).at2 hil
      have hgd : ws.getD i (0, w0) = ws[i] := by simp [List.getD_eq_getElem?_getD, hil]
      have HS2 : Hid (lackTo ts ws x (i + 1) = if wantsTo ts (ws.getD i (0, w0)) x ts.length = true then lackTo ts ws x i - (ws.getD i (0, w0)).1 else lackTo ts ws x i) := Lib.hid rfl
      have hrm := HRM.out i
      have hlk := lackTo_bounds (ts := ts) HRM.out x i
      obtain ⟨a, ha⟩ : ∃ a, a = ws[i] := ⟨_, rfl⟩
      rw [← ha] at g0 g1 hgd
      rw [hgd] at HS2 hrm
      obtain ⟨L, hLL⟩ : ∃ L, L = lackTo ts ws x i := ⟨_, rfl⟩
      rw [← hLL] at HS2 hlk ⊢
      have hk0 := Blk.new wr 72 #[.int .i64 a.1, .int .u32 (wN a.2)]
      have HK0 := Lib.hid hk0
      have HB0 := Lib.hid (HB.out.alloc hsz (.cells #[.int .i64 a.1, .int .u32 (wN a.2)] 72))
      have e0 := hk0.cell 0
      have hU : w.heap.size ≤ wr.heap.size := hsz
      clear ha hgd hLL hk0 hb HB
      go_wp2_with fail
      go_loopw [23, 10] (fun s v w2 => ∃ j : Nat, j ≤ m ∧ s = .int .i64 j ∧ v = .bool (wantsTo ts a x j) ∧ Below w.heap.size w w2 ∧ Blk w2 wr.heap.size 72 #[.int .i64 a.1, .int .u32 (wN a.2)]) (fun s _ _ => m - (intOf s).toNat)
      case atStart => exact ⟨0, by omega, rfl, rfl, HB0.out, HK0.out⟩
      case round =>
        clear e0 HB0 HK0
        rename World => w2
        obtain ⟨j, hj, rfl, rfl, hb2, hk2⟩ := hrel
        have HB2 := Lib.hid hb2
        have HK2 := Lib.hid hk2
        have e0 := hk2.cell 0
        have e1 := hk2.cell 1
        have hz2 := hb2.size
        have hlt3 := hk2.lt
        by_cases hlj : j < m
        · have hjl : j < ts.length := by rw [HL2.out]; exact hlj
          obtain ⟨b', off', rfl, hbb', g3⟩ := (HR2.out.below HB2.out).at1 hjl
          rw [← lw_at ts j hjl] at g3
          have HST : Hid (wantsTo ts a x (j + 1) = (wantsTo ts a x j || (bitB x j && mayW (lw ts j) a))) := Lib.hid rfl
          clear hb2 hk2
          rcases bool_cases (wantsTo ts a x j) with r0 | r0
          · rcases bool_cases (bitB x j) with r1 | r1
            · have R0 := Lib.hid r0
              have R1 := Lib.hid r1
              rw [r0]
              clear r0 r1
              go_wp2_with fail
              refine (Bit_any x j _).mono ?_
              rintro _ w' ⟨rfl, rfl⟩
              rw [R1.out]
              go_wp2_with fail
              go_roundw
              case rel => exact ⟨j + 1, by omega, by go_num, by rw [HST.out, R0.out, R1.out]; rfl, HB2.out, HK2.out⟩
              case measure => simp [intOf]; omega
            · have R0 := Lib.hid r0
              have R1 := Lib.hid r1
              rw [r0]
              clear r0 r1
              go_wp2_with fail
              refine (Bit_any x j _).mono ?_
              rintro _ w' ⟨rfl, rfl⟩
              rw [R1.out]
              go_wp2_with fail
              refine (ref_May a (lw ts j) _).mono ?_
              rintro _ w3 ⟨rfl, hb3⟩
              have HB3 := Lib.hid (HB2.out.trans (hb3.mono hz2))
              have HK3 := Lib.hid (HK2.out.below hb3 hlt3)
              clear hb3
              go_wp2_with fail
              go_roundw
              case rel => exact ⟨j + 1, by omega, by go_num, by rw [HST.out, R0.out, R1.out]; simp, HB3.out, HK3.out⟩
              case measure => simp [intOf]; omega
          · have R0 := Lib.hid r0
            rw [r0]
            clear r0
            go_wp2_with fail
            go_roundw
            case rel => exact ⟨j + 1, by omega, by go_num, by rw [HST.out, R0.out]; rfl, HB2.out, HK2.out⟩
            case measure => simp [intOf]; omega
        · obtain rfl : j = m := by omega
          rw [HL2.out] at HS2
          clear hb2 hk2
          rcases bool_cases (wantsTo ts a x j) with r0 | r0
          · have HS3 : Hid (lackTo ts ws x (i + 1) = L) := Lib.hid (by rw [HS2.out, if_neg (by rw [r0]; simp)])
            rw [r0]
            go_wp2_with fail
            go_roundw
            case rel => exact ⟨i + 1, by omega, by go_num, by rw [HS3.out], HB2.out⟩
            case measure => simp [intOf]; omega
          · have HS3 : Hid (lackTo ts ws x (i + 1) = L - a.1) := Lib.hid (by rw [HS2.out, if_pos r0])
            rw [r0]
            go_wp2_with fail
            go_roundw
            case rel => exact ⟨i + 1, by omega, by go_num, by rw [HS3.out], HB2.out⟩
            case measure => simp [intOf]; omega
    · obtain rfl : i = n := by omega
      have HLS : Hid (lackS ts ws x = lackTo ts ws x i) := Lib.hid (by unfold lackS; rw [HL.out])
      clear hb
      go_wp2_with fail
      go_ret
      exact ⟨ret_i64 HLS.out.symm, HB.out⟩

set_option maxRecDepth 100000 in
set_option maxHeartbeats 1000000 in
theorem ref_ShortOf (A B : Option Addr) (n c m d : Nat) (ws : List Wk) (ts : List (BitVec 32)) (w : World) (hl : ws.length = n) (hn : n ≤ 6) (hr : Els w w.heap.size 2 wkcell A ws)
    (hl2 : ts.length = m) (hm : m ≤ 12) (hr2 : Els w w.heap.size 1 wcell B ts) (hroom : ∀ k, 0 ≤ (ws.getD k (0, w0)).1 ∧ (ws.getD k (0, w0)).1 ≤ 12) :
    Calls Tryd.prog 26 #[.slice A n c, .slice B m d] w fun e w' => e = .returned (.int .u32 (wN (shortTo ts ws (2 ^ m)))) ∧ Below w.heap.size w w' := by
  have HLK : Hid (∀ (x : BitVec 32) (w' : World), Below w.heap.size w w' → Calls Tryd.prog 52 #[.slice A n c, .slice B m d, .int .u32 (wN x)] w' fun e w'' => e = .returned (.int .i64 (lackS ts ws x)) ∧ Below w'.heap.size w' w'') :=
    Lib.hid (fun x w' hb => ref_Lack A B n c m d ws ts x w' hl hn ((hr.below hb).more hb.size) hl2 hm ((hr2.below hb).more hb.size) hroom)
  have HRM := Lib.hid hroom
  have HL := Lib.hid hl
  have hP1 := pow_le_4096 hm
  have hlim := wN_pow (n := m) (by omega)
  obtain ⟨P, hP⟩ : ∃ P, P = 2 ^ m := ⟨_, rfl⟩
  have HP := Lib.hid hP
  have HLIM : Hid (wN (wShl w1 m) = (P : Int)) := by
    show wN (wShl w1 m) = (P : Int)
    rw [hlim, hP]
  rw [← hP] at hP1 ⊢
  clear hl hl2 hr hr2 hroom hP hlim
  go_enter Tryd.func26, Tryd.ntmps26
  go_wp2_with fail
  go_loopw [6, 5] (fun i s wr => ∃ k : Nat, k ≤ P ∧ i = .int .u32 (wN (nw k)) ∧ s = .int .u32 (wN (shortTo ts ws k)) ∧ Below w.heap.size w wr) (fun i _ _ => P - (intOf i).toNat)
  case atStart => exact ⟨0, by omega, rfl, rfl, Below.refl _ _⟩
  case round =>
    rename World => wr
    obtain ⟨k, hk, rfl, rfl, hb⟩ := hrel
    have hsz := hb.size
    have HB := Lib.hid hb
    have hkw := wN_nw (k := k) (by omega)
    have hkw1 := wN_nw (k := k + 1) (by omega)
    have HKW := Lib.hid hkw
    have HKW1 := Lib.hid hkw1
    have HSU := Lib.hid (nw_succ k)
    clear hb
    by_cases hlt : k < P
    · have hlt' : wN (nw k) < wN (wShl w1 m) := by rw [hkw, HLIM.out]; omega
      have HWS : Hid (shortTo ts ws (k + 1) = if lackS ts ws (shortTo ts ws k) < lackS ts ws (nw k) then nw k else shortTo ts ws k) := Lib.hid rfl
      obtain ⟨y, hy⟩ : ∃ y, y = shortTo ts ws k := ⟨_, rfl⟩
      obtain ⟨x, hx⟩ : ∃ x, x = nw k := ⟨_, rfl⟩
      rw [← hx] at hlt' ⊢
      rw [← hy]
      have HX := Lib.hid hx
      have HY := Lib.hid hy
      clear hx hy hkw hkw1
      go_wp2_with fail
      refine (HLK.out x wr HB.out).mono ?_
      rintro e w2 ⟨rfl, hb2⟩
      have hB2 := HB.out.trans (hb2.mono hsz)
      have hz2 := hB2.size
      have HB2 := Lib.hid hB2
      clear hb2 hB2
      go_wp2_with fail
      refine (HLK.out y w2 HB2.out).mono ?_
      rintro e w3 ⟨rfl, hb3⟩
      have HB3 := Lib.hid (HB2.out.trans (hb3.mono hz2))
      obtain ⟨p, hp⟩ : ∃ p, p = lackS ts ws x := ⟨_, rfl⟩
      obtain ⟨q, hq⟩ : ∃ q, q = lackS ts ws y := ⟨_, rfl⟩
      rw [← hp, ← hq]
      have HPP := Lib.hid hp
      have HQQ := Lib.hid hq
      clear hb3 hp hq
      by_cases hcmp : q < p
      · go_wp2_with fail
        go_roundw
        case rel => exact ⟨k + 1, by omega, by rw [HX.out, HSU.out], by rw [HWS.out, ← HX.out, ← HY.out, if_pos (by rw [← HPP.out, ← HQQ.out]; exact hcmp)], HB3.out⟩
        case measure => rw [HX.out, HSU.out]; simp [intOf]; rw [HKW.out, HKW1.out]; omega
      · go_wp2_with fail
        go_roundw
        case rel => exact ⟨k + 1, by omega, by rw [HX.out, HSU.out], by rw [HWS.out, ← HX.out, ← HY.out, if_neg (by rw [← HPP.out, ← HQQ.out]; omega)], HB3.out⟩
        case measure => rw [HX.out, HSU.out]; simp [intOf]; rw [HKW.out, HKW1.out]; omega
    · obtain rfl : k = P := by omega
      have hge : ¬ wN (nw k) < wN (wShl w1 m) := by rw [hkw, HLIM.out]; omega
      clear hkw hkw1
      go_wp2_with fail
      go_ret
      exact ⟨rfl, HB.out⟩

theorem law_PlaceShort (A B : Option Addr) (n c m d : Nat) (ws : List Wk) (ts : List (BitVec 32)) (w : World) (htab : TabOk w) (hl : ws.length = n) (hn : n ≤ maxLen) (hr : Els w w.heap.size 2 wkcell A ws)
    (hl2 : ts.length = m) (hm : m ≤ maxLen) (hr2 : Els w w.heap.size 1 wcell B ts) :
    Calls Tryd.prog 7 #[.slice A n c, .slice B m d] w fun e w' => e = .returned (.bool true) ∧ Below w.heap.size w w' := by
  have HL := Lib.hid hl
  have HN := Lib.hid hn
  have HL2 := Lib.hid hl2
  have HM := Lib.hid hm
  have HK := Lib.hid (place_Short A B n c m d ws ts w hl hn hr hl2 hm hr2 htab)
  have HR := Lib.hid hr
  have HR2 := Lib.hid hr2
  clear hl hn hr htab hl2 hm hr2
  go_enter Tryd.func7, Tryd.ntmps7
  go_wp2_with fail
  refine HK.out.mono ?_
  clear HK
  rintro e v1 ⟨rfl, hb1⟩
  have hsz := hb1.size
  have HB1 := Lib.hid hb1
  have HPC := Lib.hid (ref_PlaceCheck A B n c m d ws v1 HL.out HN.out ((HR.out.below hb1).more hsz) HM.out)
  clear hb1
  by_cases h0 : placeCheck ws m = 0
  · obtain ⟨q1, q2, q3⟩ := room_ok h0
    rw [HL.out] at q1
    rw [h0] at HPC ⊢
    rw [if_pos rfl]
    have HQ := Lib.hid q3
    obtain ⟨y, hy⟩ : ∃ y, y = shortTo ts ws (2 ^ m) := ⟨_, rfl⟩
    rw [← hy]
    have HY := Lib.hid hy
    have hyy : (y == y) = true := by simp
    clear h0 q3 hy
    go_wp2_with fail
    refine HPC.out.mono ?_
    clear HPC
    rintro e v2 ⟨rfl, hb2⟩
    have hB2 := HB1.out.trans (hb2.mono hsz)
    have hz2 := hB2.size
    have HB2 := Lib.hid hB2
    have HSO := Lib.hid (ref_ShortOf A B n c m d ws ts v2 HL.out q1 ((HR.out.below hB2).more hz2) HL2.out q2 ((HR2.out.below hB2).more hz2) HQ.out)
    clear hb2 hB2
    go_wp2_with fail
    refine HSO.out.mono ?_
    clear HSO
    rintro e v3 ⟨rfl, hb3⟩
    have HB3 := Lib.hid (HB2.out.trans (hb3.mono hz2))
    rw [← HY.out]
    clear hb3
    go_wp2_with fail
    go_ret
    exact ⟨rfl, HB3.out⟩
  · have h1 : (placeCheck ws m != 0) = true := by simpa using h0
    rw [if_neg h0]
    have h3 : wN w0 = 0 := rfl
    rw [h3]
    obtain ⟨x, hx⟩ : ∃ x, x = placeCheck ws m := ⟨_, rfl⟩
    rw [← hx] at h1 HPC ⊢
    have hxx : (x == x) = true := by simp
    clear h0 hx h3
    go_wp2_with fail
    refine HPC.out.mono ?_
    clear HPC
    rintro e v2 ⟨rfl, hb2⟩
    have HB2 := Lib.hid (HB1.out.trans (hb2.mono hsz))
    clear hb2
    go_wp2_with fail
    go_ret
    exact ⟨rfl, HB2.out⟩
theorem PlaceShort_row (s : Sls (Int × Int)) (t : Sls Int) (w : World) (htab : TabOk w) (h : s.Good w w.heap.size 2 (fun p => [.int .i64 p.1, .int .u32 p.2]) (fun p => OkI p.1 ∧ OkU p.2)) (ht : t.Good w w.heap.size 1 (fun p => [.int .u32 p]) OkU) :
    Calls Tryd.prog 7 #[s.val, t.val] w fun e w' => e = .returned (.bool true) ∧ Below w.heap.size w w' :=
  law_PlaceShort s.A t.A s.l.length s.c t.l.length t.c (s.l.map fun p => (p.1, wordOf p.2)) (t.l.map wordOf) w htab (by simp) h.1 (h.2.2.1.map_ _ fun a ha => by rw [wkcell, wN_wordOf (h.2.2.2 a ha).2.1 (h.2.2.2 a ha).2.2]) (by simp) ht.1 (ht.2.2.1.map_ wordOf fun a ha => by rw [wcell, wN_wordOf (ht.2.2.2 a ha).1 (ht.2.2.2 a ha).2])
end Go.Proofs.YthopiaggnbkjbaaDoor
