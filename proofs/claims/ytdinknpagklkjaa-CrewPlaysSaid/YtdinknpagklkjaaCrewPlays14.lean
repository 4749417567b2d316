/- The placing of the most: the program. Conditions: the workers and the tasks read as lists. -/
import Derived.Test.YtdinknpagklkjaaCrewPlays13
import Derived.Test.YtdinknpagklkjaaCrewPlays8
import Derived.Test.YtdinknpagklkjaaCrewPlays7
import Derived.Test.YtdinknpagklkjaaCrewPlays9
import Derived.Test.YtdinknpagklkjaaCrewPlays4
import Derived.Test.YtdinknpagklkjaaCrewPlays10
namespace Go.Proofs.Ytdinknpagklkjaa
open Go.RowKit

theorem place_Most_bad (A B : Option Addr) (n c m d : Nat) (ws : List Wk) (w : World) (hl : ws.length = n) (hn : n ≤ maxLen) (hr : Els w w.heap.size 2 wkcell A ws) (hm : m ≤ maxLen) (he : placeCheck ws m ≠ 0) :
    Calls Try.prog 20 #[.slice A n c, .slice B m d] w fun e w' => e = .returned (.tuple #[.slice none 0 0, .int .i64 (placeCheck ws m)]) ∧ Below w.heap.size w w' := by
  have HE := Lib.hid (place_Check A B n c m d ws w hl hn hr hm)
  have h1 : (placeCheck ws m != 0) = true := by simpa using he
  generalize placeCheck ws m = x at HE h1
  clear hl hn hr hm he
  go_enter Try.func20, Try.ntmps20
  go_wp2_with fail
  refine HE.out.mono ?_
  clear HE
  rintro e v1 ⟨rfl, hb1⟩
  go_wp2_with fail
  go_ret2
  exact ⟨rfl, hb1⟩
/-- Between two tasks. -/
def MostI (Y W M : Nat) (ws : List Wk) (ts : List (BitVec 32)) (A7 : Option Addr) (cap7 : Nat) (v1 : World) (s40 s11 s8 : Value) (wr : World) : Prop :=
  ∃ (i : Nat) (left : Int) (room acc : List Int) (A8 : Option Addr) (cap8 : Nat), i ≤ M ∧ s40 = .int .i64 i ∧ s11 = .int .i64 left ∧ s8 = .slice A8 i cap8 ∧ Below Y v1 wr ∧ Own wr Y 3 1 icell A7 cap7 room ∧ Own wr Y 3 1 icell A8 cap8 acc ∧ room.length = W ∧ acc.length = i ∧ (∀ j, 0 ≤ room.getD j 0 ∧ room.getD j 0 ≤ 12) ∧ (∀ g, blkOf A7 = some g → blkOf A8 ≠ some g) ∧ (0 ≤ left ∧ left ≤ 1048576000) ∧ acc ++ mostG ws (ts.drop i) room left = mostF ws ts
/-- While a worker is looked for. -/
def MostJ (Y W i : Nat) (ws : List Wk) (t : BitVec 32) (ts : List (BitVec 32)) (A7 : Option Addr) (cap7 : Nat) (A8 : Option Addr) (cap8 : Nat) (room acc : List Int) (left : Int) (v1 : World) (s50 s11 : Value) (wr : World) : Prop :=
  ∃ (j : Nat), j ≤ W ∧ s50 = .int .i64 j ∧ s11 = .int .i64 left ∧ Below Y v1 wr ∧ Own wr Y 3 1 icell A7 cap7 room ∧ Own wr Y 3 1 icell A8 cap8 (acc ++ [-1]) ∧ ∀ j', j' < j → seatB ws t ts room left j' = false

theorem room_less {room : List Int} (h : ∀ j, 0 ≤ room.getD j 0 ∧ room.getD j 0 ≤ 12) {x : Int} (h0 : 0 ≤ x) (h1 : x ≤ 12) {q : Nat} : ∀ y, 0 ≤ (room.set q x).getD y 0 ∧ (room.set q x).getD y 0 ≤ 12 := fun y => by
  by_cases hy : y < room.length
  · rw [getD_at _ y (by rw [List.length_set]; exact hy), List.getElem_set]
    split
    · exact ⟨h0, h1⟩
    · have := h y
      rwa [getD_at _ y hy] at this
  · rw [List.getD_eq_getElem?_getD, List.getElem?_eq_none (by rw [List.length_set]; omega)]
    exact ⟨Int.le_refl _, by decide⟩
theorem pick_some {ws : List Wk} {t : BitVec 32} {ts : List (BitVec 32)} {room : List Int} {left : Int} {j : Nat} (hj : j < ws.length) (h : seatB ws t ts room left j = true) (hno : ∀ j', j' < j → seatB ws t ts room left j' = false) : pickJ ws t ts room left = some j := by
  unfold pickJ
  rw [List.find?_range_eq_some]
  exact ⟨h, List.mem_range.2 hj, fun j' hj' => by rw [hno j' hj']; rfl⟩
theorem pick_none {ws : List Wk} {t : BitVec 32} {ts : List (BitVec 32)} {room : List Int} {left : Int} (hno : ∀ j', j' < ws.length → seatB ws t ts room left j' = false) : pickJ ws t ts room left = none := by
  unfold pickJ
  rw [List.find?_eq_none]
  intro j hj
  rw [hno j (List.mem_range.1 hj)]
  simp
set_option maxRecDepth 100000 in
set_option maxHeartbeats 400000 in
theorem place_Most (A B : Option Addr) (W cA M cB : Nat) (ws : List Wk) (ts : List (BitVec 32)) (w : World) (hW : ws.length = W) (hM : ts.length = M) (hMc : M ≤ cB) (hws : Els w w.heap.size 2 wkcell A ws) (hts : Els w w.heap.size 1 wcell B ts) (he : placeCheck ws M = 0) :
    Calls Try.prog 20 #[.slice A W cA, .slice B M cB] w fun e w' => ∃ A' cap, e = .returned (.tuple #[.slice A' M cap, .int .i64 0]) ∧ Below w.heap.size w w' ∧ Own w' w.heap.size 3 1 icell A' cap (mostF ws ts) := by
  obtain ⟨hW6, hM12, hbad⟩ : W ≤ 6 ∧ M ≤ 12 ∧ ws.any badRoom = false := by
    unfold placeCheck at he
    split at he
    · omega
    · split at he
      · omega
      · rename_i h1 h2
        refine ⟨by omega, by omega, by simpa using h2⟩
  have hrb0 : ∀ k ∈ ws, 0 ≤ k.1 ∧ k.1 ≤ 12 := fun k hk => by
    have := List.any_eq_false.1 hbad k hk
    unfold badRoom at this
    simp at this
    omega
  obtain ⟨S, hS⟩ : ∃ S, S = w.heap.size := ⟨_, rfl⟩
  have hchk := place_Check A B W cA M cB ws w hW (by unfold maxLen; omega) hws (by unfold maxLen; omega)
  rw [he] at hchk
  have HE := Lib.hid hchk
  rw [← hS] at hws hts
  have HS := Lib.hid hS
  have HWS := Lib.hid hws
  have HTS := Lib.hid hts
  have HW := Lib.hid hW
  have HM := Lib.hid hM
  have HRB0 := Lib.hid hrb0
  clear hS hws hts hW hM hrb0 hbad he hchk
  go_enter Try.func20, Try.ntmps20
  go_wp2_with fail
  refine HE.out.mono ?_
  clear HE
  rintro e v1 ⟨rfl, hb1⟩
  rw [← HS.out] at hb1
  obtain ⟨Y, hY⟩ : ∃ Y, Y = v1.heap.size := ⟨_, rfl⟩
  have hSY : S ≤ Y := by rw [hY, HS.out]; exact hb1.size
  have HB1 := Lib.hid hb1
  have HY := Lib.hid hY
  clear hb1 hY
  go_wp2_with fail
  go_loopw [24, 7] (fun s24 s7 wr => ∃ (j : Nat) (A7 : Option Addr) (cap7 : Nat), j ≤ W ∧ s24 = .int .i64 j ∧ s7 = .slice A7 j cap7 ∧ Below Y v1 wr ∧ Own wr Y 3 1 icell A7 cap7 ((ws.take j).map (·.1))) (fun s24 _ _ => W - (intOf s24).toNat)
  case atStart => exact ⟨0, none, 0, Nat.zero_le _, rfl, rfl, Below.refl _ _, Own.nil _ _ _ (fun _ => rfl)⟩
  case round =>
    rename World => wr
    obtain ⟨j, A7, cap7, hj, rfl, rfl, hb, ho⟩ := hrel
    by_cases hjW : j < W
    · have hjl : j < ws.length := by rw [HW.out]; exact hjW
      have hbS := HB1.out.trans (hb.mono hSY)
      obtain ⟨bw, ow, rfl, hbw, g0, g1⟩ := (HWS.out.below hbS).at2 (k := j) hjl
      obtain ⟨kk, hkk⟩ : ∃ kk, kk = ws[j] := ⟨_, rfl⟩
      rw [← hkk] at g0 g1
      have hsn : (ws.take (j + 1)).map (·.1) = (ws.take j).map (·.1) ++ [kk.1] := by
        rw [List.take_succ_eq_append_getElem hjl, List.map_append, hkk]
        rfl
      have hlr : ((ws.take j).map (·.1)).length = j := by simp; omega
      have hzw := hb.size
      rw [← HY.out] at hzw
      obtain ⟨K, hK⟩ : ∃ K, K = wr.heap.size := ⟨_, rfl⟩
      have hbV := hb.alloc hzw (.cells #[.int .i64 kk.1, .int .u32 (wN kk.2)] 39)
      have hoV := ho.alloc (.cells #[.int .i64 kk.1, .int .u32 (wN kk.2)] 39)
      have kV := (Blk.new wr 39 #[.int .i64 kk.1, .int .u32 (wN kk.2)]).cell 0
      have hzV : Y ≤ (wr.alloc (.cells #[.int .i64 kk.1, .int .u32 (wN kk.2)] 39)).heap.size := by rw [size_alloc']; omega
      have HSN := Lib.hid hsn
      have HBV := Lib.hid hbV
      have HOV := Lib.hid hoV
      clear hb ho hbS hbV hoV hkk hsn hK
      go_wp2_with (at_builtin; go_loud (
        refine wpList_push rfl _ _ _ rfl Y 1 3 (.int .i64 0) 8 Try.underlying27 (by kernel_rfl) rfl (by omega) icell _ #[.int .i64 kk.1] A7 j cap7 ((ws.take j).map (·.1)) hlr rfl HOV.out 1 [kk.1] rfl rfl (wr.heap.size + 1) rfl (size_alloc' _ _) (by simp [Value.oneCell']) (by unfold maxLen; omega) (by omega) (by omega) ?_
        intro A9 cap9 w9 hown9 hgrow9 hloc9
        have HO9 := Lib.hid hown9
        have HG9 := Lib.hid hgrow9
        clear hown9 hgrow9 hloc9))
      have hne : ∀ g, blkOf A7 = some g → Y ≤ g := fun g hg => (HOV.out.lt g hg).1
      have hb9 := (HBV.out.alloc hzV (.cells #[.int .i64 kk.1] 3)).grown HG9.out (by rw [size_alloc']; omega) (fun g e => by have := hne g e; omega)
      have HB9 := Lib.hid hb9
      clear hb9
      go_roundw
      case rel => exact ⟨j + 1, A9, cap9, by omega, by go_num, rfl, HB9.out, by rw [HSN.out]; exact HO9.out⟩
      case measure => simp [intOf]; omega
    · obtain rfl : j = W := by omega
      rw [List.take_of_length_le (by rw [HW.out]; exact Nat.le_refl _)] at ho
      have hbS := HB1.out.trans (hb.mono hSY)
      have hzw := hb.size
      rw [← HY.out] at hzw
      have hrl : (ws.map (·.1)).length = j := by rw [List.length_map, HW.out]
      have hrb : ∀ q, 0 ≤ (ws.map (·.1)).getD q 0 ∧ (ws.map (·.1)).getD q 0 ≤ 12 := fun q => by
        by_cases hq : q < ws.length
        · rw [getD_at _ q (by simpa using hq), List.getElem_map]
          exact HRB0.out _ (List.getElem_mem hq)
        · rw [List.getD_eq_getElem?_getD, List.getElem?_eq_none (by simpa using hq)]
          exact ⟨Int.le_refl _, by decide⟩
      have hMANY := place_many A B A7 j cA M cB cap7 ws ts (ws.map (·.1)) wr HW.out hW6 HM.out hM12 hrl hrb ((HWS.out.below hbS).more (by omega)) ((HTS.out.below hbS).more (by omega)) ho.els
      have HMANY := Lib.hid hMANY
      have HB := Lib.hid hb
      have HO := Lib.hid ho
      have HRL := Lib.hid hrl
      have HRB := Lib.hid hrb
      clear hb ho hbS hMANY hrl hrb
      go_wp2_with fail
      refine HMANY.out.mono ?_
      clear HMANY
      rintro e v2 ⟨rfl, hb2, hm0, hmb⟩
      have hb2' := HB.out.trans (hb2.mono hzw)
      have ho2 := HO.out.below hb2 (Nat.le_refl _)
      obtain ⟨left, hleft⟩ : ∃ left, left = manyV ws ts (ws.map (·.1)) := ⟨_, rfl⟩
      rw [← hleft] at hm0 hmb ⊢
      have hmf : ([] : List Int) ++ mostG ws (ts.drop 0) (ws.map (·.1)) left = mostF ws ts := by
        unfold mostF
        rw [← hleft]
        rfl
      have HB2 := Lib.hid hb2'
      have HO2 := Lib.hid ho2
      have HMF := Lib.hid hmf
      clear hb2 hb2' ho2 hmf hleft HB HO
      go_wp2_with fail
      go_loopw [40, 11, 8] (fun s40 s11 s8 wr => MostI Y j M ws ts A7 cap7 v1 s40 s11 s8 wr) (fun s40 _ _ _ => M - (intOf s40).toNat)
      case atStart => exact ⟨0, left, _, [], none, 0, Nat.zero_le _, rfl, rfl, rfl, HB2.out, HO2.out, Own.nil _ _ _ (fun _ => rfl), HRL.out, rfl, HRB.out, (by intro g _ h; cases h), ⟨hm0, hmb⟩, HMF.out⟩
      case round =>
        clear HB2 HO2 HMF HRL HRB hm0 hmb
        rename World => wq
        obtain ⟨i, left, room, acc, A8, cap8, hi, rfl, rfl, rfl, hb, ho7, ho8, hrl, hal, hrb, hap, ⟨hl0, hl1⟩, hmf⟩ := hrel
        have hbS := HB1.out.trans (hb.mono hSY)
        have hzw := hb.size
        rw [← HY.out] at hzw
        by_cases hiM : i < M
        · have hil : i < ts.length := by rw [HM.out]; exact hiM
          obtain ⟨bt, ot, rfl, hbt, t0⟩ := (HTS.out.below hbS).at1 (f := fun x => .int .u32 (wN x)) (k := i) hil
          obtain ⟨tk, htk⟩ : ∃ tk, tk = ts[i] := ⟨_, rfl⟩
          rw [← htk] at t0
          have hdr : ts.drop i = tk :: ts.drop (i + 1) := by rw [List.drop_eq_getElem_cons hil, ← htk]
          rw [hdr] at hmf
          obtain ⟨rs, hrs⟩ : ∃ rs, rs = ts.drop (i + 1) := ⟨_, rfl⟩
          rw [← hrs] at hmf
          have hrsl : rs.length = M - (i + 1) := by rw [hrs, List.length_drop, HM.out]
          have hcut := HTS.out.cut (k := i + 1) HM.out hMc
          rw [← hrs] at hcut
          have hct : ∀ W0 : World, (Instr.slice 23 (.slice (some ⟨bt, ot, none⟩) M cB) (some (.int .i64 ((i : Int) + 1))) none none).run Try.prog W0 = .ok (.slice (if cB = i + 1 then (some ⟨bt, ot, none⟩) else (some (⟨bt, ot, none⟩ : Addr)).map (·.add ((i + 1) * 1))) (M - (i + 1)) (cB - (i + 1))) W0 := fun W0 =>
            run_tail Try.underlying23 (fun w => by kernel_rfl) _ M cB (i + 1) (by omega) hMc (by omega) W0
          obtain ⟨AX, hAX⟩ : ∃ AX, AX = (if cB = i + 1 then (some ⟨bt, ot, none⟩) else (some (⟨bt, ot, none⟩ : Addr)).map (·.add ((i + 1) * 1))) := ⟨_, rfl⟩
          rw [← hAX] at hcut
          simp only [← hAX] at hct
          have HCUT := Lib.hid hcut
          have HRS := Lib.hid hrs
          have HTK := Lib.hid htk
          have HRSL := Lib.hid hrsl
          have HB := Lib.hid hb
          have HO7 := Lib.hid ho7
          have HO8 := Lib.hid ho8
          have HRL := Lib.hid hrl
          have HAL := Lib.hid hal
          have HRB := Lib.hid hrb
          have HAP := Lib.hid hap
          have HMF := Lib.hid hmf
          clear hb ho7 ho8 hrl hal hrb hap hmf hdr hrs hrsl hcut hAX htk hbS
          go_wp2_with (at_builtin; go_loud (
            refine wpList_push rfl _ _ _ rfl Y 1 3 (.int .i64 0) 8 Try.underlying27 (by kernel_rfl) rfl (by omega) icell wq #[.int .i64 (-1)] A8 i cap8 acc HAL.out rfl HO8.out 1 [(-1 : Int)] rfl rfl _ rfl rfl (by simp [Value.oneCell']) (by unfold maxLen; omega) (by omega) (by omega) ?_
            intro A9 cap9 w9 hown9 hgrow9 hloc9
            have HO9 := Lib.hid hown9
            have HG9 := Lib.hid hgrow9
            have HL9 := Lib.hid hloc9
            clear hown9 hgrow9 hloc9))
          have hne : ∀ g, blkOf A8 = some g → Y ≤ g := fun g hg => (HO8.out.lt g hg).1
          have hb9 := (HB.out.alloc (by omega) (.cells #[.int .i64 (-1)] 3)).grown HG9.out (by rw [size_alloc']; omega) (fun g e => by have := hne g e; omega)
          have ho79 : Own w9 Y 3 1 icell A7 cap7 room := (HO7.out.alloc (.cells #[.int .i64 (-1)] 3)).kept HG9.out (by
            cases h7 : blkOf A7 with
            | none => exact .inl rfl
            | some g => exact .inr fun e => HAP.out g h7 e.symm)
          have hap9 : ∀ g, blkOf A7 = some g → blkOf A9 ≠ some g := fun g hg e => by
            rcases HL9.out with h | h
            · exact HAP.out g hg (h ▸ e)
            · rw [h] at e
              have h1 : wq.heap.size + 1 = g := by simpa using e
              have h2 := (HO7.out.lt g hg).2
              omega
          have HB9 := Lib.hid hb9
          have HO79 := Lib.hid ho79
          have HAP9 := Lib.hid hap9
          clear hb9 ho79 hap9 hne
          go_loopw [50, 11] (fun s50 s11 wr => MostJ Y j i ws tk rs A7 cap7 A9 cap9 room acc left v1 s50 s11 wr) (fun s50 _ _ => j - (intOf s50).toNat)
          case atStart => exact ⟨0, Nat.zero_le _, rfl, rfl, HB9.out, HO79.out, HO9.out, fun j' h => by omega⟩
          case round =>
            clear HB9 HO79 HB HO7 HO8 HG9 HL9 HO9 HAP
            rename World => wx
            obtain ⟨q, hq, rfl, rfl, hb, ho7, ho9, hno⟩ := hrel
            have hbS := HB1.out.trans (hb.mono hSY)
            have hzx := hb.size
            rw [← HY.out] at hzx
            by_cases hqW : q < j
            · have hql : q < ws.length := by rw [HW.out]; exact hqW
              have hqr : q < room.length := by rw [HRL.out]; exact hqW
              obtain ⟨bw, ow, rfl, hbw, g0, g1⟩ := (HWS.out.below hbS).at2 (k := q) hql
              obtain ⟨kk, hkk⟩ : ∃ kk, kk = ws[q] := ⟨_, rfl⟩
              have hwk : wk ws q = kk := by rw [hkk]; exact getD_at ws q hql (0, w0)
              rw [← hkk] at g0 g1
              obtain ⟨g7, rfl, h7Y, h7z, r0, rf⟩ := ho7.cell1 hqr
              rw [← getD_at room q hqr 0] at r0
              obtain ⟨K, hK⟩ : ∃ K, K = wx.heap.size := ⟨_, rfl⟩
              have hYK : Y ≤ K := by omega
              have hMAY := plc_may kk tk (wx.alloc (.cells #[.int .i64 kk.1, .int .u32 (wN kk.2)] 39))
              obtain ⟨V, hV⟩ : ∃ V, V = (wx.alloc (.cells #[.int .i64 kk.1, .int .u32 (wN kk.2)] 39)).alloc (.cells #[.int .i64 kk.1, .int .u32 (wN kk.2)] 39) := ⟨_, rfl⟩
              have hzV : V.heap.size = K + 2 := by rw [hV, size_alloc', size_alloc', hK]
              have hbV : Below Y v1 V := by rw [hV]; exact (hb.alloc hzx _).alloc (by rw [size_alloc']; omega) _
              have ho7V : Own V Y 3 1 icell (some ⟨g7, 0, none⟩) cap7 room := by rw [hV]; exact (ho7.alloc _).alloc _
              have ho9V : Own V Y 3 1 icell A9 cap9 (acc ++ [-1]) := by rw [hV]; exact (ho9.alloc _).alloc _
              have hsb : seatB ws tk rs room left q = (mayW tk kk && (room.getD q 0 != 0) && (1 + manyV ws rs (room.set q (room.getD q 0 - 1)) == left)) := by
                unfold seatB
                rw [hwk]
              have hnx : seatB ws tk rs room left q = false → ∀ j', j' < q + 1 → seatB ws tk rs room left j' = false := fun h j' hj' => by
                by_cases hjq : j' = q
                · rw [hjq]; exact h
                · exact hno j' (by omega)
              obtain ⟨rq, hrq⟩ : ∃ rq, rq = room.getD q 0 := ⟨_, rfl⟩
              have hrq0 := HRB.out q
              rw [← hrq] at r0 hsb hrq0
              have d0 := (Blk.new wx 39 #[.int .i64 kk.1, .int .u32 (wN kk.2)]).cell 0
              have d1 := (Blk.new wx 39 #[.int .i64 kk.1, .int .u32 (wN kk.2)]).cell 1
              rw [← hV] at hMAY
              have HMAY := Lib.hid hMAY
              have HBV := Lib.hid hbV
              have HO7V := Lib.hid ho7V
              have HO9V := Lib.hid ho9V
              have HSB := Lib.hid hsb
              have HNO := Lib.hid hno
              have HNX := Lib.hid hnx
              have HRQ := Lib.hid hrq
              have rV : V.cell? ⟨g7, q, none⟩ = some (.int .i64 rq) := by
                rw [hV]
                exact (((Below.refl wx.heap.size wx).alloc (Nat.le_refl _) _).alloc (by rw [size_alloc']; omega) _ |>.cell (by show g7 < _; omega)).trans r0
              have fV := (ho7V.cell1 hqr).choose_spec.2.2.2.2
              have hg7 : (ho7V.cell1 hqr).choose = g7 := by
                have := (ho7V.cell1 hqr).choose_spec.1
                simpa using this.symm
              rw [hg7] at fV
              have hap7 := HAP9.out g7 rfl
              clear hb ho7 ho9 hno hbS hMAY hV hbV ho7V ho9V hsb hnx hrq hkk hwk hg7 r0 rf hK
              rcases Bool.eq_false_or_eq_true (mayW tk kk) with hmy | hmy
              · rw [hmy] at HMAY HSB
                clear hmy
                by_cases hz : rq = 0
                · have HF := Lib.hid (HNX.out (by rw [HSB.out, hz]; rfl))
                  have hzb : (rq == 0) = true := by simp [hz]
                  clear HNX HSB
                  go_wp2_with fail
                  refine HMAY.out.mono ?_
                  rintro e w3 ⟨rfl, rfl⟩
                  go_wp2_with fail
                  go_roundw
                  case rel => exact ⟨q + 1, by omega, by go_num, rfl, HBV.out, HO7V.out, HO9V.out, HF.out⟩
                  case measure => simp [intOf]; omega
                · have hzb : (rq == 0) = false := by simp [hz]
                  have hz1 : (rq != 0) = true := by simp [hz]
                  rw [hz1, Bool.true_and, Bool.true_and] at HSB
                  clear hz1
                  have e1 : IntKind.i64.wrap (rq - 1) = rq - 1 := IntWalk.i64_in _ (by omega)
                  have e2 : IntKind.i64.wrap (rq - 1 + 1) = rq := by rw [IntWalk.i64_in _ (by omega)]; omega
                  have hput := HO7V.out.put1 (x := rq - 1) hqr
                  have hb3 := HBV.out.setCell (p := ⟨g7, q, none⟩) h7Y (.int .i64 (rq - 1))
                  have ho93 := HO9V.out.far (p := ⟨g7, q, none⟩) hap7 (.int .i64 (rq - 1))
                  obtain ⟨V3, hV3⟩ : ∃ V3, V3 = V.setCell ⟨g7, q, none⟩ (.int .i64 (rq - 1)) := ⟨_, rfl⟩
                  rw [← hV3] at hput hb3 ho93
                  have hz3 : V3.heap.size = K + 2 := by rw [hV3]; simpa using hzV
                  have hbS3 := HB1.out.trans (hb3.mono hSY)
                  have hMANY := place_many (some ⟨bw, ow, none⟩) AX (some ⟨g7, 0, none⟩) j cA (M - (i + 1)) (cB - (i + 1)) cap7 ws rs (room.set q (rq - 1)) V3 HW.out hW6 HRSL.out (by omega) (by rw [List.length_set]; exact HRL.out) (room_less HRB.out (by omega) (by omega)) ((HWS.out.below hbS3).more (by omega)) ((HCUT.out.below hbS3).more (by omega)) hput.els
                  have HMANY := Lib.hid hMANY
                  have HPUT := Lib.hid hput
                  have HB3 := Lib.hid hb3
                  have HO93 := Lib.hid ho93
                  have HV3 := Lib.hid hV3
                  clear hMANY hput hb3 ho93 hV3 hbS3
                  go_wp2_with fail
                  refine HMAY.out.mono ?_
                  rintro e w3 ⟨rfl, rfl⟩
                  go_wp2_with fail
                  rw [← HV3.out]
                  refine HMANY.out.mono ?_
                  clear HMANY
                  rintro e v4 ⟨rfl, hb4, hm0, hmb⟩
                  obtain ⟨mv, hmv⟩ : ∃ mv, mv = manyV ws rs (room.set q (rq - 1)) := ⟨_, rfl⟩
                  rw [← hmv] at hm0 hmb HSB ⊢
                  have HMV := Lib.hid hmv
                  clear hmv
                  have e3 : IntKind.i64.wrap (1 + mv) = 1 + mv := IntWalk.i64_in _ (by omega)
                  have hb4' := HB3.out.trans (hb4.mono (by omega))
                  have ho74 := HPUT.out.below hb4 (Nat.le_refl _)
                  have ho94 := HO93.out.below hb4 (Nat.le_refl _)
                  have hz4 := hb4.size
                  have HB4 := Lib.hid hb4'
                  have HO74 := Lib.hid ho74
                  have HO94 := Lib.hid ho94
                  clear hb4 hb4' ho74 ho94 HB3 HO93 HPUT HV3 rV fV
                  by_cases heq : 1 + mv = left
                  · have heb : (1 + mv == left) = true := by simpa using heq
                    have hpk := pick_some hql (by rw [HSB.out, heb]) HNO.out
                    have hmf2 : (acc ++ [(q : Int)]) ++ mostG ws rs (room.set q (rq - 1)) (left - 1) = mostF ws ts := by
                      rw [← HMF.out, List.append_assoc]
                      conv => rhs; rw [mostG, hpk]
                      rw [HRQ.out]
                      rfl
                    have hal9 : (acc ++ [(-1 : Int)]).length = i + 1 := by rw [List.length_append, HAL.out]; rfl
                    have hset : (acc ++ [(-1 : Int)]).set i q = acc ++ [(q : Int)] := by rw [← HAL.out]; simp
                    obtain ⟨g9, rfl, h9Y, h9z, r9, f9⟩ := HO94.out.cell1 (k := i) (by rw [hal9]; omega)
                    have hput9 := HO94.out.put1 (k := i) (x := (q : Int)) (by rw [hal9]; omega)
                    rw [hset] at hput9
                    have hb5 := HB4.out.setCell (p := ⟨g9, i, none⟩) h9Y (.int .i64 (q : Int))
                    have ho75 := HO74.out.far (p := ⟨g9, i, none⟩) (fun e => HAP9.out g9 e rfl) (.int .i64 (q : Int))
                    have e4 : IntKind.i64.wrap (left - 1) = left - 1 := IntWalk.i64_in _ (by omega)
                    have hl2 : 0 ≤ left - 1 ∧ left - 1 ≤ 1048576000 := by omega
                    have hrl2 : (room.set q (rq - 1)).length = j := by rw [List.length_set]; exact HRL.out
                    have hal2 : (acc ++ [(q : Int)]).length = i + 1 := by rw [List.length_append, HAL.out]; rfl
                    have HQ9 := Lib.hid hput9
                    have HB5 := Lib.hid hb5
                    have HO75 := Lib.hid ho75
                    have HMF2 := Lib.hid hmf2
                    have HRL2 := Lib.hid hrl2
                    have HAL2 := Lib.hid hal2
                    have HRB2 := Lib.hid (room_less (q := q) HRB.out (x := rq - 1) (by omega) (by omega))
                    clear hpk hmf2 hset hput9 hb5 ho75 hrl2 hal2 heq HNX
                    go_wp2_with fail
                    go_roundw
                    case rel => exact ⟨i + 1, left - 1, _, _, some ⟨g9, 0, none⟩, cap9, by omega, by go_num, rfl, rfl, HB5.out, HO75.out, HQ9.out, HRL2.out, HAL2.out, HRB2.out, HAP9.out, hl2, by rw [← HRS.out]; exact HMF2.out⟩
                    case measure => simp [intOf]; omega
                  · have heb : (1 + mv == left) = false := by simpa using heq
                    have HF := Lib.hid (HNX.out (by rw [HSB.out, heb]))
                    have hqs : q < (room.set q (rq - 1)).length := by rw [List.length_set]; exact hqr
                    obtain ⟨g7', hg7', _, _, r4, f4⟩ := HO74.out.cell1 hqs
                    have : g7' = g7 := by simpa using hg7'.symm
                    subst this
                    rw [List.getElem_set_self] at r4
                    have hput2 := HO74.out.put1 (x := rq) hqs
                    have hsx : (room.set q (rq - 1)).set q rq = room := by
                      rw [List.set_set, HRQ.out, List.getD_eq_getElem?_getD, List.getElem?_eq_getElem hqr]
                      simp
                    rw [hsx] at hput2
                    clear hsx
                    have hb5 := HB4.out.setCell (p := ⟨g7', q, none⟩) h7Y (.int .i64 rq)
                    have ho95 := HO94.out.far (p := ⟨g7', q, none⟩) hap7 (.int .i64 rq)
                    have HPUT2 := Lib.hid hput2
                    have HB5 := Lib.hid hb5
                    have HO95 := Lib.hid ho95
                    clear hput2 hb5 ho95 heq
                    go_wp2_with fail
                    go_roundw
                    case rel => exact ⟨q + 1, by omega, by go_num, rfl, HB5.out, HPUT2.out, HO95.out, HF.out⟩
                    case measure => simp [intOf]; omega
              · have HF := Lib.hid (HNX.out (by rw [HSB.out, hmy]; rfl))
                rw [hmy] at HMAY
                clear hmy HSB HNX
                go_wp2_with fail
                refine HMAY.out.mono ?_
                rintro e w3 ⟨rfl, rfl⟩
                go_wp2_with fail
                go_roundw
                case rel => exact ⟨q + 1, by omega, by go_num, rfl, HBV.out, HO7V.out, HO9V.out, HF.out⟩
                case measure => simp [intOf]; omega
            · obtain rfl : q = j := by omega
              have hpk := pick_none (fun j' h => hno j' (by rw [← HW.out]; exact h))
              have hmf2 : (acc ++ [(-1 : Int)]) ++ mostG ws rs room left = mostF ws ts := by
                rw [← HMF.out, List.append_assoc]
                conv => rhs; rw [mostG, hpk]
                rfl
              have hal9 : (acc ++ [(-1 : Int)]).length = i + 1 := by rw [List.length_append, HAL.out]; rfl
              have HMF2 := Lib.hid hmf2
              have HAL2 := Lib.hid hal9
              have HBX := Lib.hid hb
              have HO7X := Lib.hid ho7
              have HO9X := Lib.hid ho9
              clear hpk hmf2 hal9 hb ho7 ho9 hno hbS
              go_wp2_with fail
              go_roundw
              case rel => exact ⟨i + 1, left, _, _, A9, cap9, by omega, by go_num, rfl, rfl, HBX.out, HO7X.out, HO9X.out, HRL.out, HAL2.out, HRB.out, HAP9.out, ⟨hl0, hl1⟩, by rw [← HRS.out]; exact HMF2.out⟩
              case measure => simp [intOf]; omega
        · obtain rfl : i = M := by omega
          have hnil : mostG ws (ts.drop i) room left = [] := by rw [List.drop_of_length_le (by rw [HM.out]; exact Nat.le_refl _)]; rfl
          rw [hnil, List.append_nil] at hmf
          subst hmf
          have HB := Lib.hid hbS
          have HO8 := Lib.hid ho8
          clear hb ho7 ho8 hrl hal hrb hap hnil hbS
          go_wp2_with fail
          go_ret2
          exact ⟨_, _, rfl, by rw [← HS.out]; exact HB.out, by rw [← HS.out]; exact HO8.out.weaken hSY⟩
end Go.Proofs.Ytdinknpagklkjaa

/- A crew in memory; is a worker in; so many are wanted. Conditions: the crew lies in memory. -/
namespace Go.Proofs.Ytdinknpagklkjaa
open Go.RowKit
attribute [local go_sem ↓] w_and w_or w_xor w_andNot w_and1 w_and255 w_xor1 w_or0 w_shl w_shl1 w_shr w_sub w_add w_sub1 w_add1
attribute [local go_sem] w_eq0 w_ne0 w_eq1 w_eq w_ne

abbrev slcell (s : Sls Int) : List Value := [s.val]
def rwAt (rows : List (Sls Int)) (j : Nat) : Sls Int := rows.getD j ⟨none, 0, []⟩
structure CrewIn (w : World) (lo P : Nat) (vw vs : Value) (m gw gt : Nat) (Ac : Option Addr) (kc : Nat) (rows : List (Sls Int)) (c : Cw) : Prop where
  blk : Blk w P 92 #[vw, vs, .slice Ac c.codes.length kc, .int .u32 (wN c.inn), .slice (some ⟨gw, 0, none⟩) m m, .slice (some ⟨gt, 0, none⟩) m m]
  cod : Own w lo 31 1 icell Ac kc c.codes
  wnt : Own w lo 3 1 icell (some ⟨gw, 0, none⟩) m c.wants
  tab : Own w lo 27 1 slcell (some ⟨gt, 0, none⟩) m rows
  tsk : rows.map (·.l) = c.tasks
  row : ∀ j, j < m → Own w lo 3 1 icell (rwAt rows j).A (rwAt rows j).c (rwAt rows j).l
  far : ∀ i j : Nat, i < m → j < m → i ≠ j → ∀ g, blkOf (rwAt rows i).A = some g → blkOf (rwAt rows j).A ≠ some g
  nw : ∀ j, j < m → blkOf (rwAt rows j).A ≠ some gw
  hlo : lo ≤ P
  rl : rows.length = m
  wl : c.wants.length = m
theorem CrewIn.below {w w' : World} {lo P m gw gt kc B : Nat} {vw vs : Value} {Ac : Option Addr} {rows : List (Sls Int)} {c : Cw} (h : CrewIn w lo P vw vs m gw gt Ac kc rows c) (hb : Below B w w') (hB : w.heap.size ≤ B) : CrewIn w' lo P vw vs m gw gt Ac kc rows c :=
  ⟨h.blk.below hb (by have := h.blk.lt; omega), h.cod.below hb hB, h.wnt.below hb hB, h.tab.below hb hB, h.tsk, fun j hj => (h.row j hj).below hb hB, h.far, h.nw, h.hlo, h.rl, h.wl⟩
theorem CrewIn.alloc {w : World} {lo P m gw gt kc : Nat} {vw vs : Value} {Ac : Option Addr} {rows : List (Sls Int)} {c : Cw} (h : CrewIn w lo P vw vs m gw gt Ac kc rows c) (o : Obj) : CrewIn (w.alloc o) lo P vw vs m gw gt Ac kc rows c := h.below ((Below.refl _ w).alloc (Nat.le_refl _) o) (Nat.le_refl _)
theorem CrewIn.drew {w : World} {lo P m gw gt kc : Nat} {vw vs : Value} {Ac : Option Addr} {rows : List (Sls Int)} {c : Cw} (h : CrewIn w lo P vw vs m gw gt Ac kc rows c) : CrewIn w.drew lo P vw vs m gw gt Ac kc rows c := h.below (Below.refl _ w).drew (Nat.le_refl _)

theorem own_cellsAt {α : Type} {w : World} {B c cap : Nat} {e : TypeId} {f : α → List Value} {A : Option Addr} {l : List α} (h : Own w B e c f A cap l) {g : Nat} (hg : blkOf A = some g) : ∃ cur, Blk w g e cur := by
  rcases h.2.2 with ⟨hv, _⟩ | ⟨g', cp, cur, hv, hB, hh, rest⟩
  · injection hv with hv
    rw [hv] at hg; cases hg
  · injection hv with hv
    rw [hv] at hg
    have : g' = g := by simpa [blkOf] using hg
    subst this
    exact ⟨cur, hh⟩
theorem getD_set_any {α : Type} (l : List α) (j q : Nat) (x d : α) (hj : j < l.length) : (l.set j x).getD q d = if j = q then x else l.getD q d := by
  rw [List.getD_eq_getElem?_getD, List.getElem?_set]
  by_cases h : j = q
  · subst h; rw [if_pos rfl, if_pos rfl, if_pos hj]; rfl
  · rw [if_neg h, if_neg h, ← List.getD_eq_getElem?_getD]
/-- A row of the table is put. -/
theorem CrewIn.put {w w2 : World} {lo P m gw gt kc k : Nat} {vw vs : Value} {Ac : Option Addr} {rows : List (Sls Int)} {c : Cw} {s : Sls Int} (h : CrewIn w lo P vw vs m gw gt Ac kc rows c) (hk : k < m)
    (hblk : Blk w2 P 92 #[vw, vs, .slice Ac c.codes.length kc, .int .u32 (wN c.inn), .slice (some ⟨gw, 0, none⟩) m m, .slice (some ⟨gt, 0, none⟩) m m])
    (hcod : Own w2 lo 31 1 icell Ac kc c.codes) (hwnt : Own w2 lo 3 1 icell (some ⟨gw, 0, none⟩) m c.wants) (htab : Own w2 lo 27 1 slcell (some ⟨gt, 0, none⟩) m rows)
    (hrow : ∀ j, j < m → j ≠ k → Own w2 lo 3 1 icell (rwAt rows j).A (rwAt rows j).c (rwAt rows j).l) (hs : Own w2 lo 3 1 icell s.A s.c s.l)
    (hfar : ∀ j, j < m → j ≠ k → ∀ g, blkOf s.A = some g → blkOf (rwAt rows j).A ≠ some g) (hnw : blkOf s.A ≠ some gw) :
    CrewIn (w2.setCell ⟨gt, k, none⟩ s.val) lo P vw vs m gw gt Ac kc (rows.set k s) { c with tasks := c.tasks.set k s.l } := by
  have hkl : k < rows.length := by rw [h.rl]; exact hk
  have hat : ∀ j, rwAt (rows.set k s) j = if k = j then s else rwAt rows j := fun j => getD_set_any rows k j s _ hkl
  have hty : ∀ {α : Type} {B cc cap : Nat} {e : TypeId} {f : α → List Value} {A : Option Addr} {l : List α}, Own w2 B e cc f A cap l → e ≠ 27 → Own (w2.setCell ⟨gt, k, none⟩ s.val) B e cc f A cap l := fun ho he =>
    ho.far (p := ⟨gt, k, none⟩) (fun e => by
      obtain ⟨cur, hcur⟩ := own_cellsAt ho e
      exact own_far_blk htab hcur (fun e => he e.symm) rfl) _
  refine ⟨hblk.far (p := ⟨gt, k, none⟩) (fun e => own_far_blk htab hblk (by decide) (by rw [e]; rfl)) _, hty hcod (by decide), hty hwnt (by decide), htab.put1 (f := fun s : Sls Int => s.val) hkl, ?_, fun j hj => ?_, fun i j hi hj hne g hg => ?_, fun j hj => ?_, h.hlo, by rw [List.length_set]; exact h.rl, h.wl⟩
  · rw [List.map_set, h.tsk]
  · rw [hat]
    split
    · exact hty hs (by decide)
    · exact hty (hrow j hj (fun e => by omega)) (by decide)
  · rw [hat] at hg ⊢
    split at hg
    · rename_i h1
      rw [if_neg (by omega)]
      exact hfar j hj (by omega) g hg
    · rename_i h1
      split
      · rename_i h2
        intro e
        exact hfar i hi (by omega) g e hg
      · exact h.far i j hi hj hne g hg
  · rw [hat]
    split
    · exact hnw
    · exact h.nw j hj
theorem crew_in (P : Nat) (v0 v1 v2 v4 v5 : Value) (x : BitVec 32) (i : Nat) (w : World) (hk : Blk w P 92 #[v0, v1, v2, .int .u32 (wN x), v4, v5]) :
    Calls Try.prog 88 #[.pointer (some ⟨P, 0, none⟩), .int .i64 i] w fun e w' => e = .returned (.bool (bitB x i)) ∧ w = w' := by
  have c3 := hk.cell 3
  have HB : Hid ((wAnd (wShr x i) w1 == w1) = bitB x i) := Lib.hid (by rw [shr_and1, bitB_nat])
  clear hk
  go_enter Try.func88, Try.ntmps88
  go_wp2_with fail
  go_ret
  exact ⟨ret_bool HB.out, rfl⟩

def wantE (l : List Int) (s : Nat) (n : Int) : Int := if n < 0 then 4 else if 12 - othTo l s l.length < n then 1 else 0
def wantC (c : Cw) (s : Nat) (n : Int) : Cw := if wantE c.wants s n = 0 then { c with wants := c.wants.set s n } else c
set_option maxRecDepth 100000 in
set_option maxHeartbeats 400000 in
theorem crew_want (lo P m gw gt kc : Nat) (vw vs : Value) (Ac : Option Addr) (rows : List (Sls Int)) (c : Cw) (s : Nat) (n : Int) (w : World) (h : CrewIn w lo P vw vs m gw gt Ac kc rows c) (h0 : ∀ n ∈ c.wants, 0 ≤ n) (h12 : c.wants.sum ≤ 12) (hs : s < m) (hm : m ≤ 12) :
    Calls Try.prog 87 #[.pointer (some ⟨P, 0, none⟩), .int .i64 s, .int .i64 n] w fun e w' => e = .returned (.int .i64 (wantE c.wants s n)) ∧ CrewIn w' lo P vw vs m gw gt Ac kc rows (wantC c s n) ∧ Below lo w w' := by
  have c4 := h.blk.cell 4
  have H := Lib.hid h
  have hob := fun k hk => oth_bound h0 s k hk
  have HOB := Lib.hid hob
  have HWL := Lib.hid h.wl
  have HW := Lib.hid h.wnt
  clear h h0 hob
  by_cases hn : n < 0
  · have HE : Hid (wantE c.wants s n = 4) := Lib.hid (by unfold wantE; rw [if_pos hn])
    go_enter Try.func87, Try.ntmps87
    go_wp2_with fail
    go_ret
    exact ⟨ret_i64 HE.out.symm, by unfold wantC; rw [HE.out, if_neg (by decide)]; exact H.out, Below.refl _ _⟩
  · go_enter Try.func87, Try.ntmps87
    go_wp2_with fail
    go_loop [18, 7] (fun s18 s7 => ∃ k : Nat, k ≤ m ∧ s18 = .int .i64 k ∧ s7 = .int .i64 (othTo c.wants s k)) (fun s18 _ => m - (intOf s18).toNat)
    case atStart => exact ⟨0, Nat.zero_le _, rfl, rfl⟩
    case round =>
      obtain ⟨k, hk, rfl, rfl⟩ := hrel
      have hsu := othTo_succ c.wants s k
      have hb1 := HOB.out k (by rw [HWL.out]; exact hk)
      by_cases hkm : k < m
      · have hkl : k < c.wants.length := by rw [HWL.out]; exact hkm
        obtain ⟨g', hg', _, _, r0, _⟩ := HW.out.cell1 hkl
        have : gw = g' := by simpa using hg'
        subst this
        rw [← getD_at _ k hkl 0] at r0
        have hb2 := HOB.out (k + 1) (by rw [HWL.out]; exact hkm)
        obtain ⟨y, hy⟩ : ∃ y, y = c.wants.getD k 0 := ⟨_, rfl⟩
        rw [← hy] at r0 hsu
        obtain ⟨z, hz⟩ : ∃ z, z = othTo c.wants s k := ⟨_, rfl⟩
        rw [← hz] at hsu hb1 ⊢
        by_cases hks : k = s
        · rw [if_pos hks] at hsu
          have HSU := Lib.hid hsu
          have hks2 : ((k : Int) != (s : Int)) = false := by simp [hks]
          clear hsu hy hz hks
          go_wp2_with fail
          go_round
          case rel => exact ⟨k + 1, by omega, by go_num, by rw [HSU.out]⟩
          case measure => simp [intOf]; omega
        · rw [if_neg hks] at hsu
          have HSU := Lib.hid hsu
          have hks2 : ((k : Int) != (s : Int)) = true := by simp; omega
          have hw : IntKind.i64.wrap (z + y) = z + y := IntWalk.i64_in _ (by rw [hsu] at hb2; omega)
          clear hsu hy hz
          go_wp2_with fail
          go_round
          case rel => exact ⟨k + 1, by omega, by go_num, by rw [HSU.out]⟩
          case measure => simp [intOf]; omega
      · obtain rfl : k = m := by omega
        obtain ⟨z, hz⟩ : ∃ z, z = othTo c.wants s k := ⟨_, rfl⟩
        rw [← hz] at hb1 ⊢
        have hw : IntKind.i64.wrap (12 - z) = 12 - z := IntWalk.i64_in _ (by omega)
        have he : wantE c.wants s n = if 12 - z < n then 1 else 0 := by
          unfold wantE
          rw [if_neg (by omega), HWL.out, ← hz]
        by_cases hbig : 12 - z < n
        · rw [if_pos hbig] at he
          have HE := Lib.hid he
          clear hz he hsu
          go_wp2_with fail
          go_ret
          exact ⟨ret_i64 HE.out.symm, by unfold wantC; rw [HE.out, if_neg (by decide)]; exact H.out, Below.refl _ _⟩
        · rw [if_neg hbig] at he
          have HE := Lib.hid he
          have hsl : s < c.wants.length := by rw [HWL.out]; exact hs
          obtain ⟨g', hg', hlg, _, r0, f0⟩ := HW.out.cell1 hsl
          have : gw = g' := by simpa using hg'
          subst this
          generalize c.wants[s] = y at r0
          clear hz he hsu
          go_wp2_with fail
          go_ret
          refine ⟨ret_i64 HE.out.symm, ?_, (Below.refl _ _).setCell (p := ⟨gw, s, none⟩) hlg _⟩
          have h := H.out
          unfold wantC
          rw [HE.out, if_pos rfl]
          refine ⟨h.blk.far (p := ⟨gw, s, none⟩) (fun e => own_far_blk h.wnt h.blk (by decide) (by rw [e]; rfl)) _, h.cod.far (p := ⟨gw, s, none⟩) (fun e => ?_) _, h.wnt.put1 hsl, h.tab.far (p := ⟨gw, s, none⟩) (fun e => ?_) _, h.tsk, fun q hq => (h.row q hq).far (p := ⟨gw, s, none⟩) (h.nw q hq) _, h.far, h.nw, h.hlo, h.rl, by rw [List.length_set]; exact h.wl⟩
          · obtain ⟨cur, hcur⟩ := own_cellsAt h.cod e
            exact own_far_blk h.wnt hcur (by decide) rfl
          · obtain ⟨cur, hcur⟩ := own_cellsAt h.tab e
            exact own_far_blk h.wnt hcur (by decide) rfl
end Go.Proofs.Ytdinknpagklkjaa
