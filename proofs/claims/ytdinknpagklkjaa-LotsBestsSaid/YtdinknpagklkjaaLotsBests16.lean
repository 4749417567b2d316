/- The placing of the most: the program. Conditions: the workers and the tasks read as lists. -/
import Derived.Test.YtdinknpagklkjaaLotsBests15
import Derived.Test.YtdinknpagklkjaaLotsBests8
namespace Go.Proofs.Ytdinknpagklkjaa
open Go.RowKit

theorem place_Most_bad (A B : Option Addr) (n c m d : Nat) (ws : List Wk) (w : World) (hl : ws.length = n) (hn : n ≤ maxLen) (hr : Els w w.heap.size 2 wkcell A ws) (hm : m ≤ maxLen) (he : placeCheck ws m ≠ 0) :
    Calls Try.prog 20 #[.slice A n c, .slice B m d] w fun e w' => e = .returned (.tuple #[.slice none 0 0, .int .i64 (placeCheck ws m)]) ∧ Below w.heap.size w w' := by
  have HE := Lib.hid (place_Check A B n c m d ws w hl hn hr hm)
  have h1 : (placeCheck ws m != 0) = true := by simpa using he
  generalize placeCheck ws m = x at HE h1
  clear hl hn hr hm he
  go_enter Try.func20, Try.ntmps20
  go_wp2_with fail
  refine HE.out.mono ?_
  clear HE
  rintro e v1 ⟨rfl, hb1⟩
  go_wp2_with fail
  go_ret2
  exact ⟨rfl, hb1⟩
/-- Between two tasks. -/
def MostI (Y W M : Nat) (ws : List Wk) (ts : List (BitVec 32)) (A7 : Option Addr) (cap7 : Nat) (v1 : World) (s40 s11 s8 : Value) (wr : World) : Prop :=
  ∃ (i : Nat) (left : Int) (room acc : List Int) (A8 : Option Addr) (cap8 : Nat), i ≤ M ∧ s40 = .int .i64 i ∧ s11 = .int .i64 left ∧ s8 = .slice A8 i cap8 ∧ Below Y v1 wr ∧ Own wr Y 3 1 icell A7 cap7 room ∧ Own wr Y 3 1 icell A8 cap8 acc ∧ room.length = W ∧ acc.length = i ∧ (∀ j, 0 ≤ room.getD j 0 ∧ room.getD j 0 ≤ 12) ∧ (∀ g, blkOf A7 = some g → blkOf A8 ≠ some g) ∧ (0 ≤ left ∧ left ≤ 1048576000) ∧ acc ++ mostG ws (ts.drop i) room left = mostF ws ts
/-- While a worker is looked for. -/
def MostJ (Y W i : Nat) (ws : List Wk) (t : BitVec 32) (ts : List (BitVec 32)) (A7 : Option Addr) (cap7 : Nat) (A8 : Option Addr) (cap8 : Nat) (room acc : List Int) (left : Int) (v1 : World) (s50 s11 : Value) (wr : World) : Prop :=
  ∃ (j : Nat), j ≤ W ∧ s50 = .int .i64 j ∧ s11 = .int .i64 left ∧ Below Y v1 wr ∧ Own wr Y 3 1 icell A7 cap7 room ∧ Own wr Y 3 1 icell A8 cap8 (acc ++ [-1]) ∧ ∀ j', j' < j → seatB ws t ts room left j' = false

theorem room_less {room : List Int} (h : ∀ j, 0 ≤ room.getD j 0 ∧ room.getD j 0 ≤ 12) {x : Int} (h0 : 0 ≤ x) (h1 : x ≤ 12) {q : Nat} : ∀ y, 0 ≤ (room.set q x).getD y 0 ∧ (room.set q x).getD y 0 ≤ 12 := fun y => by
  by_cases hy : y < room.length
  · rw [getD_at _ y (by rw [List.length_set]; exact hy), List.getElem_set]
    split
    · exact ⟨h0, h1⟩
    · have := h y
      rwa [getD_at _ y hy] at this
  · rw [List.getD_eq_getElem?_getD, List.getElem?_eq_none (by rw [List.length_set]; omega)]
    exact ⟨Int.le_refl _, by decide⟩
theorem pick_some {ws : List Wk} {t : BitVec 32} {ts : List (BitVec 32)} {room : List Int} {left : Int} {j : Nat} (hj : j < ws.length) (h : seatB ws t ts room left j = true) (hno : ∀ j', j' < j → seatB ws t ts room left j' = false) : pickJ ws t ts room left = some j := by
  unfold pickJ
  rw [List.find?_range_eq_some]
  exact ⟨h, List.mem_range.2 hj, fun j' hj' => by rw [hno j' hj']; rfl⟩
theorem pick_none {ws : List Wk} {t : BitVec 32} {ts : List (BitVec 32)} {room : List Int} {left : Int} (hno : ∀ j', j' < ws.length → seatB ws t ts room left j' = false) : pickJ ws t ts room left = none := by
  unfold pickJ
  rw [List.find?_eq_none]
  intro j hj
  rw [hno j (List.mem_range.1 hj)]
  simp
set_option maxRecDepth 100000 in
set_option maxHeartbeats 400000 in
theorem place_Most (A B : Option Addr) (W cA M cB : Nat) (ws : List Wk) (ts : List (BitVec 32)) (w : World) (hW : ws.length = W) (hM : ts.length = M) (hMc : M ≤ cB) (hws : Els w w.heap.size 2 wkcell A ws) (hts : Els w w.heap.size 1 wcell B ts) (he : placeCheck ws M = 0) :
    Calls Try.prog 20 #[.slice A W cA, .slice B M cB] w fun e w' => ∃ A' cap, e = .returned (.tuple #[.slice A' M cap, .int .i64 0]) ∧ Below w.heap.size w w' ∧ Own w' w.heap.size 3 1 icell A' cap (mostF ws ts) := by
  obtain ⟨hW6, hM12, hbad⟩ : W ≤ 6 ∧ M ≤ 12 ∧ ws.any badRoom = false := by
    unfold placeCheck at he
    split at he
    · omega
    · split at he
      · omega
      · rename_i h1 h2
        refine ⟨by omega, by omega, by simpa using h2⟩
  have hrb0 : ∀ k ∈ ws, 0 ≤ k.1 ∧ k.1 ≤ 12 := fun k hk => by
    have := List.any_eq_false.1 hbad k hk
    unfold badRoom at this
    simp at this
    omega
  obtain ⟨S, hS⟩ : ∃ S, S = w.heap.size := ⟨_, rfl⟩
  have hchk := place_Check A B W cA M cB ws w hW (by unfold maxLen; omega) hws (by unfold maxLen; omega)
  rw [he] at hchk
  have HE := Lib.hid hchk
  rw [← hS] at hws hts
  have HS := Lib.hid hS
  have HWS := Lib.hid hws
  have HTS := Lib.hid hts
  have HW := Lib.hid hW
  have HM := Lib.hid hM
  have HRB0 := Lib.hid hrb0
  clear hS hws hts hW hM hrb0 hbad he hchk
  go_enter Try.func20, Try.ntmps20
  go_wp2_with fail
  refine HE.out.mono ?_
  clear HE
  rintro e v1 ⟨rfl, hb1⟩
  rw [← HS.out] at hb1
  obtain ⟨Y, hY⟩ : ∃ Y, Y = v1.heap.size := ⟨_, rfl⟩
  have hSY : S ≤ Y := by rw [hY, HS.out]; exact hb1.size
  have HB1 := Lib.hid hb1
  have HY := Lib.hid hY
  clear hb1 hY
  go_wp2_with fail
  go_loopw [24, 7] (fun s24 s7 wr => ∃ (j : Nat) (A7 : Option Addr) (cap7 : Nat), j ≤ W ∧ s24 = .int .i64 j ∧ s7 = .slice A7 j cap7 ∧ Below Y v1 wr ∧ Own wr Y 3 1 icell A7 cap7 ((ws.take j).map (·.1))) (fun s24 _ _ => W - (intOf s24).toNat)
  case atStart => exact ⟨0, none, 0, Nat.zero_le _, rfl, rfl, Below.refl _ _, Own.nil _ _ _ (fun _ => rfl)⟩
  case round =>
    rename World => wr
    obtain ⟨j, A7, cap7, hj, rfl, rfl, hb, ho⟩ := hrel
    by_cases hjW : j < W
    · have hjl : j < ws.length := by rw [HW.out]; exact hjW
      have hbS := HB1.out.trans (hb.mono hSY)
      obtain ⟨bw, ow, rfl, hbw, g0, g1⟩ := (HWS.out.below hbS).at2 (k := j) hjl
      obtain ⟨kk, hkk⟩ : ∃ kk, kk = ws[j] := ⟨_, rfl⟩
      rw [← hkk] at g0 g1
      have hsn : (ws.take (j + 1)).map (·.1) = (ws.take j).map (·.1) ++ [kk.1] := by
        rw [List.take_succ_eq_append_getElem hjl, List.map_append, hkk]
        rfl
      have hlr : ((ws.take j).map (·.1)).length = j := by simp; omega
      have hzw := hb.size
      rw [← HY.out] at hzw
      obtain ⟨K, hK⟩ : ∃ K, K = wr.heap.size := ⟨_, rfl⟩
      have hbV := hb.alloc hzw (.cells #[.int .i64 kk.1, .int .u32 (wN kk.2)] 39)
      have hoV := ho.alloc (.cells #[.int .i64 kk.1, .int .u32 (wN kk.2)] 39)
      have kV := (Blk.new wr 39 #[.int .i64 kk.1, .int .u32 (wN kk.2)]).cell 0
      have hzV : Y ≤ (wr.alloc (.cells #[.int .i64 kk.1, .int .u32 (wN kk.2)] 39)).heap.size := by rw [size_alloc']; omega
      have HSN := Lib.hid hsn
      have HBV := Lib.hid hbV
      have HOV := Lib.hid hoV
      clear hb ho hbS hbV hoV hkk hsn hK
      go_wp2_with (at_builtin; go_loud (
        refine wpList_push rfl _ _ _ rfl Y 1 3 (.int .i64 0) 8 Try.underlying27 (by kernel_rfl) rfl (by omega) icell _ #[.int .i64 kk.1] A7 j cap7 ((ws.take j).map (·.1)) hlr rfl HOV.out 1 [kk.1] rfl rfl (wr.heap.size + 1) rfl (size_alloc' _ _) (by simp [Value.oneCell']) (by unfold maxLen; omega) (by omega) (by omega) ?_
        intro A9 cap9 w9 hown9 hgrow9 hloc9
        have HO9 := Lib.hid hown9
        have HG9 := Lib.hid hgrow9
        clear hown9 hgrow9 hloc9))
      have hne : ∀ g, blkOf A7 = some g → Y ≤ g := fun g hg => (HOV.out.lt g hg).1
      have hb9 := (HBV.out.alloc hzV (.cells #[.int .i64 kk.1] 3)).grown HG9.out (by rw [size_alloc']; omega) (fun g e => by have := hne g e; omega)
      have HB9 := Lib.hid hb9
      clear hb9
      go_roundw
      case rel => exact ⟨j + 1, A9, cap9, by omega, by go_num, rfl, HB9.out, by rw [HSN.out]; exact HO9.out⟩
      case measure => simp [intOf]; omega
    · obtain rfl : j = W := by omega
      rw [List.take_of_length_le (by rw [HW.out]; exact Nat.le_refl _)] at ho
      have hbS := HB1.out.trans (hb.mono hSY)
      have hzw := hb.size
      rw [← HY.out] at hzw
      have hrl : (ws.map (·.1)).length = j := by rw [List.length_map, HW.out]
      have hrb : ∀ q, 0 ≤ (ws.map (·.1)).getD q 0 ∧ (ws.map (·.1)).getD q 0 ≤ 12 := fun q => by
        by_cases hq : q < ws.length
        · rw [getD_at _ q (by simpa using hq), List.getElem_map]
          exact HRB0.out _ (List.getElem_mem hq)
        · rw [List.getD_eq_getElem?_getD, List.getElem?_eq_none (by simpa using hq)]
          exact ⟨Int.le_refl _, by decide⟩
      have hMANY := place_many A B A7 j cA M cB cap7 ws ts (ws.map (·.1)) wr HW.out hW6 HM.out hM12 hrl hrb ((HWS.out.below hbS).more (by omega)) ((HTS.out.below hbS).more (by omega)) ho.els
      have HMANY := Lib.hid hMANY
      have HB := Lib.hid hb
      have HO := Lib.hid ho
      have HRL := Lib.hid hrl
      have HRB := Lib.hid hrb
      clear hb ho hbS hMANY hrl hrb
      go_wp2_with fail
      refine HMANY.out.mono ?_
      clear HMANY
      rintro e v2 ⟨rfl, hb2, hm0, hmb⟩
      have hb2' := HB.out.trans (hb2.mono hzw)
      have ho2 := HO.out.below hb2 (Nat.le_refl _)
      obtain ⟨left, hleft⟩ : ∃ left, left = manyV ws ts (ws.map (·.1)) := ⟨_, rfl⟩
      rw [← hleft] at hm0 hmb ⊢
      have hmf : ([] : List Int) ++ mostG ws (ts.drop 0) (ws.map (·.1)) left = mostF ws ts := by
        unfold mostF
        rw [← hleft]
        rfl
      have HB2 := Lib.hid hb2'
      have HO2 := Lib.hid ho2
      have HMF := Lib.hid hmf
      clear hb2 hb2' ho2 hmf hleft HB HO
      go_wp2_with fail
      go_loopw [40, 11, 8] (fun s40 s11 s8 wr => MostI Y j M ws ts A7 cap7 v1 s40 s11 s8 wr) (fun s40 _ _ _ => M - (intOf s40).toNat)
      case atStart => exact ⟨0, left, _, [], none, 0, Nat.zero_le _, rfl, rfl, rfl, HB2.out, HO2.out, Own.nil _ _ _ (fun _ => rfl), HRL.out, rfl, HRB.out, (by intro g _ h; cases h), ⟨hm0, hmb⟩, HMF.out⟩
      case round =>
        clear HB2 HO2 HMF HRL HRB hm0 hmb
        rename World => wq
        obtain ⟨i, left, room, acc, A8, cap8, hi, rfl, rfl, rfl, hb, ho7, ho8, hrl, hal, hrb, hap, ⟨hl0, hl1⟩, hmf⟩ := hrel
        have hbS := HB1.out.trans (hb.mono hSY)
        have hzw := hb.size
        rw [← HY.out] at hzw
        by_cases hiM : i < M
        · have hil : i < ts.length := by rw [HM.out]; exact hiM
          obtain ⟨bt, ot, rfl, hbt, t0⟩ := (HTS.out.below hbS).at1 (f := fun x => .int .u32 (wN x)) (k := i) hil
          obtain ⟨tk, htk⟩ : ∃ tk, tk = ts[i] := ⟨_, rfl⟩
          rw [← htk] at t0
          have hdr : ts.drop i = tk :: ts.drop (i + 1) := by rw [List.drop_eq_getElem_cons hil, ← htk]
          rw [hdr] at hmf
          obtain ⟨rs, hrs⟩ : ∃ rs, rs = ts.drop (i + 1) := ⟨_, rfl⟩
          rw [← hrs] at hmf
          have hrsl : rs.length = M - (i + 1) := by rw [hrs, List.length_drop, HM.out]
          have hcut := HTS.out.cut (k := i + 1) HM.out hMc
          rw [← hrs] at hcut
          have hct : ∀ W0 : World, (Instr.slice 23 (.slice (some ⟨bt, ot, none⟩) M cB) (some (.int .i64 ((i : Int) + 1))) none none).run Try.prog W0 = .ok (.slice (if cB = i + 1 then (some ⟨bt, ot, none⟩) else (some (⟨bt, ot, none⟩ : Addr)).map (·.add ((i + 1) * 1))) (M - (i + 1)) (cB - (i + 1))) W0 := fun W0 =>
            run_tail Try.underlying23 (fun w => by kernel_rfl) _ M cB (i + 1) (by omega) hMc (by omega) W0
          obtain ⟨AX, hAX⟩ : ∃ AX, AX = (if cB = i + 1 then (some ⟨bt, ot, none⟩) else (some (⟨bt, ot, none⟩ : Addr)).map (·.add ((i + 1) * 1))) := ⟨_, rfl⟩
          rw [← hAX] at hcut
          simp only [← hAX] at hct
          have HCUT := Lib.hid hcut
          have HRS := Lib.hid hrs
          have HTK := Lib.hid htk
          have HRSL := Lib.hid hrsl
          have HB := Lib.hid hb
          have HO7 := Lib.hid ho7
          have HO8 := Lib.hid ho8
          have HRL := Lib.hid hrl
          have HAL := Lib.hid hal
          have HRB := Lib.hid hrb
          have HAP := Lib.hid hap
          have HMF := Lib.hid hmf
          clear hb ho7 ho8 hrl hal hrb hap hmf hdr hrs hrsl hcut hAX htk hbS
          go_wp2_with (at_builtin; go_loud (
            refine wpList_push rfl _ _ _ rfl Y 1 3 (.int .i64 0) 8 Try.underlying27 (by kernel_rfl) rfl (by omega) icell wq #[.int .i64 (-1)] A8 i cap8 acc HAL.out rfl HO8.out 1 [(-1 : Int)] rfl rfl _ rfl rfl (by simp [Value.oneCell']) (by unfold maxLen; omega) (by omega) (by omega) ?_
            intro A9 cap9 w9 hown9 hgrow9 hloc9
            have HO9 := Lib.hid hown9
            have HG9 := Lib.hid hgrow9
            have HL9 := Lib.hid hloc9
            clear hown9 hgrow9 hloc9))
          have hne : ∀ g, blkOf A8 = some g → Y ≤ g := fun g hg => (HO8.out.lt g hg).1
          have hb9 := (HB.out.alloc (by omega) (.cells #[.int .i64 (-1)] 3)).grown HG9.out (by rw [size_alloc']; omega) (fun g e => by have := hne g e; omega)
          have ho79 : Own w9 Y 3 1 icell A7 cap7 room := (HO7.out.alloc (.cells #[.int .i64 (-1)] 3)).kept HG9.out (by
            cases h7 : blkOf A7 with
            | none => exact .inl rfl
            | some g => exact .inr fun e => HAP.out g h7 e.symm)
          have hap9 : ∀ g, blkOf A7 = some g → blkOf A9 ≠ some g := fun g hg e => by
            rcases HL9.out with h | h
            · exact HAP.out g hg (h ▸ e)
            · rw [h] at e
              have h1 : wq.heap.size + 1 = g := by simpa using e
              have h2 := (HO7.out.lt g hg).2
              omega
          have HB9 := Lib.hid hb9
          have HO79 := Lib.hid ho79
          have HAP9 := Lib.hid hap9
          clear hb9 ho79 hap9 hne
          go_loopw [50, 11] (fun s50 s11 wr => MostJ Y j i ws tk rs A7 cap7 A9 cap9 room acc left v1 s50 s11 wr) (fun s50 _ _ => j - (intOf s50).toNat)
          case atStart => exact ⟨0, Nat.zero_le _, rfl, rfl, HB9.out, HO79.out, HO9.out, fun j' h => by omega⟩
          case round =>
            clear HB9 HO79 HB HO7 HO8 HG9 HL9 HO9 HAP
            rename World => wx
            obtain ⟨q, hq, rfl, rfl, hb, ho7, ho9, hno⟩ := hrel
            have hbS := HB1.out.trans (hb.mono hSY)
            have hzx := hb.size
            rw [← HY.out] at hzx
            by_cases hqW : q < j
            · have hql : q < ws.length := by rw [HW.out]; exact hqW
              have hqr : q < room.length := by rw [HRL.out]; exact hqW
              obtain ⟨bw, ow, rfl, hbw, g0, g1⟩ := (HWS.out.below hbS).at2 (k := q) hql
              obtain ⟨kk, hkk⟩ : ∃ kk, kk = ws[q] := ⟨_, rfl⟩
              have hwk : wk ws q = kk := by rw [hkk]; exact getD_at ws q hql (0, w0)
              rw [← hkk] at g0 g1
              obtain ⟨g7, rfl, h7Y, h7z, r0, rf⟩ := ho7.cell1 hqr
              rw [← getD_at room q hqr 0] at r0
              obtain ⟨K, hK⟩ : ∃ K, K = wx.heap.size := ⟨_, rfl⟩
              have hYK : Y ≤ K := by omega
              have hMAY := plc_may kk tk (wx.alloc (.cells #[.int .i64 kk.1, .int .u32 (wN kk.2)] 39))
              obtain ⟨V, hV⟩ : ∃ V, V = (wx.alloc (.cells #[.int .i64 kk.1, .int .u32 (wN kk.2)] 39)).alloc (.cells #[.int .i64 kk.1, .int .u32 (wN kk.2)] 39) := ⟨_, rfl⟩
              have hzV : V.heap.size = K + 2 := by rw [hV, size_alloc', size_alloc', hK]
              have hbV : Below Y v1 V := by rw [hV]; exact (hb.alloc hzx _).alloc (by rw [size_alloc']; omega) _
              have ho7V : Own V Y 3 1 icell (some ⟨g7, 0, none⟩) cap7 room := by rw [hV]; exact (ho7.alloc _).alloc _
              have ho9V : Own V Y 3 1 icell A9 cap9 (acc ++ [-1]) := by rw [hV]; exact (ho9.alloc _).alloc _
              have hsb : seatB ws tk rs room left q = (mayW tk kk && (room.getD q 0 != 0) && (1 + manyV ws rs (room.set q (room.getD q 0 - 1)) == left)) := by
                unfold seatB
                rw [hwk]
              have hnx : seatB ws tk rs room left q = false → ∀ j', j' < q + 1 → seatB ws tk rs room left j' = false := fun h j' hj' => by
                by_cases hjq : j' = q
                · rw [hjq]; exact h
                · exact hno j' (by omega)
              obtain ⟨rq, hrq⟩ : ∃ rq, rq = room.getD q 0 := ⟨_, rfl⟩
              have hrq0 := HRB.out q
              rw [← hrq] at r0 hsb hrq0
              have d0 := (Blk.new wx 39 #[.int .i64 kk.1, .int .u32 (wN kk.2)]).cell 0
              have d1 := (Blk.new wx 39 #[.int .i64 kk.1, .int .u32 (wN kk.2)]).cell 1
              rw [← hV] at hMAY
              have HMAY := Lib.hid hMAY
              have HBV := Lib.hid hbV
              have HO7V := Lib.hid ho7V
              have HO9V := Lib.hid ho9V
              have HSB := Lib.hid hsb
              have HNO := Lib.hid hno
              have HNX := Lib.hid hnx
              have HRQ := Lib.hid hrq
              have rV : V.cell? ⟨g7, q, none⟩ = some (.int .i64 rq) := by
                rw [hV]
                exact (((Below.refl wx.heap.size wx).alloc (Nat.le_refl _) _).alloc (by rw [size_alloc']; omega) _ |>.cell (by show g7 < _; omega)).trans r0
              have fV := (ho7V.cell1 hqr).choose_spec.2.2.2.2
              have hg7 : (ho7V.cell1 hqr).choose = g7 := by
                have := (ho7V.cell1 hqr).choose_spec.1
                simpa using this.symm
              rw [hg7] at fV
              have hap7 := HAP9.out g7 rfl
              clear hb ho7 ho9 hno hbS hMAY hV hbV ho7V ho9V hsb hnx hrq hkk hwk hg7 r0 rf hK
              rcases Bool.eq_false_or_eq_true (mayW tk kk) with hmy | hmy
              · rw [hmy] at HMAY HSB
                clear hmy
                by_cases hz : rq = 0
                · have HF := Lib.hid (HNX.out (by rw [HSB.out, hz]; rfl))
                  have hzb : (rq == 0) = true := by simp [hz]
                  clear HNX HSB
                  go_wp2_with fail
                  refine HMAY.out.mono ?_
                  rintro e w3 ⟨rfl, rfl⟩
                  go_wp2_with fail
                  go_roundw
                  case rel => exact ⟨q + 1, by omega, by go_num, rfl, HBV.out, HO7V.out, HO9V.out, HF.out⟩
                  case measure => simp [intOf]; omega
                · have hzb : (rq == 0) = false := by simp [hz]
                  have hz1 : (rq != 0) = true := by simp [hz]
                  rw [hz1, Bool.true_and, Bool.true_and] at HSB
                  clear hz1
                  have e1 : IntKind.i64.wrap (rq - 1) = rq - 1 := IntWalk.i64_in _ (by omega)
                  have e2 : IntKind.i64.wrap (rq - 1 + 1) = rq := by rw [IntWalk.i64_in _ (by omega)]; omega
                  have hput := HO7V.out.put1 (x := rq - 1) hqr
                  have hb3 := HBV.out.setCell (p := ⟨g7, q, none⟩) h7Y (.int .i64 (rq - 1))
                  have ho93 := HO9V.out.far (p := ⟨g7, q, none⟩) hap7 (.int .i64 (rq - 1))
                  obtain ⟨V3, hV3⟩ : ∃ V3, V3 = V.setCell ⟨g7, q, none⟩ (.int .i64 (rq - 1)) := ⟨_, rfl⟩
                  rw [← hV3] at hput hb3 ho93
                  have hz3 : V3.heap.size = K + 2 := by rw [hV3]; simpa using hzV
                  have hbS3 := HB1.out.trans (hb3.mono hSY)
                  have hMANY := place_many (some ⟨bw, ow, none⟩) AX (some ⟨g7, 0, none⟩) j cA (M - (i + 1)) (cB - (i + 1)) cap7 ws rs (room.set q (rq - 1)) V3 HW.out hW6 HRSL.out (by omega) (by rw [List.length_set]; exact HRL.out) (room_less HRB.out (by omega) (by omega)) ((HWS.out.below hbS3).more (by omega)) ((HCUT.out.below hbS3).more (by omega)) hput.els
                  have HMANY := Lib.hid hMANY
                  have HPUT := Lib.hid hput
                  have HB3 := Lib.hid hb3
                  have HO93 := Lib.hid ho93
                  have HV3 := Lib.hid hV3
                  clear hMANY hput hb3 ho93 hV3 hbS3
                  go_wp2_with fail
                  refine HMAY.out.mono ?_
                  rintro e w3 ⟨rfl, rfl⟩
                  go_wp2_with fail
                  rw [← HV3.out]
                  refine HMANY.out.mono ?_
                  clear HMANY
                  rintro e v4 ⟨rfl, hb4, hm0, hmb⟩
                  obtain ⟨mv, hmv⟩ : ∃ mv, mv = manyV ws rs (room.set q (rq - 1)) := ⟨_, rfl⟩
                  rw [← hmv] at hm0 hmb HSB ⊢
                  have HMV := Lib.hid hmv
                  clear hmv
                  have e3 : IntKind.i64.wrap (1 + mv) = 1 + mv := IntWalk.i64_in _ (by omega)
                  have hb4' := HB3.out.trans (hb4.mono (by omega))
                  have ho74 := HPUT.out.below hb4 (Nat.le_refl _)
                  have ho94 := HO93.out.below hb4 (Nat.le_refl _)
                  have hz4 := hb4.size
                  have HB4 := Lib.hid hb4'
                  have HO74 := Lib.hid ho74
                  have HO94 := Lib.hid ho94
                  clear hb4 hb4' ho74 ho94 HB3 HO93 HPUT HV3 rV fV
                  by_cases heq : 1 + mv = left
                  · have heb : (1 + mv == left) = true := by simpa using heq
                    have hpk := pick_some hql (by rw [HSB.out, heb]) HNO.out
                    have hmf2 : (acc ++ [(q : Int)]) ++ mostG ws rs (room.set q (rq - 1)) (left - 1) = mostF ws ts := by
                      rw [← HMF.out, List.append_assoc]
                      conv => rhs; rw [mostG, hpk]
                      rw [HRQ.out]
                      rfl
                    have hal9 : (acc ++ [(-1 : Int)]).length = i + 1 := by rw [List.length_append, HAL.out]; rfl
                    have hset : (acc ++ [(-1 : Int)]).set i q = acc ++ [(q : Int)] := by rw [← HAL.out]; simp
                    obtain ⟨g9, rfl, h9Y, h9z, r9, f9⟩ := HO94.out.cell1 (k := i) (by rw [hal9]; omega)
                    have hput9 := HO94.out.put1 (k := i) (x := (q : Int)) (by rw [hal9]; omega)
                    rw [hset] at hput9
                    have hb5 := HB4.out.setCell (p := ⟨g9, i, none⟩) h9Y (.int .i64 (q : Int))
                    have ho75 := HO74.out.far (p := ⟨g9, i, none⟩) (fun e => HAP9.out g9 e rfl) (.int .i64 (q : Int))
                    have e4 : IntKind.i64.wrap (left - 1) = left - 1 := IntWalk.i64_in _ (by omega)
                    have hl2 : 0 ≤ left - 1 ∧ left - 1 ≤ 1048576000 := by omega
                    have hrl2 : (room.set q (rq - 1)).length = j := by rw [List.length_set]; exact HRL.out
                    have hal2 : (acc ++ [(q : Int)]).length = i + 1 := by rw [List.length_append, HAL.out]; rfl
                    have HQ9 := Lib.hid hput9
                    have HB5 := Lib.hid hb5
                    have HO75 := Lib.hid ho75
                    have HMF2 := Lib.hid hmf2
                    have HRL2 := Lib.hid hrl2
                    have HAL2 := Lib.hid hal2
                    have HRB2 := Lib.hid (room_less (q := q) HRB.out (x := rq - 1) (by omega) (by omega))
                    clear hpk hmf2 hset hput9 hb5 ho75 hrl2 hal2 heq HNX
                    go_wp2_with fail
                    go_roundw
                    case rel => exact ⟨i + 1, left - 1, _, _, some ⟨g9, 0, none⟩, cap9, by omega, by go_num, rfl, rfl, HB5.out, HO75.out, HQ9.out, HRL2.out, HAL2.out, HRB2.out, HAP9.out, hl2, by rw [← HRS.out]; exact HMF2.out⟩
                    case measure => simp [intOf]; omega
                  · have heb : (1 + mv == left) = false := by simpa using heq
                    have HF := Lib.hid (HNX.out (by rw [HSB.out, heb]))
                    have hqs : q < (room.set q (rq - 1)).length := by rw [List.length_set]; exact hqr
                    obtain ⟨g7', hg7', _, _, r4, f4⟩ := HO74.out.cell1 hqs
                    have : g7' = g7 := by simpa using hg7'.symm
                    subst this
                    rw [List.getElem_set_self] at r4
                    have hput2 := HO74.out.put1 (x := rq) hqs
                    have hsx : (room.set q (rq - 1)).set q rq = room := by
                      rw [List.set_set, HRQ.out, List.getD_eq_getElem?_getD, List.getElem?_eq_getElem hqr]
                      simp
                    rw [hsx] at hput2
                    clear hsx
                    have hb5 := HB4.out.setCell (p := ⟨g7', q, none⟩) h7Y (.int .i64 rq)
                    have ho95 := HO94.out.far (p := ⟨g7', q, none⟩) hap7 (.int .i64 rq)
                    have HPUT2 := Lib.hid hput2
                    have HB5 := Lib.hid hb5
                    have HO95 := Lib.hid ho95
                    clear hput2 hb5 ho95 heq
                    go_wp2_with fail
                    go_roundw
                    case rel => exact ⟨q + 1, by omega, by go_num, rfl, HB5.out, HPUT2.out, HO95.out, HF.out⟩
                    case measure => simp [intOf]; omega
              · have HF := Lib.hid (HNX.out (by rw [HSB.out, hmy]; rfl))
                rw [hmy] at HMAY
                clear hmy HSB HNX
                go_wp2_with fail
                refine HMAY.out.mono ?_
                rintro e w3 ⟨rfl, rfl⟩
                go_wp2_with fail
                go_roundw
                case rel => exact ⟨q + 1, by omega, by go_num, rfl, HBV.out, HO7V.out, HO9V.out, HF.out⟩
                case measure => simp [intOf]; omega
            · obtain rfl : q = j := by omega
              have hpk := pick_none (fun j' h => hno j' (by rw [← HW.out]; exact h))
              have hmf2 : (acc ++ [(-1 : Int)]) ++ mostG ws rs room left = mostF ws ts := by
                rw [← HMF.out, List.append_assoc]
                conv => rhs; rw [mostG, hpk]
                rfl
              have hal9 : (acc ++ [(-1 : Int)]).length = i + 1 := by rw [List.length_append, HAL.out]; rfl
              have HMF2 := Lib.hid hmf2
              have HAL2 := Lib.hid hal9
              have HBX := Lib.hid hb
              have HO7X := Lib.hid ho7
              have HO9X := Lib.hid ho9
              clear hpk hmf2 hal9 hb ho7 ho9 hno hbS
              go_wp2_with fail
              go_roundw
              case rel => exact ⟨i + 1, left, _, _, A9, cap9, by omega, by go_num, rfl, rfl, HBX.out, HO7X.out, HO9X.out, HRL.out, HAL2.out, HRB.out, HAP9.out, ⟨hl0, hl1⟩, by rw [← HRS.out]; exact HMF2.out⟩
              case measure => simp [intOf]; omega
        · obtain rfl : i = M := by omega
          have hnil : mostG ws (ts.drop i) room left = [] := by rw [List.drop_of_length_le (by rw [HM.out]; exact Nat.le_refl _)]; rfl
          rw [hnil, List.append_nil] at hmf
          subst hmf
          have HB := Lib.hid hbS
          have HO8 := Lib.hid ho8
          clear hb ho7 ho8 hrl hal hrb hap hnil hbS
          go_wp2_with fail
          go_ret2
          exact ⟨_, _, rfl, by rw [← HS.out]; exact HB.out, by rw [← HS.out]; exact HO8.out.weaken hSY⟩
end Go.Proofs.Ytdinknpagklkjaa

/- The free set that is worth the most: the program's walk. Conditions: the words and the worths read as lists. -/
namespace Go.Proofs.Ytdinknpagklkjaa
open Go.RowKit
attribute [local go_sem ↓] w_and w_or w_xor w_andNot w_and1 w_and255 w_xor1 w_or0 w_shl w_shl1 w_shr w_sub w_add w_sub1 w_add1
attribute [local go_sem] w_eq0 w_ne0 w_eq1 w_eq w_ne
attribute [local go_sem] Oper.semAt_some

theorem lots_cmp (sz : List Int) (a b : Int) (A : Option Addr) (n c S B : Nat) (w : World) (hn : sz.length = n) (ha0 : 0 ≤ a) (ha : a < n) (hb0 : 0 ≤ b) (hb : b < n) (hS : Blk w S 65 #[.slice A n c]) (hr : Els w B 1 icell A sz) :
    Calls Try.prog 76 #[.int .i64 a, .int .i64 b, .pointer (some ⟨S, 0, none⟩)] w fun e w' => e = .returned (.int .i64 (cmpI (valZ sz b) (valZ sz a))) ∧ ∃ m, w' = w.drewN m := by
  obtain ⟨i, rfl⟩ := Int.eq_ofNat_of_zero_le ha0
  obtain ⟨j, rfl⟩ := Int.eq_ofNat_of_zero_le hb0
  have hi : i < sz.length := by omega
  have hj : j < sz.length := by omega
  obtain ⟨g, off, rfl, _, g0⟩ := hr.at1 (f := fun x => .int .i64 x) hi
  obtain ⟨g', off', he, _, g1⟩ := hr.at1 (f := fun x => .int .i64 x) hj
  obtain ⟨rfl, rfl⟩ : g = g' ∧ off = off' := by simpa using he
  rw [← getD_at sz i hi 0] at g0
  rw [← getD_at sz j hj 0] at g1
  have c0 := hS.cell 0
  have HV : Hid (cmpI (valZ sz j) (valZ sz i) = cmpI (sz.getD j 0) (sz.getD i 0)) := Lib.hid (by unfold valZ; rw [Int.toNat_natCast, Int.toNat_natCast])
  rw [HV.out]
  generalize sz.getD i 0 = x at g0 ⊢
  generalize sz.getD j 0 = y at g1 ⊢
  clear he hr hS hn HV
  go_enter Try.func76, Try.ntmps76
  go_wp2_with fail
  go_quiet ((go_at_call 77; exact quietL (cmp_Compare _ _ _)))
  go_wp2_with fail
  go_ret
  exact ⟨rfl, _, rfl⟩
def worthBad (y : Int) : Bool := decide (y < -1048576) || decide (1048576 < y)
def bestE (l : List (BitVec 32)) (z : List Int) : Int := if lotsCheck l ≠ 0 then lotsCheck l else if z.length ≠ l.length then 3 else if z.any worthBad then 4 else 0
theorem ent_best1 : Ent Try.prog 74 := ent_of Try.func74 (by kernel_rfl) rfl
theorem ent_best2 : Ent Try.prog 76 := ent_of Try.func76 (by kernel_rfl) rfl
theorem best1_calls (x : Int) (w : World) : Calls Try.prog 74 #[.int .i64 x] w fun e w' => e = .returned (.bool (worthBad x)) ∧ Below w.heap.size w w' := by
  have HB : Hid (worthBad x = (decide (x < -1048576) || decide (1048576 < x))) := Lib.hid rfl
  by_cases h : x < -1048576
  · have h1 : worthBad x = true := by rw [HB.out, decide_eq_true h]; rfl
    rw [h1]
    clear h1 HB
    go_enter Try.func74, Try.ntmps74
    go_wp2_with fail
    go_ret
    exact ⟨ret_bool rfl, Below.refl _ _⟩
  · have h1 : worthBad x = decide (1048576 < x) := by rw [HB.out, decide_eq_false h]; rfl
    rw [h1]
    clear h1 HB
    go_enter Try.func74, Try.ntmps74
    go_wp2_with fail
    go_ret
    exact ⟨ret_bool rfl, Below.refl _ _⟩
noncomputable def ordN (z : List Int) (n : Nat) : List Nat := (fallsTo z n).map Int.toNat
theorem ordN_len (z : List Int) (n : Nat) : (ordN z n).length = n := by unfold ordN; rw [List.length_map, fallsTo_length]
theorem ordN_mem {z : List Int} {n : Nat} (h : ∀ x, x ∈ fallsTo z n ↔ 0 ≤ x ∧ x < n) (x : Nat) : x ∈ ordN z n ↔ x < n := by
  unfold ordN
  rw [List.mem_map]
  constructor
  · rintro ⟨y, hy, rfl⟩
    have := (h y).1 hy
    omega
  · intro hx
    exact ⟨(x : Int), (h _).2 ⟨by omega, by omega⟩, Int.toNat_natCast x⟩
theorem rest_range (n : Nat) : restL n 0 = (List.range n).map fun q : Nat => (q : Int) := by
  unfold restL
  rw [Nat.sub_zero]
  refine List.map_congr_left fun q _ => ?_
  rw [Nat.zero_add]
/-- While it is taken: k looked at. -/
def TakeI (S r : Nat) (l : List (BitVec 32)) (L : List Nat) (n : Nat) (A1 : Option Addr) (cap : Nat) (u : List Int) (w : World) (s41 s10 : Value) (wr : World) : Prop :=
  ∃ (k : Nat) (bs : List (BitVec 32)), k ≤ n ∧ s41 = .int .i64 k ∧ s10 = .int .u32 (wN (gdR (lw l) (L.take k).reverse)) ∧ Below S w wr ∧ Own wr S 3 1 icell A1 cap u ∧ MapB wr r lotK (baseL bs) ∧ Spans bs ((L.take k).reverse.map (lw l))
set_option maxRecDepth 100000 in
set_option maxHeartbeats 2000000 in
theorem lots_Best (A B : Option Addr) (n c m d : Nat) (l : List (BitVec 32)) (z : List Int) (w : World) (hl : l.length = n) (hz : z.length = m) (hn : n ≤ maxLen) (hm : m ≤ maxLen) (hr : Els w w.heap.size 1 wcell A l) (hq : Els w w.heap.size 1 icell B z) :
    Calls Try.prog 38 #[.slice A n c, .slice B m d] w fun e w' => ∃ x : BitVec 32, e = .returned (.tuple #[.int .u32 (wN x), .int .i64 (bestE l z)]) ∧ Below w.heap.size w w' ∧ (bestE l z ≠ 0 → x = w0) ∧ (bestE l z = 0 → x = gdR (lw l) (ordN z n).reverse) := by
  obtain ⟨S, hS⟩ : ∃ S, S = w.heap.size := ⟨_, rfl⟩
  have hk := Blk.new w 65 #[.slice B m d]
  have hb := (Below.refl w.heap.size w).alloc (Nat.le_refl _) (.cells #[.slice B m d] 65)
  have hz1 : (w.alloc (.cells #[.slice B m d] 65)).heap.size = S + 1 := by rw [size_alloc', hS]
  obtain ⟨V, hV⟩ : ∃ V, V = w.alloc (.cells #[.slice B m d] 65) := ⟨_, rfl⟩
  rw [← hV] at hk hb hz1
  rw [← hS] at hk hb hr hq ⊢
  have HCK := Lib.hid (lots_check A n c l V hl hn ((hr.below hb).more (by omega)))
  have hbe : bestE l z = if lotsCheck l ≠ 0 then lotsCheck l else if m ≠ n then 3 else if z.any worthBad then 4 else 0 := by
    unfold bestE
    rw [hl, hz]
  obtain ⟨er, her⟩ : ∃ er, er = bestE l z := ⟨_, rfl⟩
  rw [← her] at hbe ⊢
  have HK := Lib.hid hk
  have HB := Lib.hid hb
  have HS := Lib.hid hS
  have HV := Lib.hid hV
  have HL := Lib.hid hl
  have HZ := Lib.hid hz
  have HR := Lib.hid hr
  have HQ := Lib.hid hq
  have hnn := hn
  have hmm := hm
  have HNM := Lib.hid hn
  have HMM := Lib.hid hm
  unfold maxLen at hnn hmm
  have HBE := Lib.hid hbe
  have c0 := hk.cell 0
  have hzS : S + 1 ≤ V.heap.size := by omega
  clear hk hb hS hV hl hz hr hq hbe her hn hm
  go_enter Try.func38, Try.ntmps38
  go_wp2_with fail
  rw [← HV.out, ← HS.out]
  refine HCK.out.mono ?_
  clear HCK
  rintro e v1 ⟨rfl, hb1⟩
  have hk1 := HK.out.below hb1 (by omega)
  have hB1 := HB.out.trans (hb1.mono (by omega))
  have hz2 : S + 1 ≤ v1.heap.size := by have := hb1.size; omega
  have HK1 := Lib.hid hk1
  have HB1 := Lib.hid hB1
  clear c0
  have c0 := hk1.cell 0
  clear hk1 hB1 hb1
  by_cases h0 : lotsCheck l = 0
  · rw [h0]
    by_cases hmn : m = n
    · subst hmn
      have HC := Lib.hid (ContainsFunc_longs 74 ent_best1 #[] worthBad B m d z v1 HZ.out HMM.out ((HQ.out.below HB1.out).more (by omega)) (fun a wx _ hb => (best1_calls a wx).mono fun e w' h => ⟨h.1, h.2.mono hb.size⟩))
      have he : er = if z.any worthBad then 4 else 0 := by rw [HBE.out, if_neg (by rw [h0]; simp), if_neg (by simp)]
      have h10 := lotsCheck_n h0
      rw [HL.out] at h10
      have hx : ((m : Int) != (m : Int)) = false := by simp
      clear h0 HBE
      cases hany : z.any worthBad with
      | true =>
        rw [hany] at he HC
        rw [if_pos rfl] at he
        subst he
        clear hany
        go_wp2_with fail
        refine HC.out.mono ?_
        clear HC
        rintro e v2 ⟨rfl, hb2⟩
        have HB2 := Lib.hid (HB1.out.trans (hb2.mono (by omega)))
        clear hb2
        go_wp2_with fail
        refine bodyPost_ret (v := .tuple #[.int .u32 0, .int .i64 4]) (by simp [results, Try.results38, go_sem]) rfl ?_
        exact ⟨w0, rfl, HB2.out, fun _ => rfl, fun h => by cases h⟩
      | false =>
        rw [hany] at he HC
        rw [if_neg (by simp)] at he
        have HER := Lib.hid he
        clear hany he
        go_wp2_with fail
        refine HC.out.mono ?_
        clear HC
        rintro e v2 ⟨rfl, hb2⟩
        have hk2 := HK1.out.below hb2 (by omega)
        have HK2 := Lib.hid hk2
        have HB2 := Lib.hid (HB1.out.trans (hb2.mono (by omega)))
        have hz3 : S + 1 ≤ v2.heap.size := by have := hb2.size; omega
        clear hb2 c0 hk2
        obtain ⟨Y, hY⟩ : ∃ Y, Y = v2.heap.size := ⟨_, rfl⟩
        have HY := Lib.hid hY
        have hSY : S + 1 ≤ Y := by omega
        have HBY : Hid (Below Y v2 v2) := Lib.hid (Below.refl _ _)
        clear hY hz3
        go_wp2_with fail
        go_loopw [27, 7] (fun s27 s7 wr => ∃ (k : Nat) (A1 : Option Addr) (cap : Nat), k ≤ m ∧ s27 = .int .i64 k ∧ s7 = .slice A1 k cap ∧ Below Y v2 wr ∧ Own wr Y 3 1 icell A1 cap ((List.range k).map fun q : Nat => (q : Int))) (fun s27 _ _ => m - (intOf s27).toNat)
        case atStart => exact ⟨0, none, 0, Nat.zero_le _, rfl, rfl, HBY.out, Own.nil _ _ _ (fun _ => rfl)⟩
        case round =>
          clear HBY
          rename World => wr
          obtain ⟨k, A1, cap, hk, rfl, rfl, hb, ho⟩ := hrel
          have hYr : Y ≤ wr.heap.size := by have := hb.size; rw [← HY.out] at this; exact this
          by_cases hkm : k < m
          · have hsn : ((List.range k).map fun q : Nat => (q : Int)) ++ [(k : Int)] = (List.range (k + 1)).map fun q : Nat => (q : Int) := by rw [List.range_succ, List.map_append]; rfl
            have hll : ((List.range k).map fun q : Nat => (q : Int)).length = k := by simp
            have HO := Lib.hid ho
            have HBR := Lib.hid hb
            have HSN := Lib.hid hsn
            have HLL := Lib.hid hll
            clear ho hb hsn hll
            go_wp2_with (at_builtin; (
              refine wpList_push rfl _ _ _ rfl Y 1 3 (.int .i64 0) 8 Try.underlying27 (by kernel_rfl) rfl (by omega) icell wr #[.int .i64 k] A1 k cap _ HLL.out rfl HO.out 1 [(k : Int)] rfl rfl _ rfl rfl (by simp [Value.oneCell']) (by unfold maxLen; omega) (by omega) hYr ?_
              intro A9 cap9 w9 hown9 hgrow9 hloc9))
            have hb9 := (HBR.out.alloc hYr _).grown hgrow9 (by rw [size_alloc']; omega) (fun g hg => (HO.out.lt g hg).1)
            rw [HSN.out] at hown9
            have HB9 := Lib.hid hb9
            have HO9 := Lib.hid hown9
            clear hb9 hown9 hgrow9 hloc9
            go_roundw
            case rel => exact ⟨k + 1, A9, cap9, by omega, by go_num, rfl, HB9.out, HO9.out⟩
            case measure => simp [intOf]; omega
          · obtain rfl : k = m := by omega
            have hk3 := HK2.out.below hb (by omega)
            have hB3 := HB2.out.trans (hb.mono (by omega))
            have hcm : Cmps 76 #[.pointer (some ⟨S, 0, none⟩)] z k Y wr := fun a b wx ha0 ha hb0 hb hbw => by
              refine lots_cmp z a b B k d S S wx HZ.out ha0 ha hb0 hb (hk3.below hbw (by omega)) (HQ.out.below (hB3.trans (hbw.mono (by omega))))
            have HSO := Lib.hid (sort_stable 76 ent_best2 #[.pointer (some ⟨S, 0, none⟩)] z A1 k cap Y wr HZ.out (by omega) hYr hcm (by rw [rest_range]; exact ho))
            have HB3 := Lib.hid hB3
            have hmk : ∀ W : World, (Instr.makeMap 140 none).run Try.prog W = .ok (.map (some W.heap.size)) (W.alloc (.map #[] 0)) := fun W => by rw [run_makeMap]
            clear ho hb hk3 hB3 hcm
            go_wp2_with fail
            refine HSO.out.mono ?_
            clear HSO
            rintro e v3 ⟨⟨v, rfl⟩, hb3, u, hst, hown3⟩
            obtain ⟨rfl, hnd, hmem⟩ := sort_end HZ.out hst
            have hul := fallsTo_length z k
            have hB4 := HB3.out.trans (hb3.mono (by omega))
            have hY3 : Y ≤ v3.heap.size := by have := hb3.size; omega
            have hM0 := MapB.made (kv := lotK) v3
            have hB5 := hB4.alloc (by omega) (.map #[] 0)
            have ho5 := (hown3.weaken (show S ≤ Y by omega)).alloc (.map #[] 0)
            have hlt5 : ∀ g, blkOf A1 = some g → g ≠ v3.heap.size := fun g hg => by have := (hown3.lt g hg).2; omega
            obtain ⟨r, hr⟩ : ∃ r, r = v3.heap.size := ⟨_, rfl⟩
            obtain ⟨X, hX⟩ : ∃ X, X = v3.alloc (.map #[] 0) := ⟨_, rfl⟩
            rw [← hX] at hM0 hB5 ho5
            rw [← hr] at hM0 hlt5
            have hrS : S ≤ r := by omega
            obtain ⟨L, hLe⟩ : ∃ L, L = ordN z k := ⟨_, rfl⟩
            have hLl : L.length = k := by rw [hLe, ordN_len]
            have hLu : ∀ i, i < k → (fallsTo z k).getD i 0 = ((L.getD i 0 : Nat) : Int) ∧ L.getD i 0 < k := fun i hi => by
              have hif : i < (fallsTo z k).length := by rw [hul]; exact hi
              have h1 := (hmem _).1 (List.getElem_mem hif)
              have h2 : L.getD i 0 = ((fallsTo z k)[i]).toNat := by
                rw [hLe, List.getD_eq_getElem?_getD]
                unfold ordN
                rw [List.getElem?_map, List.getElem?_eq_getElem hif]
                rfl
              rw [h2, getD_at _ i hif]
              omega
            obtain ⟨u, hu⟩ : ∃ u, u = fallsTo z k := ⟨_, rfl⟩
            simp only [← hu] at hLu ho5 hul
            have HM0 := Lib.hid hM0
            have HB5 := Lib.hid hB5
            have HO5 := Lib.hid ho5
            have HLT5 := Lib.hid hlt5
            have HR0 := Lib.hid hr
            have HX := Lib.hid hX
            have HLE := Lib.hid hLe
            have HLL := Lib.hid hLl
            have HLU := Lib.hid hLu
            have HUL := Lib.hid hul
            have hXz : S ≤ X.heap.size := by rw [hX, size_alloc']; omega
            clear hb3 hst hown3 hnd hmem hul hB4 hM0 hB5 ho5 hlt5 hr hX hLe hLl hLu hu
            go_wp2_with fail
            rw [← HX.out, ← HR0.out]
            clear hmk
            go_loopw [41, 10] (fun s41 s10 wr => TakeI S r l L k A1 cap u w s41 s10 wr) (fun s41 _ _ => k - (intOf s41).toNat)
            case atStart => exact ⟨0, [], Nat.zero_le _, rfl, rfl, HB5.out, HO5.out, HM0.out, Spans_nil⟩
            case round =>
              clear HM0 HB5 HO5
              rename World => wq
              obtain ⟨j, bs, hj, rfl, rfl, hb, ho, hmp, hsp⟩ := hrel
              by_cases hjk : j < k
              · have hju : j < u.length := by rw [HUL.out]; exact hjk
                have hjL : j < L.length := by rw [HLL.out]; exact hjk
                obtain ⟨b1, o1, hA1, _, t1⟩ := ho.els.at1 (f := fun x : Int => .int .i64 x) hju
                obtain ⟨he, hik⟩ := HLU.out j hjk
                rw [← getD_at u j hju 0, he] at t1
                have hrv : (L.take (j + 1)).reverse = L[j] :: (L.take j).reverse := by rw [List.take_succ_eq_append_getElem hjL, List.reverse_append]; rfl
                rw [← getD_at L j hjL 0] at hrv
                obtain ⟨i, hi⟩ : ∃ i, i = L.getD j 0 := ⟨_, rfl⟩
                rw [← hi] at t1 hik hrv
                have hil : i < l.length := by rw [HL.out]; exact hik
                obtain ⟨b2, o2, hA2, _, t2⟩ := (HR.out.below hb).at1 (f := fun x => .int .u32 (wN x)) hil
                rw [← getD_at l i hil w0, show l.getD i w0 = lw l i from rfl] at t2
                subst hA1
                subst hA2
                have HADD := Lib.hid (base_add r bs (lw l i) wq hmp hsp.1)
                have HBQ := Lib.hid hb
                have HOQ := Lib.hid ho
                have HSP := Lib.hid hsp
                have HRV := Lib.hid hrv
                have hi0 : (0 : Int) ≤ (i : Int) := by omega
                have hwS : S ≤ wq.heap.size := by have := hb.size; have := HS.out; omega
                obtain ⟨G, hG⟩ : ∃ G, G = gdR (lw l) (L.take j).reverse := ⟨_, rfl⟩
                rw [← hG]
                have HG := Lib.hid hG
                obtain ⟨y, hy⟩ : ∃ y, y = lw l i := ⟨_, rfl⟩
                rw [← hy] at t2 HADD
                have HYY := Lib.hid hy
                clear hb ho hmp hsp he hi hrv hG hy
                go_wp2_with fail
                refine HADD.out.mono ?_
                clear HADD
                rintro e w5 ⟨bs', g, rfl, hadd, hmp5, hg5⟩
                have hb5 := HBQ.out.grown hg5 hwS (fun g hg => by
                  have : r = g := by simpa using hg
                  omega)
                have ho5 := HOQ.out.kept hg5 (.inr fun e => by
                  have := HLT5.out b1 rfl
                  apply this
                  have e2 : b1 = r := by simpa [blkOf] using e
                  exact e2)
                have hst5 := HSP.out.step hadd
                rw [HYY.out, ← List.map_cons, ← HRV.out] at hst5
                have HB5 := Lib.hid hb5
                have HO5 := Lib.hid ho5
                have HST := Lib.hid hst5
                have HMP := Lib.hid hmp5
                have hspi := HSP.out.2.1 (lw l i)
                obtain ⟨hbas, ⟨ha1, ha2, _⟩ | ⟨ha1, ha2, _⟩⟩ := hadd
                · subst ha2
                  rw [HYY.out] at ha1
                  have hgd : gdR (lw l) (L.take (j + 1)).reverse = G := by rw [HRV.out, gd_skip (hspi.1 ha1), ← HG.out]
                  have HGD := Lib.hid hgd
                  clear hb5 ho5 hst5 hmp5 hg5 hgd hspi ha1 hbas
                  go_wp2_with fail
                  go_roundw
                  case rel => exact ⟨j + 1, bs', by omega, by go_num, by rw [HGD.out], HB5.out, HO5.out, HMP.out, HST.out⟩
                  case measure => simp [intOf]; omega
                · subst ha2
                  rw [HYY.out] at ha1
                  have hgd : gdR (lw l) (L.take (j + 1)).reverse = wOr G (wShl w1 i) := by rw [HRV.out, gd_add (fun h => ha1 (hspi.2 h)), ← HG.out]
                  have HGD := Lib.hid hgd
                  clear hb5 ho5 hst5 hmp5 hg5 hgd hspi ha1 hbas
                  go_wp2_with fail
                  go_roundw
                  case rel => exact ⟨j + 1, bs', by omega, by go_num, by rw [HGD.out], HB5.out, HO5.out, HMP.out, HST.out⟩
                  case measure => simp [intOf]; omega
              · obtain rfl : j = k := by omega
                rw [List.take_of_length_le (by rw [HLL.out]; exact Nat.le_refl _)]
                obtain ⟨G, hG⟩ : ∃ G, G = gdR (lw l) L.reverse := ⟨_, rfl⟩
                rw [← hG]
                have HG := Lib.hid hG
                have HBQ := Lib.hid hb
                clear hb ho hmp hsp hG
                go_wp2_with fail
                refine bodyPost_ret (v := .tuple #[.int .u32 (wN G), .int .i64 0]) (by simp [results, Try.results38, go_sem]) rfl ?_
                exact ⟨G, by rw [HER.out], HBQ.out, fun h => absurd HER.out h, fun _ => by rw [HG.out, HLE.out]⟩
    · have he : er = 3 := by rw [HBE.out, if_neg (by rw [h0]; simp), if_pos hmn]
      subst he
      have hx : ((m : Int) != (n : Int)) = true := by simp; omega
      clear h0 HBE
      go_wp2_with fail
      refine bodyPost_ret (v := .tuple #[.int .u32 0, .int .i64 3]) (by simp [results, Try.results38, go_sem]) rfl ?_
      exact ⟨w0, rfl, HB1.out, fun _ => rfl, fun h => by cases h⟩
  · have he : er = lotsCheck l := by rw [HBE.out, if_pos h0]
    have h1 : (lotsCheck l != 0) = true := by simpa using h0
    have H0 := Lib.hid h0
    rw [← he] at h1 H0 ⊢
    clear h0 HBE he
    go_wp2_with fail
    refine bodyPost_ret (v := .tuple #[.int .u32 0, .int .i64 er]) (by simp [results, Try.results38, go_sem]) rfl ?_
    exact ⟨w0, rfl, HB1.out, fun _ => rfl, fun h => absurd h H0.out⟩
end Go.Proofs.Ytdinknpagklkjaa
