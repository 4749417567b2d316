/- Task by task the first worker that lets as many have a place as can: the reference walked. Conditions: workers and tasks read as lists. -/
import Derived.Test.YtdinknpagklkjaaCrewPlays20
import Derived.Test.YtdinknpagklkjaaCrewPlays16
namespace Go.Proofs.Ytdinknpagklkjaa
open Go.RowKit
attribute [local go_sem] Oper.semAt_some

theorem seats_wsR {ws : List Wk} {ts : List (BitVec 32)} {room : List Int} (hl : room.length = ws.length) (hroom : ∀ q, 0 ≤ room.getD q 0) : (seatsTo (wsR ws room) ts ((wsR ws room).map (·.1)) ts.length).2 = manyV ws ts room := by
  rw [wsR_room hl, seats_many hroom]
  unfold manyV
  rw [wsR_len, wsR_net]
theorem wsR_good {ws : List Wk} {room : List Int} (h : ∀ j, 0 ≤ room.getD j 0 ∧ room.getD j 0 ≤ 12) : ∀ k ∈ wsR ws room, 0 ≤ k.1 ∧ k.1 ≤ 12 := by
  intro k hk
  unfold wsR at hk
  obtain ⟨q, _, rfl⟩ := List.mem_map.1 hk
  exact h q
theorem many_bound {ws : List Wk} {ts : List (BitVec 32)} {room : List Int} (hroom : ∀ q, 0 ≤ room.getD q 0) : 0 ≤ manyV ws ts room ∧ manyV ws ts room ≤ ts.length := by
  rw [← seats_many hroom]
  obtain ⟨h1, h2, _⟩ := seatsTo_bound ws ts room ts.length
  exact ⟨h1, h2⟩
/-- While a worker is looked for. -/
def PlJ (Y W : Nat) (ws : List Wk) (t : BitVec 32) (rs : List (BitVec 32)) (A5 : Option Addr) (c5 : Nat) (A8 : Option Addr) (c8 : Nat) (room acc : List Int) (want : Int) (v1 : World) (s10 s9 : Value) (wr : World) : Prop :=
  ∃ (j : Nat) (take : Int) (room' : List Int), j ≤ W ∧ s10 = .int .i64 j ∧ s9 = .int .i64 take ∧ Below Y v1 wr ∧ Own wr Y 39 2 wkcell A5 c5 (wsR ws room') ∧ Own wr Y 3 1 icell A8 c8 acc ∧ ((take = -1 ∧ room' = room ∧ ∀ j', j' < j → seatB ws t rs room want j' = false) ∨ ∃ q : Nat, take = q ∧ q < W ∧ pickJ ws t rs room want = some q ∧ room' = room.set q (room.getD q 0 - 1))
/-- Between two tasks. -/
def PlI (Y W M : Nat) (ws : List Wk) (ts : List (BitVec 32)) (room0 : List Int) (A5 : Option Addr) (c5 : Nat) (v1 : World) (s7 s6 : Value) (wr : World) : Prop :=
  ∃ (i : Nat) (room acc : List Int) (A8 : Option Addr) (c8 : Nat), i ≤ M ∧ s7 = .int .i64 i ∧ s6 = .slice A8 i c8 ∧ Below Y v1 wr ∧ Own wr Y 39 2 wkcell A5 c5 (wsR ws room) ∧ Own wr Y 3 1 icell A8 c8 acc ∧ room.length = W ∧ acc.length = i ∧ (∀ j, 0 ≤ room.getD j 0 ∧ room.getD j 0 ≤ 12) ∧ acc ++ placedG ws (ts.drop i) room = placedG ws ts room0
set_option maxRecDepth 100000 in
set_option maxHeartbeats 2000000 in
theorem ref_Placed (A B : Option Addr) (W cA M cB : Nat) (ws : List Wk) (ts : List (BitVec 32)) (w : World) (hW : ws.length = W) (hW6 : W ≤ 6) (hM : ts.length = M) (hM12 : M ≤ 12) (hMc : M ≤ cB) (hroom : ∀ k ∈ ws, 0 ≤ k.1 ∧ k.1 ≤ 12) (hws : Els w w.heap.size 2 wkcell A ws) (hts : Els w w.heap.size 1 wcell B ts) :
    Calls Try.prog 22 #[.slice A W cA, .slice B M cB] w fun e w' => ∃ A' cap, e = .returned (.slice A' M cap) ∧ Below w.heap.size w w' ∧ Own w' w.heap.size 3 1 icell A' cap (placedG ws ts (ws.map (·.1))) := by
  obtain ⟨Y, hY⟩ : ∃ Y, Y = w.heap.size := ⟨_, rfl⟩
  rw [← hY] at hws hts ⊢
  have hwz : w.heap.size = Y := hY.symm
  have HO0 : Hid (Own (w.alloc (.cells #[] 39)) Y 39 2 wkcell (some ⟨Y, 0, none⟩) 0 []) := Lib.hid (by rw [hY]; exact Own.empty w 39 2 wkcell (fun _ => rfl))
  have HB0 : Hid (Below Y w (w.alloc (.cells #[] 39))) := Lib.hid ((Below.refl Y w).alloc (by omega) _)
  have hr0 : ∀ j, 0 ≤ (ws.map (·.1)).getD j 0 ∧ (ws.map (·.1)).getD j 0 ≤ 12 := fun q => by
    by_cases hq : q < ws.length
    · rw [getD_at _ q (by simpa using hq), List.getElem_map]
      exact hroom _ (List.getElem_mem hq)
    · rw [List.getD_eq_getElem?_getD, List.getElem?_eq_none (by simpa using hq)]
      exact ⟨Int.le_refl _, by decide⟩
  have HR0 := Lib.hid hr0
  have HW := Lib.hid hW
  have HM := Lib.hid hM
  have HWS := Lib.hid hws
  have HTS := Lib.hid hts
  clear hY hW hM hws hts hroom hr0
  go_enter Try.func22, Try.ntmps22
  go_wp2_with (at_builtin; (refine wpList_append_els rfl _ _ _ rfl Y 2 39 (.agg #[.int .i64 0, .int .u32 0]) 16 Try.underlying22 (by kernel_rfl) rfl (by omega) wkcell _ (some ⟨Y, 0, none⟩) 0 0 [] rfl rfl HO0.out _ W cA ws HW.out rfl _ (HWS.out.below HB0.out) (one_flat (fun a u hu => by simp at hu; rcases hu with rfl | rfl <;> rfl) _) (by unfold maxLen; omega) (by omega) (by rw [size_alloc', hwz]; exact Nat.le_succ _) ?_; intro A5 c5 w1 hown1 hgrow1 hloc1; rw [List.nil_append] at hown1))
  have hb1 : Below Y w w1 := HB0.out.grown hgrow1 (by rw [size_alloc', hwz]; exact Nat.le_succ _) (fun g hg => by
    have : Y = g := by simpa [blkOf] using hg
    omega)
  have HB1 := Lib.hid hb1
  have HO1 : Hid (Own w1 Y 39 2 wkcell A5 c5 (wsR ws (ws.map (·.1)))) := Lib.hid (by rw [wsR_self]; exact hown1)
  have hz1 : Y ≤ w1.heap.size := by have := hb1.size; omega
  clear hown1 hgrow1 hloc1 hb1
  go_loopw [7, 6] (fun s7 s6 wr => PlI Y W M ws ts (ws.map (·.1)) A5 c5 w s7 s6 wr) (fun s7 _ _ => M - (intOf s7).toNat)
  case atStart => exact ⟨0, _, [], none, 0, Nat.zero_le _, rfl, rfl, HB1.out, HO1.out, Own.nil _ _ _ (fun _ => rfl), by rw [List.length_map]; exact HW.out, rfl, HR0.out, rfl⟩
  case round =>
    clear HB1 HO1 hz1
    rename World => wr
    obtain ⟨i, room, acc, A8, c8, hi, rfl, rfl, hb, hor, hoa, hrl, hal, hrb, heq⟩ := hrel
    have hYz : Y ≤ wr.heap.size := by have := hb.size; omega
    by_cases hiM : i < M
    · have hil : i < ts.length := by rw [HM.out]; exact hiM
      have hdr : ts.drop i = lw ts i :: ts.drop (i + 1) := by
        rw [List.drop_eq_getElem_cons hil]
        congr 1
        exact (getD_at ts i hil w0).symm
      have hct0 : ∀ W0 : World, (Instr.slice 23 (.slice B M cB) (some (.int .i64 (i : Int))) none none).run Try.prog W0 = .ok (.slice (if cB = i then B else B.map (·.add (i * 1))) (M - i) (cB - i)) W0 := fun W0 => run_tail Try.underlying23 (fun w => by kernel_rfl) _ M cB i (by omega) hMc (by omega) W0
      have hct1 : ∀ W0 : World, (Instr.slice 23 (.slice B M cB) (some (.int .i64 ((i : Int) + 1))) none none).run Try.prog W0 = .ok (.slice (if cB = i + 1 then B else B.map (·.add ((i + 1) * 1))) (M - (i + 1)) (cB - (i + 1))) W0 := fun W0 => run_tail Try.underlying23 (fun w => by kernel_rfl) _ M cB (i + 1) (by omega) hMc (by omega) W0
      have hcut0 := HTS.out.cut (k := i) HM.out hMc
      have hcut1 := HTS.out.cut (k := i + 1) HM.out hMc
      obtain ⟨B0, hB0⟩ : ∃ X, X = (if cB = i then B else B.map (·.add (i * 1))) := ⟨_, rfl⟩
      obtain ⟨B1, hB1⟩ : ∃ X, X = (if cB = i + 1 then B else B.map (·.add ((i + 1) * 1))) := ⟨_, rfl⟩
      rw [← hB0] at hcut0
      rw [← hB1] at hcut1
      simp only [← hB0] at hct0
      simp only [← hB1] at hct1
      obtain ⟨rs, hrs⟩ : ∃ rs, rs = ts.drop (i + 1) := ⟨_, rfl⟩
      obtain ⟨tt, htt⟩ : ∃ tt, tt = lw ts i := ⟨_, rfl⟩
      rw [hdr, ← hrs, ← htt] at heq hcut0
      rw [← hrs] at hcut1
      have hrsl : rs.length = M - (i + 1) := by rw [hrs, List.length_drop, HM.out]
      have hrl' : room.length = ws.length := by rw [hrl, HW.out]
      have hr0 : ∀ q, 0 ≤ room.getD q 0 := fun q => (hrb q).1
      have hS1 := ref_Seats A5 B0 W c5 (M - i) (cB - i) (wsR ws room) (tt :: rs) wr (by rw [wsR_len]; exact HW.out) hW6 (by rw [List.length_cons, hrsl]; omega) (by omega) (wsR_good hrb) hor.els ((hcut0.below hb).more hYz)
      have hsw := seats_wsR (ts := tt :: rs) hrl' hr0
      rw [List.length_cons, hrsl, show M - (i + 1) + 1 = M - i by omega] at hsw
      rw [hsw] at hS1
      obtain ⟨wb0, wb1⟩ := many_bound (ws := ws) (ts := tt :: rs) hr0
      rw [List.length_cons, hrsl] at wb1
      obtain ⟨want, hwant⟩ : ∃ x, x = manyV ws (tt :: rs) room := ⟨_, rfl⟩
      rw [← hwant] at hS1 wb0 wb1
      have HS1 := Lib.hid hS1
      have HWANT := Lib.hid hwant
      have HB := Lib.hid hb
      have HOR := Lib.hid hor
      have HOA := Lib.hid hoa
      have HRL := Lib.hid hrl
      have HRL' := Lib.hid hrl'
      have HAL := Lib.hid hal
      have HRB := Lib.hid hrb
      have HEQ := Lib.hid heq
      have HRS := Lib.hid hrs
      have HRSL := Lib.hid hrsl
      have HTT := Lib.hid htt
      have HCUT1 := Lib.hid hcut1
      have HR00 := Lib.hid hr0
      clear hb hor hoa hrl hrl' hal hrb heq hrs hrsl htt hcut0 hcut1 hS1 hsw hB0 hB1 hdr hwant hr0
      go_wp2_with fail
      refine HS1.out.mono ?_
      clear HS1
      rintro e w2 ⟨rfl, hb2⟩
      have HB2 := Lib.hid (HB.out.trans (hb2.mono hYz))
      have HOR2 := Lib.hid (HOR.out.below hb2 (Nat.le_refl _))
      have HOA2 := Lib.hid (HOA.out.below hb2 (Nat.le_refl _))
      clear hb2 hct0
      go_wp2_with fail
      go_loopw [10, 9] (fun s10 s9 wq => PlJ Y W ws tt rs A5 c5 A8 c8 room acc want w s10 s9 wq) (fun s10 _ _ => W - (intOf s10).toNat)
      case atStart => exact ⟨0, -1, room, Nat.zero_le _, rfl, rfl, HB2.out, HOR2.out, HOA2.out, .inl ⟨rfl, rfl, fun j' h => by omega⟩⟩
      case round =>
        clear HB2 HOR2 HOA2 HB HOR HOA
        rename World => wq
        obtain ⟨j, take, room', hj, rfl, rfl, hb, hor, hoa, hcase⟩ := hrel
        have hYq : Y ≤ wq.heap.size := by have := hb.size; omega
        rcases hcase with ⟨rfl, rfl, hno⟩ | ⟨q, rfl, hqW, hpk, rfl⟩
        · by_cases hjW : j < W
          · have hjl : j < ws.length := by rw [HW.out]; exact hjW
            have hjr : j < (wsR ws room').length := by rw [wsR_len]; exact hjl
            obtain ⟨g5, hA5, hg5, hg5z⟩ := hor.form_ (by omega)
            subst hA5
            obtain ⟨b0, o0, he0, _, d0, d1⟩ := hor.els.at2 (f := fun a : Wk => .int .i64 a.1) (g := fun a : Wk => .int .u32 (wN a.2)) hjr
            simp only [Option.some.injEq, Addr.mk.injEq] at he0
            obtain ⟨rfl, rfl, -⟩ := he0
            rw [Nat.zero_add] at d0 d1
            have hel : (wsR ws room')[j] = (room'.getD j 0, (wk ws j).2) := by
              have := wsR_at (room := room') hjl
              unfold wk at this
              rw [getD_at _ j hjr] at this
              exact this
            rw [hel] at d0 d1
            have hit : i < ts.length := by rw [HM.out]; exact hiM
            have hbw := hb
            obtain ⟨bt, ot, hBt, _, t0⟩ := (HTS.out.below hbw).at1 (f := fun x : BitVec 32 => .int .u32 (wN x)) hit
            rw [← getD_at ts i hit w0] at t0
            have e2 : ts.getD i w0 = lw ts i := rfl
            rw [e2, ← HTT.out] at t0
            have hrj := HRB.out j
            have hsb : seatB ws tt rs room' want j = (mayW tt (wk ws j) && (room'.getD j 0 != 0) && (1 + manyV ws rs (room'.set j (room'.getD j 0 - 1)) == want)) := rfl
            have hnx : seatB ws tt rs room' want j = false → ∀ j', j' < j + 1 → seatB ws tt rs room' want j' = false := fun h j' hj' => by
              by_cases hjq : j' = j
              · rw [hjq]; exact h
              · exact hno j' (by omega)
            obtain ⟨rj, hrj2⟩ : ∃ r, r = room'.getD j 0 := ⟨_, rfl⟩
            rw [← hrj2] at d0 hrj hsb
            have HRJ := Lib.hid hrj2
            have HSB := Lib.hid hsb
            have HNO := Lib.hid hno
            have HNX := Lib.hid hnx
            have HEL := Lib.hid hel
            have HB := Lib.hid hb
            have HOR := Lib.hid hor
            have HOA := Lib.hid hoa
            subst hBt
            obtain ⟨hs, hhs⟩ : ∃ h, h = (wk ws j).2 := ⟨_, rfl⟩
            rw [← hhs] at d1
            have HHS := Lib.hid hhs
            clear hbw e2 hrj2 hsb hno hnx hel hb hor hoa hhs
            by_cases hz : rj = 0
            · have hF := HNX.out (by rw [HSB.out, hz]; simp)
              have HF := Lib.hid hF
              have hd : decide (0 < rj) = false := decide_eq_false (by omega)
              clear hF hz HSB HNX
              go_wp2_with fail
              refine region_plain 99 17 (fun w' => w' = wq.drew) (by kernel_rfl) rfl ?_
              refine anyC_reads (by kernel_rfl) [0, 1, 2, 3, 4, 5, 6, 7, 8, 9, 10, 11, 12, 13, 14, 15, 16] ?opa ?oha 0 _ _ _ (by kernel_rfl) ?oka
              case oha => (simp only [List.filterMap_cons, List.filterMap_nil, List.getElem?_toArray, List.getElem?_cons_zero, List.getElem?_cons_succ]; try rfl)
              repeat (first
                | (refine readC_step (v := ?_) rfl (fun w' hw' => ?_) ?_
                   rotate_left
                   focus (subst hw'; go_simp; try with_reducible rfl)
                   go_simp)
                | (refine readC_skip rfl ?_; go_simp))
              refine readC_nil ?_
              refine anyC_end (by kernel_rfl) (.inr rfl) ?_
              go_wp2_with fail
              go_roundw
              case rel => exact ⟨j + 1, -1, room', by omega, by go_num, rfl, HB.out.drew, HOR.out.drew, HOA.out.drew, .inl ⟨rfl, rfl, HF.out⟩⟩
              case measure => simp [intOf]; omega
            · have hd : decide (0 < rj) = true := decide_eq_true (by omega)
              have hz1 : (rj != 0) = true := by simpa using hz
              have hsb2 := HSB.out
              rw [hz1, Bool.and_true] at hsb2
              have HSB2 := Lib.hid hsb2
              have hmw : mayW tt (rj, hs) = mayW tt (wk ws j) := by rw [HHS.out]; rfl
              have HMAY := Lib.hid (ref_May (rj, hs) tt wq.drew)
              rw [hmw] at HMAY
              clear hsb2 HSB hmw hz1
              rcases Bool.eq_false_or_eq_true (mayW tt (wk ws j)) with hmay | hmay
              · rw [hmay] at HMAY HSB2
                rw [Bool.true_and] at HSB2
                clear hmay hz
                have hrjb : 0 < rj := by simpa using hd
                have hw1 : IntKind.i64.wrap (rj - 1) = rj - 1 := IntWalk.i64_in _ (by omega)
                have hw2 : IntKind.i64.wrap (rj - 1 + 1) = rj := by rw [IntWalk.i64_in _ (by omega)]; omega
                have hw3 : IntKind.i64.wrap ((i : Int) + 1) = (i : Int) + 1 := IntWalk.i64_in _ (by omega)
                go_wp2_with fail
                refine region_plain 15 17 (fun w' => w' = wq.drew) (by kernel_rfl) rfl ?_
                refine anyC_reads (by kernel_rfl) [0, 1, 2, 3, 4, 5, 6, 7, 8, 9, 10, 11, 12, 13, 14] ?opb ?ohb 2 _ _ _ (by kernel_rfl) ?okb
                case ohb => (simp only [List.filterMap_cons, List.filterMap_nil, List.getElem?_toArray, List.getElem?_cons_zero, List.getElem?_cons_succ]; try rfl)
                repeat (
                  refine readC_step (v := ?_) rfl (fun w' hw' => ?_) ?_
                  rotate_left
                  focus (subst hw'; go_simp; try with_reducible rfl)
                  go_simp)
                refine readC_nil ?_
                refine anyC_one (i := 15) (by kernel_rfl) rfl rfl (.inr rfl) ?_
                go_simp
                refine HMAY.out.mono ?_
                clear HMAY
                rintro e w3 ⟨rfl, hb3⟩
                have hor3 := HOR.out.drew.below hb3 (Nat.le_refl _)
                have hoa3 := HOA.out.drew.below hb3 (Nat.le_refl _)
                have y0 : w3.cell? ⟨g5, j * 2, none⟩ = some (.int .i64 rj) := (hb3.cell (show g5 < wq.heap.size from hg5z)).trans d0
                have yf := hor3.2.frozenAt (j * 2)
                have hlj : j < room'.length := by rw [HRL.out]; exact hjW
                have hput := hor3.putc (k := j) (j := 0) (x := (rj - 1, (wk ws j).2)) (u := .int .i64 (rj - 1)) (by rw [wsR_len]; exact hjl) (by omega) (by rw [HEL.out]; rfl)
                rw [Nat.add_zero, ← wsR_set hjl HRL'.out, HRJ.out] at hput
                have hoa4 := hoa3.otherT hor3 (by decide) (gb_setCell w3 g5 (j * 2) (.int .i64 (rj - 1)))
                have hb4 := (HB.out.drew.trans (hb3.mono hYq)).setCell (p := ⟨g5, j * 2, none⟩) hg5 (.int .i64 (rj - 1))
                rw [HRJ.out] at hoa4 hb4
                obtain ⟨room2, hroom2⟩ : ∃ r, r = room'.set j (room'.getD j 0 - 1) := ⟨_, rfl⟩
                rw [← hroom2] at hput
                have hrb2 : ∀ x, 0 ≤ room2.getD x 0 ∧ room2.getD x 0 ≤ 12 := by
                  rw [hroom2, ← HRJ.out]
                  exact room_less HRB.out (by omega) (by omega)
                have hrl2 : room2.length = ws.length := by rw [hroom2, List.length_set]; exact HRL'.out
                rw [← HRJ.out] at hput hoa4 hb4
                obtain ⟨W4, hW4⟩ : ∃ W4, W4 = w3.setCell ⟨g5, j * 2, none⟩ (.int .i64 (rj - 1)) := ⟨_, rfl⟩
                have hz4 : W4.heap.size = w3.heap.size := by rw [hW4]; simp
                rw [← hW4] at hput hoa4 hb4
                have hY4 : Y ≤ W4.heap.size := by have := hb3.size; rw [hz4]; exact Nat.le_trans hYq this
                have hsw := seats_wsR (ts := rs) hrl2 (fun x => (hrb2 x).1)
                rw [HRSL.out] at hsw
                have hS2 := ref_Seats (some ⟨g5, 0, none⟩) B1 W c5 (M - (i + 1)) (cB - (i + 1)) (wsR ws room2) rs W4 (by rw [wsR_len]; exact HW.out) hW6 HRSL.out (by omega) (wsR_good hrb2) hput.els ((HCUT1.out.below hb4).more hY4)
                rw [hsw] at hS2
                obtain ⟨mb0, mb1⟩ := many_bound (ws := ws) (ts := rs) (fun x => (hrb2 x).1)
                rw [HRSL.out] at mb1
                have hsb3 := HSB2.out
                rw [HRJ.out, ← hroom2] at hsb3
                obtain ⟨mv, hmv⟩ : ∃ mv, mv = manyV ws rs room2 := ⟨_, rfl⟩
                rw [← hmv] at hS2 mb0 mb1 hsb3
                have hw5 : IntKind.i64.wrap (1 + mv) = 1 + mv := IntWalk.i64_in _ (by omega)
                have HS2 := Lib.hid hS2
                have HPUT := Lib.hid hput
                have HOA4 := Lib.hid hoa4
                have HB4 := Lib.hid hb4
                have HW4 := Lib.hid hW4
                have HR2 := Lib.hid hroom2
                have HSB3 := Lib.hid hsb3
                clear hb3 hor3 hoa3 hput hoa4 hb4 hW4 hS2 hsw hroom2 hrb2 hrl2 hmv hsb3 hz4
                refine anyC_one (i := 16) (by kernel_rfl) rfl rfl (.inl rfl) ?_
                go_simp
                refine anyC_end (by kernel_rfl) (.inl rfl) ?_
                go_wp2_with fail
                rw [← HW4.out]
                refine HS2.out.mono ?_
                clear HS2
                rintro e w5 ⟨rfl, hb5⟩
                have hor5 := HPUT.out.below hb5 (Nat.le_refl _)
                have HB5 := Lib.hid (HB4.out.trans (hb5.mono hY4))
                have HOA5 := Lib.hid (HOA4.out.below hb5 (Nat.le_refl _))
                have HOR5 := Lib.hid hor5
                have hj5 : j < (wsR ws room2).length := by rw [wsR_len]; exact hjl
                obtain ⟨b0', o0', he0', _, d5, _⟩ := hor5.els.at2 (f := fun a : Wk => .int .i64 a.1) (g := fun a : Wk => .int .u32 (wN a.2)) hj5
                simp only [Option.some.injEq, Addr.mk.injEq] at he0'
                obtain ⟨rfl, rfl, -⟩ := he0'
                have hel2 : (wsR ws room2)[j] = (rj - 1, (wk ws j).2) := by
                  have := wsR_at (room := room2) hjl
                  unfold wk at this
                  rw [getD_at _ j hj5] at this
                  rw [this]
                  have e : room2.getD j 0 = rj - 1 := by
                    rw [HR2.out]
                    have : (room'.set j (room'.getD j 0 - 1)).getD j 0 = if j = j then room'.getD j 0 - 1 else room'.getD j 0 := la_set hlj
                    rw [this, if_pos rfl, ← HRJ.out]
                  rw [e]
                rw [Nat.zero_add, hel2] at d5
                have f5 := hor5.2.frozenAt (j * 2)
                by_cases heq2 : 1 + mv = want
                · have hb1 : (1 + mv == want) = true := by simpa using heq2
                  have hpk := pick_some hjl (by rw [HSB3.out, hb1]) HNO.out
                  have HPK := Lib.hid hpk
                  clear hpk heq2 d5 f5 hb5 hor5 y0 yf
                  go_wp2_with fail
                  go_roundw
                  case rel => exact ⟨j + 1, j, room2, by omega, by go_num, rfl, HB5.out, HOR5.out, HOA5.out, .inr ⟨j, rfl, hjW, HPK.out, HR2.out⟩⟩
                  case measure => simp [intOf]; omega
                · have hb1 : (1 + mv == want) = false := by simpa using heq2
                  have hF := HNX.out (by rw [HSB3.out, hb1])
                  have HF := Lib.hid hF
                  have hback := hor5.putc (k := j) (j := 0) (x := (rj, (wk ws j).2)) (u := .int .i64 rj) (by rw [wsR_len]; exact hjl) (by omega) (by rw [hel2]; rfl)
                  rw [Nat.add_zero, ← wsR_set hjl (by rw [HR2.out, List.length_set]; exact HRL'.out), HR2.out, List.set_set, HRJ.out] at hback
                  have hid : room'.set j (room'.getD j 0) = room' := by
                    rw [getD_at room' j hlj]
                    simp
                  rw [hid, ← HRJ.out] at hback
                  have hoa6 := HOA5.out.otherT hor5 (by decide) (gb_setCell w5 g5 (j * 2) (.int .i64 rj))
                  have hb6 := HB5.out.setCell (p := ⟨g5, j * 2, none⟩) hg5 (.int .i64 rj)
                  have HBK := Lib.hid hback
                  have HOA6 := Lib.hid hoa6
                  have HB6 := Lib.hid hb6
                  clear hF heq2 hb5 hor5 y0 yf hback hid hoa6 hb6
                  go_wp2_with fail
                  go_roundw
                  case rel => exact ⟨j + 1, -1, room', by omega, by go_num, rfl, HB6.out, HBK.out, HOA6.out, .inl ⟨rfl, rfl, HF.out⟩⟩
                  case measure => simp [intOf]; omega
              · have hF := HNX.out (by rw [HSB2.out, hmay]; rfl)
                have HF := Lib.hid hF
                rw [hmay] at HMAY
                clear hF hmay hz HSB2 HNX
                go_wp2_with fail
                refine region_plain 15 17 (fun w' => w' = wq.drew) (by kernel_rfl) rfl ?_
                refine anyC_reads (by kernel_rfl) [0, 1, 2, 3, 4, 5, 6, 7, 8, 9, 10, 11, 12, 13, 14] ?opc ?ohc 2 _ _ _ (by kernel_rfl) ?okc
                case ohc => (simp only [List.filterMap_cons, List.filterMap_nil, List.getElem?_toArray, List.getElem?_cons_zero, List.getElem?_cons_succ]; try rfl)
                repeat (
                  refine readC_step (v := ?_) rfl (fun w' hw' => ?_) ?_
                  rotate_left
                  focus (subst hw'; go_simp; try with_reducible rfl)
                  go_simp)
                refine readC_nil ?_
                refine anyC_one (i := 15) (by kernel_rfl) rfl rfl (.inr rfl) ?_
                go_simp
                refine HMAY.out.mono ?_
                clear HMAY
                rintro e w3 ⟨rfl, hb3⟩
                have HB3 := Lib.hid (HB.out.drew.trans (hb3.mono hYq))
                have HOR3 := Lib.hid (HOR.out.drew.below hb3 (Nat.le_refl _))
                have HOA3 := Lib.hid (HOA.out.drew.below hb3 (Nat.le_refl _))
                clear hb3
                refine anyC_one (i := 16) (by kernel_rfl) rfl rfl (.inl rfl) ?_
                go_simp
                refine anyC_end (by kernel_rfl) (.inl rfl) ?_
                go_wp2_with fail
                go_roundw
                case rel => exact ⟨j + 1, -1, room', by omega, by go_num, rfl, HB3.out, HOR3.out, HOA3.out, .inl ⟨rfl, rfl, HF.out⟩⟩
                case measure => simp [intOf]; omega
          · have hjw2 : j = W := by omega
            have hpk := pick_none (fun j' h => hno j' (by rw [hjw2, ← HW.out]; exact h))
            have hjd : ¬ ((j : Int) < (W : Int)) := by omega
            clear hno hjw2
            have hnew : (acc ++ [(-1 : Int)]) ++ placedG ws (ts.drop (i + 1)) room' = placedG ws ts (ws.map (·.1)) := by
              rw [← HEQ.out, List.append_assoc]
              conv => rhs; rw [placedG]
              rw [← HWANT.out, hpk, ← HRS.out]
              rfl
            have hal2 : (acc ++ [(-1 : Int)]).length = i + 1 := by rw [List.length_append, HAL.out]; rfl
            have HNEW := Lib.hid hnew
            have HAL2 := Lib.hid hal2
            have HBX := Lib.hid hb
            have HORX := Lib.hid hor
            have HOAX := Lib.hid hoa
            clear hnew hal2 hb hor hoa
            go_wp2_with (at_builtin; (
              refine wpList_push rfl _ _ _ rfl Y 1 3 (.int .i64 0) 8 Try.underlying27 (by kernel_rfl) rfl (by omega) icell wq #[.int .i64 (-1 : Int)] A8 i c8 acc HAL.out rfl HOAX.out 1 [(-1 : Int)] rfl rfl _ rfl rfl (by simp [Value.oneCell']) (by unfold maxLen; omega) (by omega) hYq ?_
              intro A9 cap9 w9 hown9 hgrow9 hloc9))
            have hb9 := (HBX.out.alloc hYq _).grown hgrow9 (by rw [size_alloc']; omega) (fun g hg => (HOAX.out.lt g hg).1)
            have hor9 := (HORX.out.alloc (.cells #[.int .i64 (-1 : Int)] 3)).otherT (HOAX.out.alloc (.cells #[.int .i64 (-1 : Int)] 3)) (by decide) hgrow9
            have HB9 := Lib.hid hb9
            have HO9 := Lib.hid hown9
            have HR9 := Lib.hid hor9
            clear hb9 hown9 hgrow9 hloc9 hor9
            go_roundw
            case rel => exact ⟨i + 1, room', _, A9, cap9, by omega, by go_num, rfl, HB9.out, HR9.out, HO9.out, HRL.out, HAL2.out, HRB.out, HNEW.out⟩
            case measure => simp [intOf]; omega
        · have hqd : decide ((q : Int) < 0) = false := decide_eq_false (by omega)
          have hrb2 : ∀ x, 0 ≤ (room.set q (room.getD q 0 - 1)).getD x 0 ∧ (room.set q (room.getD q 0 - 1)).getD x 0 ≤ 12 := by
            have h1 := pickJ_room hpk
            have h2 := HRB.out q
            exact room_less HRB.out (by omega) (by omega)
          have HRB2 := Lib.hid hrb2
          clear hrb2
          by_cases hjW : j < W
          ·
            have hnew : (acc ++ [(q : Int)]) ++ placedG ws (ts.drop (i + 1)) (room.set q (room.getD q 0 - 1)) = placedG ws ts (ws.map (·.1)) := by
              rw [← HEQ.out, List.append_assoc]
              conv => rhs; rw [placedG]
              rw [← HWANT.out, hpk, ← HRS.out]
              rfl
            have hal2 : (acc ++ [(q : Int)]).length = i + 1 := by rw [List.length_append, HAL.out]; rfl
            have HNEW := Lib.hid hnew
            have HAL2 := Lib.hid hal2
            have HBX := Lib.hid hb
            have HORX := Lib.hid hor
            have HOAX := Lib.hid hoa
            clear hnew hal2 hb hor hoa
            go_wp2_with (at_builtin; (
              refine wpList_push rfl _ _ _ rfl Y 1 3 (.int .i64 0) 8 Try.underlying27 (by kernel_rfl) rfl (by omega) icell wq #[.int .i64 (q : Int)] A8 i c8 acc HAL.out rfl HOAX.out 1 [(q : Int)] rfl rfl _ rfl rfl (by simp [Value.oneCell']) (by unfold maxLen; omega) (by omega) hYq ?_
              intro A9 cap9 w9 hown9 hgrow9 hloc9))
            have hb9 := (HBX.out.alloc hYq _).grown hgrow9 (by rw [size_alloc']; omega) (fun g hg => (HOAX.out.lt g hg).1)
            have hor9 := (HORX.out.alloc (.cells #[.int .i64 (q : Int)] 3)).otherT (HOAX.out.alloc (.cells #[.int .i64 (q : Int)] 3)) (by decide) hgrow9
            have HB9 := Lib.hid hb9
            have HO9 := Lib.hid hown9
            have HR9 := Lib.hid hor9
            clear hb9 hown9 hgrow9 hloc9 hor9
            go_roundw
            case rel => exact ⟨i + 1, (room.set q (room.getD q 0 - 1)), _, A9, cap9, by omega, by go_num, rfl, HB9.out, HR9.out, HO9.out, by rw [List.length_set]; exact HRL.out, HAL2.out, HRB2.out, HNEW.out⟩
            case measure => simp [intOf]; omega
          ·
            have hnew : (acc ++ [(q : Int)]) ++ placedG ws (ts.drop (i + 1)) (room.set q (room.getD q 0 - 1)) = placedG ws ts (ws.map (·.1)) := by
              rw [← HEQ.out, List.append_assoc]
              conv => rhs; rw [placedG]
              rw [← HWANT.out, hpk, ← HRS.out]
              rfl
            have hal2 : (acc ++ [(q : Int)]).length = i + 1 := by rw [List.length_append, HAL.out]; rfl
            have HNEW := Lib.hid hnew
            have HAL2 := Lib.hid hal2
            have HBX := Lib.hid hb
            have HORX := Lib.hid hor
            have HOAX := Lib.hid hoa
            clear hnew hal2 hb hor hoa
            go_wp2_with (at_builtin; (
              refine wpList_push rfl _ _ _ rfl Y 1 3 (.int .i64 0) 8 Try.underlying27 (by kernel_rfl) rfl (by omega) icell wq #[.int .i64 (q : Int)] A8 i c8 acc HAL.out rfl HOAX.out 1 [(q : Int)] rfl rfl _ rfl rfl (by simp [Value.oneCell']) (by unfold maxLen; omega) (by omega) hYq ?_
              intro A9 cap9 w9 hown9 hgrow9 hloc9))
            have hb9 := (HBX.out.alloc hYq _).grown hgrow9 (by rw [size_alloc']; omega) (fun g hg => (HOAX.out.lt g hg).1)
            have hor9 := (HORX.out.alloc (.cells #[.int .i64 (q : Int)] 3)).otherT (HOAX.out.alloc (.cells #[.int .i64 (q : Int)] 3)) (by decide) hgrow9
            have HB9 := Lib.hid hb9
            have HO9 := Lib.hid hown9
            have HR9 := Lib.hid hor9
            clear hb9 hown9 hgrow9 hloc9 hor9
            go_roundw
            case rel => exact ⟨i + 1, (room.set q (room.getD q 0 - 1)), _, A9, cap9, by omega, by go_num, rfl, HB9.out, HR9.out, HO9.out, by rw [List.length_set]; exact HRL.out, HAL2.out, HRB2.out, HNEW.out⟩
            case measure => simp [intOf]; omega
    · obtain rfl : i = M := by omega
      rw [List.drop_of_length_le (by rw [HM.out]; exact Nat.le_refl _)] at heq
      have heq2 : acc = placedG ws ts (ws.map (·.1)) := by
        rw [← heq]
        simp [placedG]
      subst heq2
      have HB := Lib.hid hb
      have HOA := Lib.hid hoa
      clear hb hor hoa hrl hal hrb heq
      go_wp2_with fail
      go_ret
      exact ⟨_, _, rfl, HB.out, HOA.out⟩
end Go.Proofs.Ytdinknpagklkjaa
