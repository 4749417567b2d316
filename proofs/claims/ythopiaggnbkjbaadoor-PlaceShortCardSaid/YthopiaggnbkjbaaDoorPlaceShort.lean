/- Which tasks lack the most room: what the program computes. Conditions: the workers and the tasks read as lists; the table. -/
import Derived.Test.YthopiaggnbkjbaaDoorShortP
import Derived.Test.YthopiaggnbkjbaaDoorHeld
import Derived.Test.YthopiaggnbkjbaaDoorOpen
import Derived.BigRegionIn
import Derived.Sort.QuietIn
import Derived.Stop.RegionWithIn
namespace Go.Proofs.YthopiaggnbkjbaaDoor
open Go.RowKit Go.Shelf
attribute [local go_sem] Oper.semAt_some
attribute [local go_sem ↓] w_and w_or w_xor w_andNot w_and1 w_and255 w_xor1 w_or0 w_shl w_shl1 w_shr w_sub w_add w_sub1 w_add1
attribute [local go_sem] w_eq0 w_ne0 w_eq1 w_eq w_ne

theorem bool_cases (b : Bool) : b = false ∨ b = true := by cases b <;> simp
theorem bits_lt {m k : Nat} (hm : m < 32) (hk : k < 2 ^ m) : ∀ j ∈ bitsL (nw k), j < m := by
  intro j hj
  have hj := mem_bitsL.1 hj
  rcases Nat.lt_or_ge j m with h | h
  · exact h
  · have hlt : (nw k).toNat < 2 ^ m := by
      unfold nw
      rw [BitVec.toNat_ofNat]
      exact Nat.lt_of_le_of_lt (Nat.mod_le _ _) hk
    rw [bit_lt hlt h] at hj
    cases hj
theorem place_may (a : Wk) (t : BitVec 32) (w : World) :
    Calls Tryd.prog 51 #[.agg #[.int .i64 a.1, .int .u32 (wN a.2)], .int .u32 (wN t)] w fun e w' => e = .returned (.bool (mayW t a)) ∧ w.alloc (.cells #[.int .i64 a.1, .int .u32 (wN a.2)] 72) = w' := by
  have h1 := (Blk.new w 72 #[.int .i64 a.1, .int .u32 (wN a.2)]).cell 1
  go_enter Tryd.func51, Tryd.ntmps51
  go_wp2_with fail
  go_ret
  exact ⟨rfl, rfl⟩

set_option maxRecDepth 100000 in
set_option maxHeartbeats 2000000 in
theorem place_Short (A B : Option Addr) (n c m d : Nat) (ws : List Wk) (ts : List (BitVec 32)) (w : World) (hl : ws.length = n) (hn : n ≤ maxLen) (hr : Els w w.heap.size 2 wkcell A ws)
    (hl2 : ts.length = m) (hm : m ≤ maxLen) (hr2 : Els w w.heap.size 1 wcell B ts) (htab : TabOk w) :
    Calls Tryd.prog 24 #[.slice A n c, .slice B m d] w fun e w' => e = .returned (.tuple #[.int .u32 (wN (if placeCheck ws m = 0 then shortTo ts ws (2 ^ m) else w0)), .int .i64 (placeCheck ws m)]) ∧ Below w.heap.size w w' := by
  have HL := Lib.hid hl
  have HL2 := Lib.hid hl2
  have HCK := Lib.hid (place_Check A B n c m d ws (w.alloc (.cells #[.slice B m d] 22)) hl hn (hr.below ((Below.refl w.heap.size w).alloc (Nat.le_refl _) _) |>.more (by rw [size_alloc']; omega)) hm)
  unfold maxLen at hn hm
  have h0 := htab.1
  clear hl hl2
  refine (callsIn_wide (n := 9)).1 ?_
  refine callsIn_of_wp_marks Tryd.func24 rfl trivial ?_ rfl
  simp only [Tryd.ntmps24, List.size_toArray, List.length_cons, List.length_nil, Nat.reduceAdd, Nat.reduceSub, Array.replicate_succ, Array.replicate_zero, List.push_toArray, List.append_toArray, List.nil_append, List.cons_append]
  gi_wp2_with fail
  refine wide_call2 (HCK.out.mono ?_)
  clear HCK
  rintro e W1 ⟨rfl, hb1⟩
  obtain ⟨S, hS⟩ : ∃ S, S = w.heap.size := ⟨_, rfl⟩
  have hB1 : Below S w W1 := by rw [hS]; exact ((Below.refl _ w).alloc (Nat.le_refl _) _).trans (hb1.mono (by rw [size_alloc']; omega))
  have hX1 : Boxed W1 S 22 (.slice B m d) := by
    have h2 := hb1.block w.heap.size (by rw [size_alloc']; omega)
    rw [hS]
    exact h2.trans (Boxed.new w _ _)
  have hT1 : TabOk W1 := htab.below hB1 (by rw [hS]; exact h0)
  rw [← hS] at hr hr2 ⊢
  have hS0 : 0 < S := by rw [hS]; exact h0
  have HSZ := Lib.hid hS
  clear hS h0 htab hb1
  by_cases hc0 : placeCheck ws m = 0
  · have HC := Lib.hid hc0
    obtain ⟨hn6, hm12, hroom⟩ := room_ok hc0
    rw [HL.out] at hn6
    have HRM := Lib.hid hroom
    rw [hc0]
    have hP1 := pow_le_4096 hm12
    have hlim := wN_pow (n := m) (by omega)
    obtain ⟨P, hP⟩ : ∃ P, P = 2 ^ m := ⟨_, rfl⟩
    have HP := Lib.hid hP
    have HLIM : Hid (wN (wShl w1 m) = (P : Int)) := by
      show wN (wShl w1 m) = (P : Int)
      rw [hlim, hP]
    rw [← hP] at hP1
    have c0 := hX1.cell
    have HB1 := Lib.hid hB1
    have HX1 := Lib.hid hX1
    have HT1 := Lib.hid hT1
    clear hB1 hX1 hT1 hc0 hP hlim hroom
    gi_wp2_with fail
    refine wpIn_loop_marks [7, 8, 9, 10, 11, 12, 13, 23, 24, 25, 26, 27, 28, 29, 30, 31, 32, 33, 34, 35, 36, 37, 38, 39, 40, 41, 42, 43, 44, 45, 46, 47, 48, 49, 50, 51, 52, 53]
      (fun g ds wr => ∃ k : Nat, k ≤ P ∧ g 23 = .int .u32 (wN (nw k)) ∧ g 7 = .int .u32 (wN (shortTo ts ws k)) ∧ g 8 = .int .i64 (lackS ts ws (shortTo ts ws k)) ∧ Below S w wr ∧ Boxed wr S 22 (.slice B m d) ∧ TabOk wr ∧ Marks S ds wr)
      (fun g _ => P - (intOf (g 23)).toNat) ?same ⟨0, Nat.zero_le _, ?s23, ?s7, ?s8, HB1.out, HX1.out, HT1.out, Marks.nil _ _⟩ ?round (fun g g' w h => by simp only [h 23 (by simp)]) (by decide) 55 rfl (by decide)
    case same => simp only [patch, slot, List.foldl_cons, List.foldl_nil, List.set_cons_succ, List.set_cons_zero, List.getD_cons_succ, List.getD_cons_zero]
    case s23 => simp only [slot, List.getD_cons_succ, List.getD_cons_zero]; rfl
    case s7 => simp only [slot, List.getD_cons_succ, List.getD_cons_zero]; rfl
    case s8 => simp only [slot, List.getD_cons_succ, List.getD_cons_zero]; show _ = Value.int .i64 (lackTo ts ws w0 ws.length); rw [lackTo_0]
    case round =>
      rintro g ds wr K ⟨k, hk, hg23, hg7, hg8, hb, hx, ht, hmk⟩ hK
      simp only [patch, List.foldl_cons, List.foldl_nil, List.set_cons_succ, List.set_cons_zero, hg23, hg7, hg8]
      have HG := Lib.hid hg23
      have HK := Lib.hid hK
      have HB := Lib.hid hb
      have HX := Lib.hid hx
      have HT := Lib.hid ht
      have HM := Lib.hid hmk
      have hkw := wN_nw (k := k) (by omega)
      have hkw1 := wN_nw (k := k + 1) (by omega)
      have HKW := Lib.hid hkw
      have HKW1 := Lib.hid hkw1
      have HSU := Lib.hid (nw_succ k)
      have c0 := hx.cell
      clear hK hb hx ht hmk hg23 hg7 hg8
      by_cases hlt : k < P
      · have hlt' : wN (nw k) < wN (wShl w1 m) := by rw [hkw, HLIM.out]; omega
        have HWS : Hid (shortTo ts ws (k + 1) = if lackS ts ws (shortTo ts ws k) < lackS ts ws (nw k) then nw k else shortTo ts ws k) := Lib.hid rfl
        have HBE := Lib.hid (bits_lt (m := m) (by omega) (by rw [← HP.out]; exact hlt))
        have hly := lackTo_bounds (ts := ts) HRM.out (shortTo ts ws k) ws.length
        have hlx := lackTo_bounds (ts := ts) HRM.out (nw k)
        obtain ⟨y, hy⟩ : ∃ y, y = shortTo ts ws k := ⟨_, rfl⟩
        obtain ⟨x, hxx⟩ : ∃ x, x = nw k := ⟨_, rfl⟩
        have hly2 : lackTo ts ws (shortTo ts ws k) ws.length = lackS ts ws (shortTo ts ws k) := rfl
        rw [hly2] at hly
        rw [← hxx] at hlt' HBE hlx ⊢
        rw [← hy] at hly ⊢
        have HXX := Lib.hid hxx
        have HY := Lib.hid hy
        obtain ⟨my, hmy⟩ : ∃ p, p = lackS ts ws y := ⟨_, rfl⟩
        rw [← hmy] at hly ⊢
        have HMY := Lib.hid hmy
        have HLX := Lib.hid hlx
        have hpx := pop_le x
        clear hxx hy hmy hkw hkw1 hly2 hlx
        gi_wp2_with fail
        refine wide_call2 ((OnesCount32_any x _).mono ?_)
        rintro e w' ⟨rfl, q1, he⟩
        have HBv : Hid (Below S w w') := Lib.hid (by rw [he]; exact below_drewN HB.out q1)
        have hxv : Boxed w' S 22 (.slice B m d) := by rw [he]; exact HX.out
        have HTv : Hid (TabOk w') := Lib.hid (by rw [he]; exact HT.out.block (Nat.le_refl _) rfl)
        have HMv : Hid (Marks S ds w') := Lib.hid (by rw [he]; exact HM.out.below (below_drewN (Below.refl _ wr) q1) (Nat.le_refl _))
        have HXv := Lib.hid hxv
        have c0 := hxv.cell
        clear he hxv HB HX HT HM
        rename World => v1
        gi_wp2_with fail
        obtain ⟨T, hT⟩ : ∃ T, T = v1.heap.size := ⟨_, rfl⟩
        obtain ⟨W2, hW2⟩ : ∃ W2, W2 = (v1.alloc (.cells #[.int .i64 (pop x)] 3)) := ⟨_, rfl⟩
        have hST : S < T := by rw [hT]; exact HXv.out.lt
        have hb2 : Below S w W2 := by rw [hW2]; exact HBv.out.alloc (by omega) _
        have hx2 : Boxed W2 S 22 (.slice B m d) := by rw [hW2]; exact HXv.out.alloc _
        have ht2 : TabOk W2 := HTv.out.below (hW2 ▸ (Below.refl v1.heap.size v1).alloc (Nat.le_refl _) _) (by omega)
        have hm2 : Marks S ds W2 := by rw [hW2]; exact HMv.out.alloc _
        have hn2 : Boxed W2 T 3 (.int .i64 (lackTo ts ws x 0)) := by rw [hW2, hT]; exact Boxed.new v1 _ _
        rw [← hW2, ← hT]
        have HB2 := Lib.hid hb2
        have HX2 := Lib.hid hx2
        have HT2 := Lib.hid ht2
        have HM2 := Lib.hid hm2
        have HN2 := Lib.hid hn2
        clear hb2 hx2 ht2 hm2 hn2 hW2 hT HBv HXv HTv HMv
        refine wpIn_loop_marks [11, 12, 13, 30, 31, 32, 33, 34, 35, 36, 37, 38, 39, 40, 41, 42, 43, 44, 45, 46, 47]
          (fun g ds wr => ∃ i : Nat, i ≤ n ∧ g 30 = .int .i64 i ∧ Below S w wr ∧ Boxed wr S 22 (.slice B m d) ∧ TabOk wr ∧ Marks S ds wr ∧ Boxed wr T 3 (.int .i64 (lackTo ts ws x i)))
          (fun g _ => n - (intOf (g 30)).toNat) ?same2 ⟨0, Nat.zero_le _, ?s30, HB2.out, HX2.out, HT2.out, HM2.out, HN2.out⟩ ?round2 (fun g g' w h => by simp only [h 30 (by simp)]) (by decide) 55 rfl (by decide)
        case same2 => simp only [patch, slot, List.foldl_cons, List.foldl_nil, List.set_cons_succ, List.set_cons_zero, List.getD_cons_succ, List.getD_cons_zero]
        case s30 => simp only [slot, List.getD_cons_succ, List.getD_cons_zero]; rfl
        case round2 =>
          clear HB2 HX2 HT2 HM2 HN2
          rintro g2 ds2 wr2 K2 ⟨i, hi, hg30, hb, hx, ht, hmk, hnb⟩ hK2
          simp only [patch, List.foldl_cons, List.foldl_nil, List.set_cons_succ, List.set_cons_zero, hg30]
          have HG2 := Lib.hid hg30
          have HK2 := Lib.hid hK2
          have HB := Lib.hid hb
          have HX := Lib.hid hx
          have HT := Lib.hid ht
          have HM := Lib.hid hmk
          have HNB := Lib.hid hnb
          have c1 := hx.cell
          have c2 := hnb.cell
          clear hK2 hb hx ht hmk hg30 hnb
          by_cases hlt2 : i < n
          · have hil : i < ws.length := by rw [HL.out]; exact hlt2
            obtain ⟨b, off, rfl, hbb, g0, g1⟩ := (hr.below HB.out).at2 hil
            have hgd : ws.getD i (0, w0) = ws[i] := by simp [List.getD_eq_getElem?_getD, hil]
            have HS2 : Hid (lackTo ts ws x (i + 1) = if wantsTo ts (ws.getD i (0, w0)) x ts.length = true then lackTo ts ws x i - (ws.getD i (0, w0)).1 else lackTo ts ws x i) := Lib.hid rfl
            have hrm := HRM.out i
            have hlk := HLX.out i
            obtain ⟨a, ha⟩ : ∃ a, a = ws[i] := ⟨_, rfl⟩
            rw [← ha] at g0 g1 hgd
            rw [hgd] at HS2 hrm
            obtain ⟨L, hLL⟩ : ∃ L, L = lackTo ts ws x i := ⟨_, rfl⟩
            rw [← hLL] at HS2 hlk c2 HNB
            have HLL := Lib.hid hLL
            clear ha hgd hLL
            gi_wp2_with fail
            refine wide_call2 ((graph_Each x _).mono ?_)
            rintro e W3 ⟨rfl, rfl⟩
            gi_wp2_with fail
            obtain ⟨U, hU⟩ : ∃ U, U = wr2.heap.size := ⟨_, rfl⟩
            obtain ⟨W2, hW2⟩ : ∃ W2, W2 = ((wr2.alloc (.cells #[.int .i64 a.1, .int .u32 (wN a.2)] 72)).alloc (.cells #[.int .u32 (wN x)] 23)) := ⟨_, rfl⟩
            have hTU : T < U := by rw [hU]; exact HNB.out.lt
            have hSZ2 : W2.heap.size = U + 2 := by rw [hW2, size_alloc', size_alloc', hU]
            have hb2 : Below S w W2 := by rw [hW2]; exact (HB.out.alloc (by omega) _).alloc (by rw [size_alloc']; omega) _
            have hbU : Below U wr2 W2 := by rw [hW2, hU]; exact ((Below.refl wr2.heap.size wr2).alloc (Nat.le_refl _) _).alloc (by simp) _
            have hx2 : Boxed W2 S 22 (.slice B m d) := by rw [hW2]; exact (HX.out.alloc _).alloc _
            have ht2 : TabOk W2 := HT.out.below (hU ▸ hbU) (by omega)
            have hm2 : Marks S ds2 W2 := by rw [hW2]; exact (HM.out.alloc _).alloc _
            have hn2 : Boxed W2 T 3 (.int .i64 L) := by rw [hW2]; exact (HNB.out.alloc _).alloc _
            have hk2 : Blk W2 U 72 #[.int .i64 a.1, .int .u32 (wN a.2)] := by rw [hW2, hU]; exact (Blk.new wr2 _ _).alloc _
            have hi2 : Boxed W2 (U + 1) 23 (.int .u32 (wN x)) := by
              have := Boxed.new (wr2.alloc (.cells #[.int .i64 a.1, .int .u32 (wN a.2)] 72)) 23 (.int .u32 (wN x))
              rw [size_alloc', ← hU, ← hW2] at this
              exact this
            rw [← hW2, ← hU]
            have HB2 := Lib.hid hb2
            have HX2 := Lib.hid hx2
            have HM2 := Lib.hid hm2
            have HN2 := Lib.hid hn2
            have HK2b := Lib.hid hk2
            have HI2 := Lib.hid hi2
            have HR := Lib.hid hr
            have HR2 := Lib.hid hr2
            clear hW2 hU hb2 hbU hx2 hm2 hn2 hk2 g0 g1 HB HX HT HM HNB hr hr2
            refine wpIn_bits (p := 36) (q := 13) 9 63 (U + 1) 23 (.int .u32 (wN x)) (bitsL x) [T, U + 1] rfl (enters_of Tryd.func63 (by kernel_rfl) rfl)
              (Each1_seq _ _ _ (by omega)) hi2 ht2 (by simp) (fun pre W => (∀ j ∈ pre, mayW (lw ts j) a = false) ∧ Boxed W T 3 (.int .i64 L)) (fun cd pre W => cd = .exit 4 ∧ (∃ j ∈ pre, mayW (lw ts j) a = true) ∧ Boxed W T 3 (.int .i64 (L - a.1)))
              (fun s X Y row h hg hrow => ⟨h.1, boxed_own T 3 (fun _ : List Nat => .int .i64 L) s X Y row h.2 hg hrow⟩) (fun cd s X Y row h hg hrow => ⟨h.1, h.2.1, boxed_own T 3 (fun _ : List Nat => .int .i64 (L - a.1)) s X Y row h.2.2 hg hrow⟩) (fun s A v h => ⟨h.1, h.2.other (by omega) v⟩) ⟨by simp, HN2.out⟩ ?assign ?body ?done ?stop
            case assign =>
              intro l' j W K hK
              simp only [List.setIfInBounds_toArray, List.set_cons_succ, List.set_cons_zero] at hK ⊢
              gi_wp2_with fail
              exact hK
            case body =>
              intro l' pre j W hh hi hpre
              have hjm : j < m := HBE.out j (by obtain ⟨z, hz⟩ := hpre; rw [← hz]; simp)
              have hjl : j < ts.length := by rw [HL2.out]; exact hjm
              have HH := Lib.hid hh
              have hbW := HB2.out.trans (hh.to (B := S) (by omega) (by simp; omega))
              have hxW := hh.boxed HX2.out (by simp; omega)
              have hkW : Blk W U 72 #[.int .i64 a.1, .int .u32 (wN a.2)] := (hh.block U (by omega) (by simp; omega)).trans HK2b.out
              obtain ⟨b', off', rfl, _, g1⟩ := (HR2.out.below hbW).at1 hjl
              rw [← lw_at ts j hjl] at g1
              have c1 := hxW.cell
              have c2 := hi.2.cell
              have c3 := hi.2.frozen
              have d0 := hkW.cell 0
              have d1 := hkW.cell 1
              have HI := Lib.hid hi
              have HKW := Lib.hid hkW
              simp only [List.setIfInBounds_toArray, List.set_cons_succ, List.set_cons_zero]
              clear hh hbW hxW hi hkW
              rcases bool_cases (mayW (lw ts j) a) with hmy | hmy
              · have HMY2 := Lib.hid hmy
                gi_wp2_with fail
                gi_region_with (refine round_call2 ((place_may a (lw ts j) _).mono ?_); rintro e w' ⟨rfl, rfl⟩)
                all_goals
                  gi_wp2_with fail
                  have hbA := (Below.refl W.heap.size W).alloc (Nat.le_refl _) (.cells #[.int .i64 a.1, .int .u32 (wN a.2)] 72)
                  have hsz := HH.out.size
                  refine ⟨KeepsFrom.drew (KeepsFrom.below hbA (Nat.le_refl _)), (KpE.below hbA (by omega) (by omega)).drew, (HH.out.alloc _).drew1, ⟨fun q hq => ?_, Boxed.drew (HI.out.2.alloc _)⟩⟩
                  rcases List.mem_append.1 hq with h1 | h1
                  · exact HI.out.1 q h1
                  · rw [List.mem_singleton] at h1
                    rw [h1]
                    exact HMY2.out
              · have HMY2 := Lib.hid hmy
                gi_wp2_with fail
                gi_region_with (refine round_call2 ((place_may a (lw ts j) _).mono ?_); rintro e w' ⟨rfl, rfl⟩)
                all_goals
                  have hsz := HH.out.size
                  have hq2 := HI.out.2.alloc (.cells #[.int .i64 a.1, .int .u32 (wN a.2)] 72)
                  have c2' := hq2.cell
                  have c3' := hq2.frozen
                  have d0' := (HKW.out.alloc (.cells #[.int .i64 a.1, .int .u32 (wN a.2)] 72)).cell 0
                  have HQ2 := Lib.hid hq2
                  clear hq2
                  gi_wp2_with fail
                  have hbA := (Below.refl W.heap.size W).alloc (Nat.le_refl _) (.cells #[.int .i64 a.1, .int .u32 (wN a.2)] 72)
                  refine ⟨KeepsFrom.drew ((KeepsFrom.below hbA (Nat.le_refl _)).trans (KeepsFrom.box HQ2.out _)), ((HH.out.alloc _).setCell (p := ⟨T, 0, none⟩) (by simp) _).drew1, rfl, ⟨j, by simp, HMY2.out⟩, Boxed.drew (HQ2.out.set _)⟩
            case done =>
              intro D W hD hh hi hdef
              have hbW := Lib.hid (HB2.out.trans (hh.to (B := S) (by omega) (by simp; omega)))
              have HX3 := Lib.hid (hh.boxed HX2.out (by simp; omega))
              have HN3 := Lib.hid hi.2
              have hno : wantsTo ts a x ts.length = false := by
                cases hw : wantsTo ts a x ts.length with
                | false => rfl
                | true =>
                  obtain ⟨j, _, hj, hjm⟩ := (wantsTo_iff ts a x _).1 hw
                  rw [hi.1 j (mem_bitsL.2 hj)] at hjm
                  cases hjm
              have HS3 : Hid (lackTo ts ws x (i + 1) = L) := Lib.hid (by rw [HS2.out, if_neg (by rw [hno]; simp)])
              have HMK := Lib.hid (hh.mark HM2.out (by simp; exact ⟨⟨_, _, HN2.out⟩, ⟨_, _, HI2.out⟩⟩) (by omega) hD hdef)
              have HTW := Lib.hid (ht2.block hh.size (hh.block 0 (by omega) (by simp; omega)))
              clear hh hi hdef ht2 hi2 hno
              gi_wp2_with fail
              refine HK2.out _ _ _ ?_ ⟨i + 1, by omega, ?_, hbW.out, HX3.out, HTW.out, HMK.out, ?_⟩ ?_
              · simp only [patch, slot, List.foldl_cons, List.foldl_nil, List.set_cons_succ, List.set_cons_zero, List.getD_cons_succ, List.getD_cons_zero]
              · simp only [slot, List.getD_cons_succ, List.getD_cons_zero]; go_num
              · rw [HS3.out]; exact HN3.out
              · simp only [slot, List.getD_cons_succ, List.getD_cons_zero]; rw [HG2.out]; simp [intOf]; omega
            case stop =>
              rintro D cd pre W hD hpre hh ⟨rfl, ⟨j, hj, hjm⟩, hnb⟩ hdef
              have hbW := Lib.hid (HB2.out.trans (hh.to (B := S) (by omega) (by simp; omega)))
              have HX3 := Lib.hid (hh.boxed HX2.out (by simp; omega))
              have HN3 := Lib.hid hnb
              have hjx : j ∈ bitsL x := by
                obtain ⟨z, hz⟩ := hpre
                rw [← hz]
                exact List.mem_append_left _ hj
              have hye : wantsTo ts a x ts.length = true := (wantsTo_iff ts a x _).2 ⟨j, by rw [HL2.out]; exact HBE.out j hjx, mem_bitsL.1 hjx, hjm⟩
              have HS3 : Hid (lackTo ts ws x (i + 1) = L - a.1) := Lib.hid (by rw [HS2.out, if_pos hye])
              have HMK := Lib.hid (hh.mark HM2.out (by simp; exact ⟨⟨_, _, HN2.out⟩, ⟨_, _, HI2.out⟩⟩) (by omega) hD hdef)
              have HTW := Lib.hid (ht2.block hh.size (hh.block 0 (by omega) (by simp; omega)))
              clear hh hnb hdef ht2 hi2 hye hjx hjm hj hpre
              gi_wp2_with fail
              refine HK2.out _ _ _ ?_ ⟨i + 1, by omega, ?_, hbW.out, HX3.out, HTW.out, HMK.out, ?_⟩ ?_
              · simp only [patch, slot, List.foldl_cons, List.foldl_nil, List.set_cons_succ, List.set_cons_zero, List.getD_cons_succ, List.getD_cons_zero]
              · simp only [slot, List.getD_cons_succ, List.getD_cons_zero]; go_num
              · rw [HS3.out]; exact HN3.out
              · simp only [slot, List.getD_cons_succ, List.getD_cons_zero]; rw [HG2.out]; simp [intOf]; omega
          · obtain rfl : i = n := by omega
            have hls : lackTo ts ws x i = lackS ts ws x := by unfold lackS; rw [HL.out]
            have hlk := HLX.out i
            have HLS := Lib.hid hls
            obtain ⟨L, hLL⟩ : ∃ L, L = lackTo ts ws x i := ⟨_, rfl⟩
            rw [← hLL] at hlk c2
            have HLL : Hid (lackS ts ws x = L) := Lib.hid (by rw [← hls, ← hLL])
            clear hls hLL HNB
            by_cases hcmp : my < L
            · have HS3 : Hid (shortTo ts ws (k + 1) = x) := Lib.hid (by rw [HWS.out, ← HXX.out, ← HY.out, if_pos (by rw [← HMY.out, HLL.out]; exact hcmp)])
              gi_wp2_with fail
              gi_quiet (fail)
              gi_wp2_with fail
              refine HK.out _ _ _ ?_ ⟨k + 1, by omega, ?_, ?_, ?_, below_drewN HB.out _, HX.out, HT.out.block (Nat.le_refl _) rfl, HM.out.below (below_drewN (Below.refl _ wr2) _) (Nat.le_refl _)⟩ ?_
              · simp only [patch, slot, List.foldl_cons, List.foldl_nil, List.set_cons_succ, List.set_cons_zero, List.getD_cons_succ, List.getD_cons_zero]
              · simp only [slot, List.getD_cons_succ, List.getD_cons_zero]; rw [HXX.out, HSU.out]
              · simp only [slot, List.getD_cons_succ, List.getD_cons_zero]; rw [HS3.out]
              · simp only [slot, List.getD_cons_succ, List.getD_cons_zero]; rw [HS3.out, HLL.out]
              · simp only [slot, List.getD_cons_succ, List.getD_cons_zero]; rw [HG.out, HXX.out, HSU.out]; simp [intOf]; rw [HKW.out, HKW1.out]; omega
            · have HS3 : Hid (shortTo ts ws (k + 1) = y) := Lib.hid (by rw [HWS.out, ← HXX.out, ← HY.out, if_neg (by rw [← HMY.out, HLL.out]; exact hcmp)])
              gi_wp2_with fail
              refine HK.out _ _ _ ?_ ⟨k + 1, by omega, ?_, ?_, ?_, HB.out, HX.out, HT.out, HM.out⟩ ?_
              · simp only [patch, slot, List.foldl_cons, List.foldl_nil, List.set_cons_succ, List.set_cons_zero, List.getD_cons_succ, List.getD_cons_zero]
              · simp only [slot, List.getD_cons_succ, List.getD_cons_zero]; rw [HXX.out, HSU.out]
              · simp only [slot, List.getD_cons_succ, List.getD_cons_zero]; rw [HS3.out]
              · simp only [slot, List.getD_cons_succ, List.getD_cons_zero]; rw [HS3.out, ← HMY.out]
              · simp only [slot, List.getD_cons_succ, List.getD_cons_zero]; rw [HG.out, HXX.out, HSU.out]; simp [intOf]; rw [HKW.out, HKW1.out]; omega
      · obtain rfl : k = P := by omega
        have hge : ¬ wN (nw k) < wN (wShl w1 m) := by rw [hkw, HLIM.out]; omega
        obtain ⟨y, hy⟩ : ∃ y, y = shortTo ts ws k := ⟨_, rfl⟩
        rw [← hy]
        have HY := Lib.hid hy
        clear hkw hkw1 hy
        gi_wp2_with fail
        refine bodyPostM_ret HM.out fun w' hw' => ⟨.tuple #[.int .u32 (wN y), .int .i64 0], by simp [results, Tryd.results24, go_sem], ?_⟩
        rw [← HSZ.out]
        exact ⟨by rw [← HP.out, HY.out], HB.out.trans hw'.1⟩
  · have hcf : (placeCheck ws m != 0) = true := by simpa using hc0
    have HC := Lib.hid hc0
    have hB1' := Lib.hid hB1
    obtain ⟨z, hz⟩ : ∃ z, z = placeCheck ws m := ⟨_, rfl⟩
    have HZ := Lib.hid hz
    rw [← hz] at hcf ⊢
    clear hc0 hB1 hX1 hT1 hz
    gi_wp2_with fail
    refine bodyPostM_ret (B := S) (Marks.nil _ _) fun w' hw' => ⟨.tuple #[.int .u32 0, .int .i64 z], by simp [results, Tryd.results24, go_sem], ?_⟩
    rw [← HSZ.out]
    exact ⟨by rw [HZ.out]; rfl, hB1'.out.trans hw'.1⟩
end Go.Proofs.YthopiaggnbkjbaaDoor
