/- The law FeeSpares: both tell the same; the statement's walk. Conditions: the arcs and what goes read as lists. -/
import Derived.Test.YtpinhmhempbmoaaFeeC
import Derived.Test.YtpinhmhempbmoaaFeeR
import Derived.Test.YtpinhmhempbmoaaOpen
namespace Go.Proofs.Ytpinhmhempbmoaa
open Go.RowKit

theorem spare_ok {N : Int} {l : List Arc} {gs : List Int} (h : spareCheck N l gs = 0) : netCheck N l = 0 ∧ gs.length = l.length ∧ (List.range gs.length).any (outS l gs) = false := by
  unfold spareCheck at h
  split at h
  · rename_i h0; exact absurd h h0
  · split at h
    · cases h
    · split at h
      · cases h
      · rename_i h0 h1 h2
        exact ⟨by simpa using h0, by simpa using h1, by simpa using h2⟩
theorem spare_same {N : Nat} {l : List Arc} {gs : List Int} (h : spareCheck N l gs = 0) : spareB N l gs = floM N N (cheapM l gs (2 * l.length)) := by
  obtain ⟨h0, h1, h2⟩ := spare_ok h
  obtain ⟨M, hM, hok⟩ := net_ok h0
  have hNM : N = M := by omega
  subst hNM
  have hS := stS_ok (gs := gs) hok (n := 2 * l.length) (Nat.le_refl _)
  unfold spareB
  rw [if_pos h]
  exact cheap_same hok.small (fun s hs => ⟨(hS s hs).1, (hS s hs).2.1⟩) (fun s hs => (hS s hs).2.2.2.2) (cheapM_small hok (Nat.le_refl _))
theorem bool_cs (b : Bool) : b = false ∨ b = true := by cases b <;> simp

set_option maxRecDepth 100000 in
set_option maxHeartbeats 2000000 in
theorem law_FeeSpares (N : Int) (A : Option Addr) (n c : Nat) (l : List Arc) (GA : Option Addr) (k cg : Nat) (gs : List Int) (w : World) (hl : l.length = n) (hn : n ≤ maxLen) (hg : gs.length = k) (hk : k ≤ maxLen)
    (hr : Els w w.heap.size 4 Arc.cells A l) (hrg : Els w w.heap.size 1 icell GA gs) :
    Calls Try.prog 7 #[.agg #[.int .i64 N, .slice A n c], .slice GA k cg] w fun e w' => e = .returned (.bool true) ∧ Below w.heap.size w w' := by
  have hb0 := (Below.refl w.heap.size w).alloc (Nat.le_refl _) (.cells #[.int .i64 N, .slice A n c] 48)
  have hB0 := Blk.new w 48 #[.int .i64 N, .slice A n c]
  have HW := Lib.hid (fee_Spare N A n c l GA k cg gs (w.alloc (.cells #[.int .i64 N, .slice A n c] 48)) hl hn hg hk ((hr.alloc (Nat.le_refl _) _).more (by rw [size_alloc']; omega)) ((hrg.alloc (Nat.le_refl _) _).more (by rw [size_alloc']; omega)))
  have HL := Lib.hid hl
  have HG := Lib.hid hg
  have HR := Lib.hid hr
  have HRG := Lib.hid hrg
  have HB0 := Lib.hid hb0
  have HK0 := Lib.hid hB0
  have HMX := Lib.hid hn
  have c0 := hB0.cell 0
  have c1 := hB0.cell 1
  unfold maxLen at hk hn
  clear hr hrg hb0 hB0 hl hg
  go_enter Try.func7, Try.ntmps7
  go_wp2_with fail
  refine HW.out.mono ?_
  clear HW
  rintro e v1 ⟨rfl, hb1⟩
  have hk1 := HK0.out.below hb1 (by rw [size_alloc']; omega)
  have hb1' := HB0.out.trans (hb1.mono (by rw [size_alloc']; omega))
  have hz1 := hb1'.size
  have hlt1 := hk1.lt
  have HB1 := Lib.hid hb1'
  have HK1 := Lib.hid hk1
  have HN := Lib.hid (ref_NetCheck N A n c l v1 HL.out HMX.out ((HR.out.below hb1').more hz1))
  clear c0 c1 hb1 hb1'
  have c0 := hk1.cell 0
  have c1 := hk1.cell 1
  clear hk1
  obtain ⟨sb, hsb⟩ : ∃ b, b = spareB N l gs := ⟨_, rfl⟩
  obtain ⟨sc, hsc⟩ : ∃ b, b = spareCheck N l gs := ⟨_, rfl⟩
  rw [← hsb, ← hsc]
  have HSB := Lib.hid hsb
  have HSC := Lib.hid hsc
  clear hsb hsc
  go_wp2_with fail
  refine HN.out.mono ?_
  clear HN
  rintro e v2 ⟨rfl, hb2⟩
  have hk2 := HK1.out.below hb2 hlt1
  have HB2 := Lib.hid (HB1.out.trans (hb2.mono hz1))
  have HK2 := Lib.hid hk2
  have hz2 := HB2.out.size
  clear c0 c1 hb2
  have c0 := hk2.cell 0
  have c1 := hk2.cell 1
  clear hk2
  by_cases h0 : netCheck N l = 0
  · obtain ⟨M, rfl, hok⟩ := net_ok h0
    have HZ := Lib.hid h0
    have HOK := Lib.hid hok
    rw [h0]
    clear h0 hok
    by_cases hkn : k = n
    · subst hkn
      have HCT : Hid (sc = if (List.range k).any (outS l gs) = true then 4 else 0) := Lib.hid (by
        rw [HSC.out]
        unfold spareCheck
        rw [if_neg (by rw [HZ.out]; simp), if_neg (by rw [HL.out, HG.out]; simp), HG.out])
      go_wp2_with fail
      clear c0 c1
      go_loopw [8, 7] (fun s8 s7 wr => ∃ q : Nat, q ≤ k ∧ s8 = .int .i64 q ∧ s7 = .int .i64 (if (List.range q).any (outS l gs) = true then 4 else 0) ∧ Below w.heap.size w wr ∧ Blk wr w.heap.size 48 #[.int .i64 M, .slice A k c] ∧ ((List.range q).any (outS l gs) = true → (List.range k).any (outS l gs) = true)) (fun s8 _ _ => k - (intOf s8).toNat)
      case atStart => exact ⟨0, by omega, rfl, rfl, HB2.out, HK2.out, fun h => by cases h⟩
      case round =>
        clear HB2 HK2
        rename World => wr
        obtain ⟨q, hq, rfl, rfl, hb, hk0, hany⟩ := hrel
        have HB := Lib.hid hb
        have HK := Lib.hid hk0
        have HANY := Lib.hid hany
        have c0 := hk0.cell 0
        have c1 := hk0.cell 1
        have hzr := hb.size
        have hltr := hk0.lt
        clear hb hk0 hany
        rcases bool_cs ((List.range q).any (outS l gs)) with hbad | hbad
        · rw [hbad]
          have HNO := Lib.hid hbad
          clear hbad
          by_cases hlt : q < k
          · have hqL : q < l.length := by rw [HL.out]; exact hlt
            have hqg : q < gs.length := by rw [HG.out]; exact hlt
            obtain ⟨ba, oa, rfl, hba, a0, a1, a2, a3⟩ := (HR.out.below HB.out).at4 (k := q) hqL
            obtain ⟨bg, og, rfl, hbg, g0⟩ := (HRG.out.below HB.out).at1 (k := q) hqg
            rw [← getD_at l q hqL arc0] at a0 a1 a2 a3
            rw [← getD_at gs q hqg 0] at g0
            have hout : outS l gs q = (decide (gs.getD q 0 < 0) || decide ((l.getD q arc0).m < gs.getD q 0)) := rfl
            obtain ⟨am, ham⟩ : ∃ am, am = (l.getD q arc0).m := ⟨_, rfl⟩
            obtain ⟨g, hgg⟩ : ∃ g, g = gs.getD q 0 := ⟨_, rfl⟩
            rw [← ham] at a2 hout
            rw [← hgg] at g0 hout
            have HOUT := Lib.hid hout
            clear ham hgg hout hqL hqg
            by_cases h1 : g < 0
            · have hd1 : decide (g < 0) = true := decide_eq_true h1
              have HE : Hid ((List.range (q + 1)).any (outS l gs) = true) := Lib.hid (by rw [any_range_succ, HOUT.out, hd1]; simp)
              have HE2 : Hid ((List.range k).any (outS l gs) = true) := Lib.hid (any_range_of hlt (by rw [HOUT.out, hd1]; rfl))
              go_wp2_with fail
              go_big_quiet (fail)
              go_wp2_with fail
              go_roundw
              case rel => exact ⟨q + 1, by omega, by go_num, by rw [HE.out, if_pos rfl], below_drewN HB.out _, HK.out.drewN _, fun _ => HE2.out⟩
              case measure => simp [intOf]; omega
            · have hd1 : decide (g < 0) = false := decide_eq_false h1
              by_cases h2 : am < g
              · have hd2 : decide (am < g) = true := decide_eq_true h2
                have HE : Hid ((List.range (q + 1)).any (outS l gs) = true) := Lib.hid (by rw [any_range_succ, HOUT.out, hd2]; simp)
                have HE2 : Hid ((List.range k).any (outS l gs) = true) := Lib.hid (any_range_of hlt (by rw [HOUT.out, hd2]; simp))
                go_wp2_with fail
                go_big_quiet (fail)
                go_wp2_with fail
                go_roundw
                case rel => exact ⟨q + 1, by omega, by go_num, by rw [HE.out, if_pos rfl], below_drewN HB.out _, HK.out.drewN _, fun _ => HE2.out⟩
                case measure => simp [intOf]; omega
              · have hd2 : decide (am < g) = false := decide_eq_false h2
                have HE : Hid ((List.range (q + 1)).any (outS l gs) = false) := Lib.hid (by rw [any_range_succ, HNO.out, HOUT.out, hd1, hd2]; rfl)
                go_wp2_with fail
                go_big_quiet (fail)
                go_wp2_with fail
                go_roundw
                case rel => exact ⟨q + 1, by omega, by go_num, by rw [HE.out, if_neg (by simp)], below_drewN HB.out _, HK.out.drewN _, fun h => by rw [HE.out] at h; cases h⟩
                case measure => simp [intOf]; omega
          · obtain rfl : q = k := by omega
            have hsc0 : sc = 0 := by rw [HCT.out, HNO.out, if_neg (by simp)]
            subst hsc0
            have HCH := Lib.hid (ref_Cheaper M A q c l GA cg gs wr HL.out HOK.out HG.out (fun i hi => by
              have := List.any_eq_false.1 HNO.out i (List.mem_range.2 hi)
              unfold outS at this
              simp only [Bool.or_eq_true, decide_eq_true_eq] at this
              omega) ((HR.out.below HB.out).more hzr) ((HRG.out.below HB.out).more hzr))
            have hsm : floM M M (cheapM l gs (2 * q)) = sb := by rw [HSB.out, spare_same HSC.out.symm, HL.out]
            rw [hsm] at HCH
            clear hsm
            go_wp2_with fail
            refine HCH.out.mono ?_
            clear HCH
            rintro e v5 ⟨rfl, hb5⟩
            have HB5 := Lib.hid (HB.out.trans (hb5.mono hzr))
            clear hb5
            have hself : (sb == sb) = true := by simp
            go_wp2_with fail
            go_ret
            exact ⟨by first | trivial | simp, HB5.out⟩
        · rw [hbad]
          have hsc4 : sc = 4 := by rw [HCT.out, HANY.out hbad, if_pos rfl]
          have hsb0 : sb = false := by rw [HSB.out]; exact spareB_no (HSC.out.symm.trans hsc4) (by decide)
          subst hsc4 hsb0
          clear hbad
          go_wp2_with fail
          all_goals
            go_ret
            exact ⟨by first | trivial | simp, HB.out⟩
    · have hsc3 : sc = 3 := by
        rw [HSC.out]
        unfold spareCheck
        rw [if_neg (by rw [HZ.out]; simp), if_pos (by rw [HL.out, HG.out]; exact hkn)]
      have hsb0 : sb = false := by rw [HSB.out]; exact spareB_no (HSC.out.symm.trans hsc3) (by decide)
      subst hsc3 hsb0
      have hknb : ((k : Int) != (n : Int)) = true := by simp; omega
      go_wp2_with fail
      go_loopw [8, 7] (fun s8 s7 wr => s8 = .int .i64 0 ∧ s7 = .int .i64 3 ∧ v2 = wr) (fun s8 _ _ => 0)
      case atStart => exact ⟨rfl, rfl, rfl⟩
      case round =>
        rename World => wr
        obtain ⟨rfl, rfl, rfl⟩ := hrel
        go_wp2_with fail
        all_goals
          go_ret
          exact ⟨by first | trivial | simp, HB2.out⟩
  · have hsc : sc = netCheck N l := by rw [HSC.out]; unfold spareCheck; rw [if_pos h0]
    have hsb0 : sb = false := by rw [HSB.out]; exact spareB_no (HSC.out.symm.trans hsc) h0
    subst hsb0
    have HX := Lib.hid hsc
    obtain ⟨x, hx⟩ : ∃ x, x = netCheck N l := ⟨_, rfl⟩
    rw [← hx] at hsc h0 ⊢
    subst hsc
    have hx0 : (sc == 0) = false := by simpa using h0
    have hx1 : (sc != 0) = true := by simpa using h0
    have hx2 : (sc == sc) = true := by simp
    clear hx h0
    go_wp2_with fail
    go_loopw [8, 7] (fun s8 s7 wr => s8 = .int .i64 0 ∧ s7 = .int .i64 sc ∧ v2 = wr) (fun s8 _ _ => 0)
    case atStart => exact ⟨rfl, rfl, rfl⟩
    case round =>
      rename World => wr
      obtain ⟨rfl, rfl, rfl⟩ := hrel
      go_wp2_with fail
      all_goals
        go_ret
        exact ⟨by first | trivial | simp, HB2.out⟩
theorem FeeSpares_row (N : Int) (C : Sls (Int × Int × Int × Int)) (D : Sls Int) (w : World) (_hN : OkI N) (h : C.Good w w.heap.size 4 (fun p => [.int .i64 p.1, .int .i64 p.2.1, .int .i64 p.2.2.1, .int .i64 p.2.2.2]) (fun p => OkI p.1 ∧ OkI p.2.1 ∧ OkI p.2.2.1 ∧ OkI p.2.2.2)) (hD : D.Good w w.heap.size 1 icell OkI) :
    Calls Try.prog 7 #[.agg #[.int .i64 N, C.val], D.val] w fun e w' => e = .returned (.bool true) ∧ Below w.heap.size w w' :=
  law_FeeSpares N C.A C.l.length C.c (C.l.map Arc.of) D.A D.l.length D.c D.l w (by simp) h.1 rfl hD.1 (h.2.2.1.map_ Arc.of fun _ _ => rfl) hD.2.2.1
end Go.Proofs.Ytpinhmhempbmoaa
