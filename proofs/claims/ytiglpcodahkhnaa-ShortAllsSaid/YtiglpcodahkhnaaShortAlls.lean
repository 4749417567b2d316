/- The law ShortAlls. Conditions: the arcs read as a list. -/
import Derived.Test.YtiglpcodahkhnaaReachE
import Derived.Test.YtiglpcodahkhnaaOpen
namespace Go.Proofs.Ytiglpcodahkhnaa
open Go.RowKit

theorem allErr_five {l : List Arc} {N s : Nat} (h0 : netCheck (N : Int) l = 0) (hs : s < N) (h : fromOk l N s = false) : allErr (N : Int) l = 5 := by
  unfold allErr
  rw [if_pos h0, Int.toNat_natCast, allOk_not hs h]
  rfl
theorem allErr_zero {l : List Arc} {N : Nat} (h0 : netCheck (N : Int) l = 0) (h : ∀ i, i < N → fromOk l N i = true) : allErr (N : Int) l = 0 := by
  unfold allErr
  rw [if_pos h0, Int.toNat_natCast, allOk_take h]
  rfl
set_option maxRecDepth 100000 in
set_option maxHeartbeats 2000000 in
theorem law_ShortAlls (N : Int) (A : Option Addr) (n c : Nat) (l : List Arc) (w : World) (hl : l.length = n) (hn : n ≤ maxLen) (hr : Els w w.heap.size 4 Arc.cells A l) :
    Calls Try.prog 5 #[.agg #[.int .i64 N, .slice A n c]] w fun e w' => e = .returned (.bool true) ∧ Below w.heap.size w w' := by
  have HB0 := Lib.hid ((Below.refl w.heap.size w).alloc (Nat.le_refl _) (.cells #[.int .i64 N, .slice A n c] 31))
  have hW1 : (w.alloc (.cells #[.int .i64 N, .slice A n c] 31)).heap.size = w.heap.size + 1 := size_alloc' _ _
  have HK0 := Lib.hid (Blk.new w 31 #[.int .i64 N, .slice A n c])
  have HF : Hid (∀ v : World, Below w.heap.size w v → Calls Try.prog 24 #[.agg #[.int .i64 N, .slice A n c]] v fun e w' => ∃ A1 A2 n1 c1 n2 c2, e = .returned (.tuple #[.slice A1 n1 c1, .slice A2 n2 c2, .int .i64 (allErr N l)]) ∧ Below v.heap.size v w' ∧
      (allErr N l ≠ 0 → n1 = 0 ∧ n2 = 0) ∧ (allErr N l = 0 → (n1 : Int) = N ∧ (n2 : Int) = N ∧ ∃ L6 L7, L6.length = n1 ∧ Els w' w'.heap.size 1 (rowN n1) A1 L6 ∧ Els w' w'.heap.size 1 (rowN n1) A2 L7 ∧ RowsAt w' v.heap.size n1 l L6 L7)) := Lib.hid (fun v hb =>
    short_All N A n c l v hl hn ((hr.below hb).more hb.size))
  have HN : Hid (∀ v : World, Below w.heap.size w v → Calls Try.prog 25 #[.agg #[.int .i64 N, .slice A n c]] v fun e w' => e = .returned (.int .i64 (netCheck N l)) ∧ Below v.heap.size v w') := Lib.hid (fun v hb =>
    ref_NetCheck N A n c l v hl hn ((hr.below hb).more hb.size))
  by_cases h0 : netCheck N l = 0
  · obtain ⟨N', rfl, h2, h3, h4⟩ := net_good h0
    have HS : Hid (∀ (s : Nat) (v : World), s < N' → Below w.heap.size w v → Calls Try.prog 20 #[.agg #[.int .i64 N', .slice A n c], .int .i64 s] v fun e w' => e = .returned (.bool (!fromOk l N' s)) ∧ Below v.heap.size v w') := Lib.hid (fun s v hs hb =>
      ref_Sinks N' s A n c l v hl h4 h2 (by omega) hs ((hr.below hb).more hb.size))
    have HR : Hid (∀ (s : Nat) (v : World), s < N' → Below w.heap.size w v → Calls Try.prog 21 #[.agg #[.int .i64 N', .slice A n c], .int .i64 s] v fun e w' => ∃ A1 c1 A2 c2, e = .returned (.tuple #[.slice A1 N' c1, .slice A2 N' c2]) ∧ Below v.heap.size v w' ∧ Els w' w'.heap.size 1 icell A1 (farL (refO l N' s N')) ∧ Els w' w'.heap.size 1 bcell A2 (thereL (refO l N' s N'))) := Lib.hid (fun s v hs hb =>
      law_reach N' s A n c l v hl h4 h2 (by omega) hs ((hr.below hb).more hb.size))
    have H5 := Lib.hid (fun (s : Nat) (hs : s < N') (h : fromOk l N' s = false) => allErr_five h0 hs h)
    have H0 := Lib.hid (fun (h : ∀ i, i < N' → fromOk l N' i = true) => allErr_zero h0 h)
    rw [h0] at HN
    clear hl hn hr h3 h4 h0
    go_enter Try.func5, Try.ntmps5
    go_wp2_with fail
    refine (HF.out _ HB0.out).mono ?_
    clear HF
    rintro e v1 ⟨A1, A2, n1, k1, n2, k2, rfl, hb1, hbad, hgood⟩
    have HB1 := Lib.hid (HB0.out.trans (hb1.mono HB0.out.size))
    have hk1 := HK0.out.below hb1 (by rw [hW1]; omega)
    have c0 := hk1.cell 0
    have c1 := hk1.cell 1
    have HK1 := Lib.hid hk1
    have HBAD := Lib.hid hbad
    have HGOOD := Lib.hid hgood
    clear hb1 hk1 HB0 HK0 hbad hgood hW1
    obtain ⟨er, her⟩ : ∃ er, er = allErr (N' : Int) l := ⟨_, rfl⟩
    rw [← her] at HBAD HGOOD H5 H0 ⊢
    have HER := Lib.hid her
    clear her
    go_wp2_with fail
    refine (HN.out _ HB1.out).mono ?_
    clear HN
    rintro e v2 ⟨rfl, hb2⟩
    have HB2 := Lib.hid (HB1.out.trans (hb2.mono HB1.out.size))
    have HV2 := Lib.hid hb2
    have HK2 := Lib.hid (HK1.out.below hb2 HK1.out.lt)
    clear hb2 HB1 HK1 c0 c1
    go_wp2_with fail
    go_loopw [7, 6] (fun s7 s6 wr => ∃ k : Nat, k ≤ N' ∧ s7 = .int .i64 k ∧ Below w.heap.size w wr ∧ Below v1.heap.size v1 wr ∧ Blk wr w.heap.size 31 #[.int .i64 N', .slice A n c] ∧ ((s6 = .int .i64 0 ∧ ∀ i, i < k → fromOk l N' i = true) ∨ (s6 = .int .i64 5 ∧ er = 5))) (fun s7 s6 _ => N' - (intOf s7).toNat)
    case atStart => exact ⟨0, by omega, rfl, HB2.out, HV2.out, HK2.out, .inl ⟨rfl, fun i hi => by omega⟩⟩
    case round =>
      clear HB2 HV2 HK2
      rename World => wr
      obtain ⟨k, hk, rfl, hb, hv, hk0, hor⟩ := hrel
      have HB := Lib.hid hb
      have HV := Lib.hid hv
      have HK := Lib.hid hk0
      have hz := hb.size
      have hzk := hk0.lt
      have c0 := hk0.cell 0
      have c1 := hk0.cell 1
      clear hb hv hk0
      rcases hor with ⟨rfl, hall⟩ | ⟨rfl, her5⟩
      · have HALL := Lib.hid hall
        clear hall
        by_cases hlt : k < N'
        · have HS1 := Lib.hid (HS.out k wr hlt HB.out)
          go_wp2_with fail
          refine HS1.out.mono ?_
          clear HS1
          rintro e v3 ⟨rfl, hb3⟩
          have HB3 := Lib.hid (HB.out.trans (hb3.mono hz))
          have HV3 := Lib.hid (HV.out.trans (hb3.mono HV.out.size))
          have HK3 := Lib.hid (HK.out.below hb3 hzk)
          clear hb3 c0 c1
          obtain ⟨ok, hok⟩ : ∃ ok, ok = fromOk l N' k := ⟨_, rfl⟩
          rw [← hok]
          have HOK := Lib.hid hok
          clear hok
          cases ok with
          | true =>
            go_wp2_with fail
            go_roundw
            case rel => exact ⟨k + 1, by omega, by go_num, HB3.out, HV3.out, HK3.out, .inl ⟨rfl, fun i hi => by
              rcases Nat.lt_succ_iff_lt_or_eq.1 hi with h | h
              · exact HALL.out i h
              · rw [h]; exact HOK.out.symm⟩⟩
            case measure => simp [intOf]; omega
          | false =>
            go_wp2_with fail
            go_roundw
            case rel => exact ⟨k + 1, by omega, by go_num, HB3.out, HV3.out, HK3.out, .inr ⟨rfl, H5.out k hlt HOK.out.symm⟩⟩
            case measure => simp [intOf]; omega
        · obtain rfl : k = N' := by omega
          obtain rfl := H0.out HALL.out
          obtain ⟨e1, e2, L6, L7, hL6, e6, e7, hrows⟩ := HGOOD.out rfl
          obtain rfl : k = n1 := by omega
          obtain rfl : k = n2 := by omega
          have hL7 : L7.length = k := by rw [← hrows.1]; exact hL6
          have HL6 := Lib.hid hL6
          have HL7 := Lib.hid hL7
          have HE6 := Lib.hid e6
          have HE7 := Lib.hid e7
          have HRW := Lib.hid hrows
          clear HGOOD HBAD H0 H5 HS e1 e2 hL6 hL7 e6 e7 hrows HER
          go_wp2_with fail
          clear c0 c1
          go_loopw [8] (fun s8 w5 => ∃ q : Nat, q ≤ k ∧ s8 = .int .i64 q ∧ Below w.heap.size w w5 ∧ Below v1.heap.size v1 w5 ∧ Blk w5 w.heap.size 31 #[.int .i64 k, .slice A n c]) (fun s8 _ => k - (intOf s8).toNat)
          case atStart => exact ⟨0, by omega, rfl, HB.out, HV.out, HK.out⟩
          case round =>
            clear HB HV HK
            rename World => w5
            obtain ⟨q, hq, rfl, hb, hv, hk0⟩ := hrel
            have HB := Lib.hid hb
            have HV := Lib.hid hv
            have HK := Lib.hid hk0
            have hz := hb.size
            have hzk := hk0.lt
            have c0 := hk0.cell 0
            have c1 := hk0.cell 1
            clear hb hv hk0
            by_cases hlt2 : q < k
            · have HR1 := Lib.hid (HR.out q w5 hlt2 HB.out)
              go_wp2_with fail
              refine HR1.out.mono ?_
              clear HR1
              rintro e w6 ⟨A3, c3, A4, c4, rfl, hb6, e5, e6⟩
              have HB6 := Lib.hid (HB.out.trans (hb6.mono hz))
              have HV6 := Lib.hid (HV.out.trans (hb6.mono HV.out.size))
              have HK6 := Lib.hid (HK.out.below hb6 hzk)
              have hq6 : q < L6.length := by rw [HL6.out]; exact hlt2
              have hq7 : q < L7.length := by rw [HL7.out]; exact hlt2
              obtain ⟨b6, o6, rfl, _, g6⟩ := (HE6.out.below HV6.out).at1 (f := fun A => .slice A k k) hq6
              obtain ⟨b7, o7, rfl, _, g7⟩ := (HE7.out.below HV6.out).at1 (f := fun A => .slice A k k) hq7
              obtain ⟨_, r6, r7⟩ := HRW.out.2 q hq6
              rw [getD_at L6 q hq6 none] at r6
              rw [getD_at L7 q hq7 none] at r7
              generalize L6[q] = X6 at g6 r6
              generalize L7[q] = X7 at g7 r7
              have hlen : (refO l k q k).length = k := refO_length _ _ _ _
              have HL := Lib.hid (Longs_any X6 A3 k k c3 _ _ _ _ w6 (by rw [farL_length, hlen]) (by rw [farL_length, hlen]) (by unfold maxLen; omega) (r6.els.below HV6.out) e5)
              have HM : Hid (∀ m, Calls Try.prog 23 #[.slice X7 k k, .slice A4 k c4] (w6.drewN m) fun e w' => e = .returned (.bool (decide (thereL (refO l k q k) = thereL (refO l k q k)))) ∧ ∃ p, w' = (w6.drewN m).drewN p) := Lib.hid (fun m => bools_any X7 A4 k k c4 _ _ v1.heap.size w6.heap.size (w6.drewN m) (by rw [thereL_length, hlen]) (by rw [thereL_length, hlen]) (by unfold maxLen; omega) ((r7.els.below HV6.out).drewN m) (e6.drewN m))
              have G7 : ∀ m, (w6.drewN m).cell? ⟨b7, o7 + q, none⟩ = some (.slice X7 k k) := fun m => g7
              clear hb6 e5 e6 r6 r7 c0 c1 hlen hq6 hq7
              go_wp2_with fail
              refine HL.out.mono ?_
              clear HL
              rintro e v5 ⟨rfl, m, rfl⟩
              try simp only [decide_true]
              have g8 := G7 m
              clear G7
              go_wp2_with fail
              refine (HM.out m).mono ?_
              clear HM
              rintro e v6 ⟨rfl, p, rfl⟩
              try simp only [decide_true]
              go_wp2_with fail
              go_roundw
              case rel => exact ⟨q + 1, by omega, by go_num, below_drewN HB6.out _, below_drewN HV6.out _, HK6.out.drewN _⟩
              case measure => simp [intOf]; omega
            · obtain rfl : q = k := by omega
              go_wp2_with fail
              go_ret
              exact ⟨rfl, HB.out⟩
      · subst her5
        obtain ⟨rfl, rfl⟩ := HBAD.out (by omega)
        clear HGOOD HBAD H0 H5 HER
        by_cases hlt : k < N'
        · go_wp2_with fail
          go_ret
          exact ⟨rfl, HB.out⟩
        · go_wp2_with fail
          go_ret
          exact ⟨rfl, HB.out⟩
  · have hfe : allErr N l = netCheck N l := if_neg h0
    rw [hfe] at HF
    have h1 : (netCheck N l != 0) = true := by simpa using h0
    have h2 : (netCheck N l == 0) = false := by simpa using h0
    have h3 : (netCheck N l == netCheck N l) = true := by simp
    generalize netCheck N l = x at HF HN h0 h1 h2 h3
    clear hl hn hr hfe
    go_enter Try.func5, Try.ntmps5
    go_wp2_with fail
    refine (HF.out _ HB0.out).mono ?_
    clear HF
    rintro e v1 ⟨A1, A2, n1, k1, n2, k2, rfl, hb1, hbad, _⟩
    obtain ⟨rfl, rfl⟩ := hbad h0
    have HB1 := Lib.hid (HB0.out.trans (hb1.mono HB0.out.size))
    have hk1 := HK0.out.below hb1 (by rw [hW1]; omega)
    have c0 := hk1.cell 0
    have c1 := hk1.cell 1
    have HK1 := Lib.hid hk1
    clear hb1 hk1 HB0 HK0 hbad h0
    go_wp2_with fail
    refine (HN.out _ HB1.out).mono ?_
    clear HN
    rintro e v2 ⟨rfl, hb2⟩
    have HB2 := Lib.hid (HB1.out.trans (hb2.mono HB1.out.size))
    have hk2 := HK1.out.below hb2 HK1.out.lt
    have c0 := hk2.cell 0
    clear hb2 HB1 hk2 HK1
    go_wp2_with fail
    go_loopw [7, 6] (fun s7 s6 wr => s7 = .int .i64 0 ∧ s6 = .int .i64 x ∧ wr = v2) (fun _ _ _ => 0)
    case atStart => exact ⟨rfl, rfl, rfl⟩
    case round =>
      obtain ⟨rfl, rfl, rfl⟩ := hrel
      by_cases hN : (0 : Int) < N
      · go_wp2_with fail
        go_ret
        exact ⟨rfl, HB2.out⟩
      · go_wp2_with fail
        go_ret
        exact ⟨rfl, HB2.out⟩
theorem ShortAlls_row (N : Int) (C : Sls (Int × Int × Int × Int)) (w : World) (_hN : OkI N) (h : C.Good w w.heap.size 4 (fun p => [.int .i64 p.1, .int .i64 p.2.1, .int .i64 p.2.2.1, .int .i64 p.2.2.2]) (fun p => OkI p.1 ∧ OkI p.2.1 ∧ OkI p.2.2.1 ∧ OkI p.2.2.2)) :
    Calls Try.prog 5 #[.agg #[.int .i64 N, C.val]] w fun e w' => e = .returned (.bool true) ∧ Below w.heap.size w w' :=
  law_ShortAlls N C.A C.l.length C.c (C.l.map Arc.of) w (by simp) h.1 (h.2.2.1.map_ Arc.of fun _ _ => rfl)
end Go.Proofs.Ytiglpcodahkhnaa
