/- The law ShortFars. Conditions: the arcs read as a list. -/
import Derived.Test.YtiglpcodahkhnaaReachD
import Derived.Test.YtiglpcodahkhnaaOpen
namespace Go.Proofs.Ytiglpcodahkhnaa
open Go.RowKit

set_option maxRecDepth 100000 in
set_option maxHeartbeats 2000000 in
theorem law_ShortFars (N s : Int) (A : Option Addr) (n c : Nat) (l : List Arc) (w : World) (hl : l.length = n) (hn : n ≤ maxLen) (hr : Els w w.heap.size 4 Arc.cells A l) :
    Calls Try.prog 4 #[.agg #[.int .i64 N, .slice A n c], .int .i64 s] w fun e w' => e = .returned (.bool true) ∧ Below w.heap.size w w' := by
  have HB0 := Lib.hid ((Below.refl w.heap.size w).alloc (Nat.le_refl _) (.cells #[.int .i64 N, .slice A n c] 31))
  have hW1 : (w.alloc (.cells #[.int .i64 N, .slice A n c] 31)).heap.size = w.heap.size + 1 := size_alloc' _ _
  have HK0 := Lib.hid (Blk.new w 31 #[.int .i64 N, .slice A n c])
  have HF : Hid (∀ v : World, Below w.heap.size w v → Calls Try.prog 18 #[.agg #[.int .i64 N, .slice A n c], .int .i64 s] v fun e w' => ∃ A1 A2 n1 n2, e = .returned (.tuple #[.slice A1 n1 n1, .slice A2 n2 n2, .int .i64 (farErr N l s)]) ∧ Below v.heap.size v w' ∧
      (farErr N l s ≠ 0 → n1 = 0 ∧ n2 = 0) ∧ (farErr N l s = 0 → (n1 : Int) = N ∧ (n2 : Int) = N ∧ Els w' w'.heap.size 1 icell A1 (farL (refO l N.toNat s.toNat N.toNat)) ∧ Els w' w'.heap.size 1 bcell A2 (thereL (refO l N.toNat s.toNat N.toNat)))) := Lib.hid (fun v hb =>
    short_Far N s A n c l v hl hn ((hr.below hb).more hb.size))
  have HN : Hid (∀ v : World, Below w.heap.size w v → Calls Try.prog 19 #[.agg #[.int .i64 N, .slice A n c], .int .i64 s] v fun e w' => e = .returned (.int .i64 (nodeP N l s)) ∧ Below v.heap.size v w') := Lib.hid (fun v hb =>
    law_nodeCheck N s A n c l v hl hn ((hr.below hb).more hb.size))
  by_cases h0 : nodeP N l s = 0
  · obtain ⟨N', s', rfl, rfl, h1, h2, h3, h4⟩ := node_zero h0
    have HS : Hid (∀ v : World, Below w.heap.size w v → Calls Try.prog 20 #[.agg #[.int .i64 N', .slice A n c], .int .i64 s'] v fun e w' => e = .returned (.bool (!fromOk l N' s')) ∧ Below v.heap.size v w') := Lib.hid (fun v hb =>
      ref_Sinks N' s' A n c l v hl h4 h2 (by omega) h1 ((hr.below hb).more hb.size))
    have HR : Hid (∀ v : World, Below w.heap.size w v → Calls Try.prog 21 #[.agg #[.int .i64 N', .slice A n c], .int .i64 s'] v fun e w' => ∃ A1 c1 A2 c2, e = .returned (.tuple #[.slice A1 N' c1, .slice A2 N' c2]) ∧ Below v.heap.size v w' ∧ Els w' w'.heap.size 1 icell A1 (farL (refO l N' s' N')) ∧ Els w' w'.heap.size 1 bcell A2 (thereL (refO l N' s' N'))) := Lib.hid (fun v hb =>
      law_reach N' s' A n c l v hl h4 h2 (by omega) h1 ((hr.below hb).more hb.size))
    have hfe : farErr (N' : Int) l (s' : Int) = if fromOk l N' s' = true then 0 else 5 := if_pos h0
    rw [h0] at HN
    clear hl hn hr h3 h4 h0
    have hlen : (refO l N' s' N').length = N' := refO_length _ _ _ _
    simp only [Int.toNat_natCast] at HF
    obtain ⟨O, hO⟩ : ∃ O, O = refO l N' s' N' := ⟨_, rfl⟩
    rw [← hO] at HR HF hlen
    have HLN := Lib.hid hlen
    obtain ⟨ok, hok⟩ : ∃ ok, ok = fromOk l N' s' := ⟨_, rfl⟩
    rw [← hok] at HS hfe
    obtain ⟨fe, hfe2⟩ : ∃ fe, fe = farErr (N' : Int) l (s' : Int) := ⟨_, rfl⟩
    rw [← hfe2] at HF hfe
    clear hO hok hfe2 hlen
    go_enter Try.func4, Try.ntmps4
    go_wp2_with fail
    refine (HF.out _ HB0.out).mono ?_
    clear HF
    rintro e v1 ⟨A1, A2, n1, n2, rfl, hb1, hbad, hgood⟩
    have HB1 := Lib.hid (HB0.out.trans (hb1.mono HB0.out.size))
    have hk1 := HK0.out.below hb1 (by rw [hW1]; omega)
    have c0 := hk1.cell 0
    have c1 := hk1.cell 1
    have HK1 := Lib.hid hk1
    clear hb1 hk1 HB0 HK0
    cases ok with
    | false =>
      simp only [Bool.false_eq_true, if_false] at hfe
      subst hfe
      obtain ⟨rfl, rfl⟩ := hbad (by omega)
      clear hgood HR hbad
      go_wp2_with fail
      refine (HN.out _ HB1.out).mono ?_
      clear HN
      rintro e v2 ⟨rfl, hb2⟩
      have HB2 := Lib.hid (HB1.out.trans (hb2.mono HB1.out.size))
      have hk2 := HK1.out.below hb2 HK1.out.lt
      have c0 := hk2.cell 0
      have c1 := hk2.cell 1
      clear hb2 hk2 HB1 HK1
      go_wp2_with fail
      refine (HS.out _ HB2.out).mono ?_
      clear HS
      rintro e v3 ⟨rfl, hb3⟩
      have HB3 := Lib.hid (HB2.out.trans (hb3.mono HB2.out.size))
      clear hb3
      go_wp2_with fail
      go_ret
      exact ⟨rfl, HB3.out⟩
    | true =>
      simp only [if_true] at hfe
      subst hfe
      obtain ⟨e1, e2, e3, e4⟩ := hgood rfl
      obtain rfl : N' = n1 := by omega
      obtain rfl : N' = n2 := by omega
      have HE3 := Lib.hid e3
      have HE4 := Lib.hid e4
      clear hgood hbad e1 e2 e3 e4
      go_wp2_with fail
      refine (HN.out _ HB1.out).mono ?_
      clear HN
      rintro e v2 ⟨rfl, hb2⟩
      have HB2 := Lib.hid (HB1.out.trans (hb2.mono HB1.out.size))
      have HV2 := Lib.hid hb2
      have hk2 := HK1.out.below hb2 HK1.out.lt
      have c0 := hk2.cell 0
      have c1 := hk2.cell 1
      have HK2 := Lib.hid hk2
      clear hb2 hk2 HB1 HK1
      go_wp2_with fail
      refine (HS.out _ HB2.out).mono ?_
      clear HS
      rintro e v3 ⟨rfl, hb3⟩
      have HB3 := Lib.hid (HB2.out.trans (hb3.mono HB2.out.size))
      have HV3 := Lib.hid (HV2.out.trans (hb3.mono HV2.out.size))
      have hk3 := HK2.out.below hb3 HK2.out.lt
      have c0 := hk3.cell 0
      have c1 := hk3.cell 1
      clear hb3 hk3 HB2 HK2 HV2
      go_wp2_with fail
      refine (HR.out _ HB3.out).mono ?_
      clear HR
      rintro e v4 ⟨A3, c3, A4, c4, rfl, hb4, e5, e6⟩
      have HB4 := Lib.hid (HB3.out.trans (hb4.mono HB3.out.size))
      have HV4 := Lib.hid (HV3.out.trans (hb4.mono HV3.out.size))
      have HL := Lib.hid (Longs_any A1 A3 N' N' c3 _ _ _ _ v4 (by rw [farL_length, HLN.out]) (by rw [farL_length, HLN.out]) (by unfold maxLen; omega) (HE3.out.below HV4.out) e5)
      have HM : Hid (∀ m, Calls Try.prog 23 #[.slice A2 N' N', .slice A4 N' c4] (v4.drewN m) fun e w' => e = .returned (.bool (decide (thereL O = thereL O))) ∧ ∃ q, w' = (v4.drewN m).drewN q) := Lib.hid (fun m => bools_any A2 A4 N' N' c4 _ _ v1.heap.size v4.heap.size (v4.drewN m) (by rw [thereL_length, HLN.out]) (by rw [thereL_length, HLN.out]) (by unfold maxLen; omega) ((HE4.out.below HV4.out).drewN m) (e6.drewN m))
      clear hb4 e5 e6
      go_wp2_with fail
      refine HL.out.mono ?_
      clear HL
      rintro e v5 ⟨rfl, m, rfl⟩
      try simp only [decide_true]
      go_wp2_with fail
      refine (HM.out m).mono ?_
      clear HM
      rintro e v6 ⟨rfl, q, rfl⟩
      try simp only [decide_true]
      go_wp2_with fail
      go_ret
      exact ⟨rfl, by first | exact below_drewN HB4.out _ | exact below_drewN (below_drewN HB4.out _) _⟩
  · have hfe : farErr N l s = nodeP N l s := if_neg h0
    rw [hfe] at HF
    have h1 : (nodeP N l s != 0) = true := by simpa using h0
    have h2 : (nodeP N l s == 0) = false := by simpa using h0
    have h3 : (nodeP N l s == nodeP N l s) = true := by simp
    generalize nodeP N l s = x at HF HN h0 h1 h2 h3
    clear hl hn hr hfe
    go_enter Try.func4, Try.ntmps4
    go_wp2_with fail
    refine (HF.out _ HB0.out).mono ?_
    clear HF
    rintro e v1 ⟨A1, A2, n1, n2, rfl, hb1, hbad, _⟩
    obtain ⟨rfl, rfl⟩ := hbad h0
    have HB1 := Lib.hid (HB0.out.trans (hb1.mono HB0.out.size))
    have hk1 := HK0.out.below hb1 (by rw [hW1]; omega)
    have c0 := hk1.cell 0
    have c1 := hk1.cell 1
    clear hb1 hk1 HB0 HK0 hbad h0
    go_wp2_with fail
    refine (HN.out _ HB1.out).mono ?_
    clear HN
    rintro e v2 ⟨rfl, hb2⟩
    have HB2 := Lib.hid (HB1.out.trans (hb2.mono HB1.out.size))
    clear hb2 HB1
    go_wp2_with fail
    go_ret
    exact ⟨rfl, HB2.out⟩
theorem ShortFars_row (N : Int) (C : Sls (Int × Int × Int × Int)) (s : Int) (w : World) (_hN : OkI N) (h : C.Good w w.heap.size 4 (fun p => [.int .i64 p.1, .int .i64 p.2.1, .int .i64 p.2.2.1, .int .i64 p.2.2.2]) (fun p => OkI p.1 ∧ OkI p.2.1 ∧ OkI p.2.2.1 ∧ OkI p.2.2.2)) (_hs : OkI s) :
    Calls Try.prog 4 #[.agg #[.int .i64 N, C.val], .int .i64 s] w fun e w' => e = .returned (.bool true) ∧ Below w.heap.size w w' :=
  law_ShortFars N s C.A C.l.length C.c (C.l.map Arc.of) w (by simp) h.1 (h.2.2.1.map_ Arc.of fun _ _ => rfl)
end Go.Proofs.Ytiglpcodahkhnaa
