/- The law ShortWays: both tell the same. Conditions: the arcs read as a list. -/
import Derived.Test.YtfaifadfilndmaaWayC
import Derived.Test.YtfaifadfilndmaaOpen
namespace Go.Proofs.Ytfaifadfilndmaa
open Go.RowKit

theorem wrong_nodes (N : Int) (l : List Arc) (s t : Int) : wrongP N l [s, t] = if nodeP N l s = 0 then nodeP N l t else nodeP N l s := by
  unfold wrongP nodeP
  by_cases h0 : netCheck N l = 0
  · rw [if_pos h0, if_pos h0, if_pos h0]
    have h1 : ([s, t].any (outB N) = true) ↔ ((s < 0 ∨ N ≤ s) ∨ (t < 0 ∨ N ≤ t)) := by simp [outB]
    by_cases hs : s < 0 ∨ N ≤ s
    · rw [if_pos hs, if_pos (h1.2 (.inl hs)), if_neg (by omega)]
    · rw [if_neg hs, if_pos rfl]
      by_cases ht : t < 0 ∨ N ≤ t
      · rw [if_pos ht, if_pos (h1.2 (.inr ht))]
      · rw [if_neg ht, if_neg (fun h => (h1.1 h).elim hs ht)]
  · rw [if_neg h0, if_neg h0, if_neg h0]

set_option maxRecDepth 100000 in
set_option maxHeartbeats 2000000 in
theorem law_ShortWays (N s t : Int) (A : Option Addr) (n c : Nat) (l : List Arc) (w : World) (hl : l.length = n) (hn : n ≤ maxLen) (hr : Els w w.heap.size 4 Arc.cells A l) :
    Calls Try.prog 5 #[.agg #[.int .i64 N, .slice A n c], .int .i64 s, .int .i64 t] w fun e w' => e = .returned (.bool true) ∧ Below w.heap.size w w' := by
  have HB0 := Lib.hid ((Below.refl w.heap.size w).alloc (Nat.le_refl _) (.cells #[.int .i64 N, .slice A n c] 34))
  have hW1 : (w.alloc (.cells #[.int .i64 N, .slice A n c] 34)).heap.size = w.heap.size + 1 := size_alloc' _ _
  have HK0 := Lib.hid (Blk.new w 34 #[.int .i64 N, .slice A n c])
  have HF : Hid (∀ v : World, Below w.heap.size w v → Calls Try.prog 16 #[.agg #[.int .i64 N, .slice A n c], .int .i64 s, .int .i64 t] v fun e w' => ∃ (A1 : Option Addr) (n1 c1 : Nat) (er : Int), e = .returned (.tuple #[.slice A1 n1 c1, .int .i64 er]) ∧ Below v.heap.size v w' ∧
      (wrongP N l [s, t] ≠ 0 → n1 = 0 ∧ er = wrongP N l [s, t]) ∧ (∀ N' s' t' : Nat, wrongP N l [s, t] = 0 → N = N' → s = s' → t = t' → (fromOk l N' s' = false ∨ og (refO l N' s' N') t' = none → n1 = 0 ∧ er = 5) ∧
        (fromOk l N' s' = true → ∀ x, og (refO l N' s' N') t' = some x → er = 0 ∧ WayIs l N' s' t' A1 n1 w'))) := Lib.hid (fun v hb =>
    short_Way N s t A n c l v hl hn ((hr.below hb).more hb.size))
  have HN : Hid (∀ (z : Int) (v : World), Below w.heap.size w v → Calls Try.prog 17 #[.agg #[.int .i64 N, .slice A n c], .int .i64 z] v fun e w' => e = .returned (.int .i64 (nodeP N l z)) ∧ Below v.heap.size v w') := Lib.hid (fun z v hb =>
    law_nodeCheck N z A n c l v hl hn ((hr.below hb).more hb.size))
  have HRW : Hid (∀ (M a b : Nat) (v : World), N = M → M ≤ 10 → l.length ≤ 30 → (∀ e ∈ l, GoodA M e) → a < M → b < M → Below w.heap.size w v → Calls Try.prog 18 #[.agg #[.int .i64 M, .slice A n c], .int .i64 a, .int .i64 b] v fun e w' => ∃ (A1 : Option Addr) (n1 c1 : Nat) (ok : Bool), e = .returned (.tuple #[.slice A1 n1 c1, .bool ok]) ∧ Below v.heap.size v w' ∧
      (fromOk l M a = false ∨ og (refO l M a M) b = none → n1 = 0 ∧ ok = false) ∧ (fromOk l M a = true → ∀ x, og (refO l M a M) b = some x → ok = true ∧ WayIs l M a b A1 n1 w')) := Lib.hid (fun M a b v _ h1 h2 h3 h4 h5 hb =>
    ref_Way M a b A n c l v hl h3 h1 (by omega) h4 h5 ((hr.below hb).more hb.size))
  have hwn := wrong_nodes N l s t
  have HWN := Lib.hid hwn
  clear hl hn hr hwn
  go_enter Try.func5, Try.ntmps5
  go_wp2_with fail
  refine (HF.out _ (by first | exact HB0.out | exact Below.refl _ _)).mono ?_
  clear HF
  rintro e v1 ⟨A1, n1, c1', er, rfl, hb1, hbad, hgood⟩
  have hz0 : w.heap.size ≤ (w.alloc (.cells #[.int .i64 N, .slice A n c] 34)).heap.size := by omega
  have HB1 := Lib.hid (HB0.out.trans (hb1.mono hz0))
  have hk1 := HK0.out.below hb1 (by rw [hW1]; omega)
  have HK1 := Lib.hid hk1
  have c0 := hk1.cell 0
  have c1 := hk1.cell 1
  have HBAD := Lib.hid hbad
  have HGOOD := Lib.hid hgood
  clear hb1 hk1 HB0 HK0 hbad hgood hW1 hz0
  have HNS := Lib.hid (HN.out s _ HB1.out)
  obtain ⟨x1, hx1⟩ : ∃ x, x = nodeP N l s := ⟨_, rfl⟩
  obtain ⟨x2, hx2⟩ : ∃ x, x = nodeP N l t := ⟨_, rfl⟩
  obtain ⟨x3, hx3⟩ : ∃ x, x = wrongP N l [s, t] := ⟨_, rfl⟩
  have hwn := HWN.out
  have HNT : Hid (∀ v : World, Below w.heap.size w v → Calls Try.prog 17 #[.agg #[.int .i64 N, .slice A n c], .int .i64 t] v fun e w' => e = .returned (.int .i64 (nodeP N l t)) ∧ Below v.heap.size v w') := Lib.hid (fun v hb => HN.out t v hb)
  rw [← hx1, ← hx2, ← hx3] at hwn
  rw [← hx1] at HNS
  rw [← hx2] at HNT
  rw [← hx3] at HBAD
  have HX1 := Lib.hid hx1
  have HX2 := Lib.hid hx2
  have HX3 := Lib.hid hx3
  clear hx1 hx2 hx3 HWN HN
  go_wp2_with fail
  refine HNS.out.mono ?_
  clear HNS
  rintro e v2 ⟨rfl, hb2⟩
  have HB2 := Lib.hid (HB1.out.trans (hb2.mono HB1.out.size))
  have hk2 := HK1.out.below hb2 HK1.out.lt
  have HK2 := Lib.hid hk2
  have HV2 := Lib.hid hb2
  clear c0 c1
  have c0 := hk2.cell 0
  have c1 := hk2.cell 1
  clear hb2 hk2 HK1
  by_cases h1 : x1 = 0
  · subst h1
    rw [if_pos rfl] at hwn
    subst hwn
    go_wp2_with fail
    refine (HNT.out _ HB2.out).mono ?_
    clear HNT
    rintro e v3 ⟨rfl, hb3⟩
    have HB3 := Lib.hid (HB2.out.trans (hb3.mono HB2.out.size))
    have hk3 := HK2.out.below hb3 HK2.out.lt
    have HV3 := Lib.hid (HV2.out.trans (hb3.mono HV2.out.size))
    clear c0 c1
    have c0 := hk3.cell 0
    have c1 := hk3.cell 1
    clear hb3 hk3 HK2 HV2
    by_cases h2 : x3 = 0
    · subst h2
      obtain ⟨M, a, b, rfl, rfl, rfl, haM, hbM, hM10, hn30, hg, _⟩ := wrong_two HX3.out.symm
      have HW := Lib.hid (HRW.out M a b v3 rfl hM10 hn30 hg haM hbM HB3.out)
      obtain ⟨hno, hyes⟩ := HGOOD.out M a b HX3.out.symm rfl rfl rfl
      have HNO := Lib.hid hno
      have HYES := Lib.hid hyes
      clear HGOOD HBAD HRW hno hyes hg
      go_wp2_with fail
      refine HW.out.mono ?_
      clear HW
      rintro e v4 ⟨A2, n2, c2, ok2, rfl, hb4, hno2, hyes2⟩
      have HB4 := Lib.hid (HB3.out.trans (hb4.mono HB3.out.size))
      have HV4 := Lib.hid (HV3.out.trans (hb4.mono HV3.out.size))
      have HNO2 := Lib.hid hno2
      have HYES2 := Lib.hid hyes2
      clear hb4 hno2 hyes2 HV3
      by_cases hq : fromOk l M a = false ∨ og (refO l M a M) b = none
      · obtain ⟨rfl, rfl⟩ := HNO.out hq
        obtain ⟨rfl, rfl⟩ := HNO2.out hq
        clear HNO HYES HNO2 HYES2 hq
        go_wp2_with fail
        go_ret
        exact ⟨rfl, HB4.out⟩
      · have hf : fromOk l M a = true := by
          rcases Bool.eq_false_or_eq_true (fromOk l M a) with h | h
          · exact h
          · exact absurd (.inl h) hq
        obtain ⟨x, hx⟩ : ∃ x, og (refO l M a M) b = some x := by
          cases h : og (refO l M a M) b with
          | none => exact absurd (.inr h) hq
          | some x => exact ⟨x, rfl⟩
        obtain ⟨rfl, k, hk, hn1, he1⟩ := HYES.out hf x hx
        obtain ⟨rfl, k2, hk2, hn2, he2⟩ := HYES2.out hf x hx
        obtain rfl := hk.same hk2
        have hkM : k ≤ 10 := by
          obtain ⟨j, hj, he⟩ := size_there (s := a) (t := b) (by
            have := wrong_two HX3.out.symm
            obtain ⟨M', _, _, e1, _, _, _, _, _, _, hg, _⟩ := this
            obtain rfl : M = M' := by omega
            exact hg) haM hbM hf hx
          have : ¬ j < k := fun h => hk.2 j h he
          omega
        have hlen := wayF_len l M b k a
        have HI := Lib.hid (Ints_same A1 A2 n1 c1' c2 (intsOf (wayF l M b k a)) v1.heap.size v4.heap.size v4 (by rw [intsOf, List.length_map]; exact hn1.symm) (by unfold maxLen; omega) (he1.below HV4.out) he2)
        have hnn : n2 = n1 := by rw [hn1, hn2]
        subst hnn
        clear HNO HYES HNO2 HYES2 hq hf hx hk hk2 hn1 hn2 he1 he2 hlen
        go_wp2_with fail
        refine HI.out.mono ?_
        clear HI
        rintro e v5 ⟨rfl, q, rfl⟩
        go_wp2_with fail
        go_ret
        exact ⟨rfl, below_drewN HB4.out q⟩
    · obtain ⟨rfl, rfl⟩ := HBAD.out h2
      have h3 : (er != 0) = true := by simpa using h2
      have h4 : (er == er) = true := by simp
      clear HBAD HGOOD h2
      go_wp2_with fail
      go_ret
      exact ⟨by simp, HB3.out⟩
  · rw [if_neg h1] at hwn
    subst hwn
    obtain ⟨rfl, rfl⟩ := HBAD.out h1
    have h3 : (er != 0) = true := by simpa using h1
    have h5 : (er == 0) = false := by simpa using h1
    have h4 : (er == er) = true := by simp
    clear HBAD HGOOD h1
    go_wp2_with fail
    go_ret
    exact ⟨by simp, HB2.out⟩
theorem ShortWays_row (N : Int) (C : Sls (Int × Int × Int × Int)) (s t : Int) (w : World) (_hN : OkI N) (h : C.Good w w.heap.size 4 (fun p => [.int .i64 p.1, .int .i64 p.2.1, .int .i64 p.2.2.1, .int .i64 p.2.2.2]) (fun p => OkI p.1 ∧ OkI p.2.1 ∧ OkI p.2.2.1 ∧ OkI p.2.2.2)) (_hs : OkI s) (_ht : OkI t) :
    Calls Try.prog 5 #[.agg #[.int .i64 N, C.val], .int .i64 s, .int .i64 t] w fun e w' => e = .returned (.bool true) ∧ Below w.heap.size w w' :=
  law_ShortWays N s t C.A C.l.length C.c (C.l.map Arc.of) w (by simp) h.1 (h.2.2.1.map_ Arc.of fun _ _ => rfl)
end Go.Proofs.Ytfaifadfilndmaa
