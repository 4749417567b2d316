/- The smallest wall between two nodes: the reference's walk. Conditions: the edges read as a list. -/
import Derived.Test.YtjkfogkpacmdlaaLanesApart42
namespace Go.Proofs.Ytjkfogkpacmdlaa
open Go.RowKit
attribute [local go_sem ↓] w_and w_or w_xor w_andNot w_and1 w_and255 w_xor1 w_or0 w_shl w_shl1 w_shr w_sub w_add w_sub1 w_add1
attribute [local go_sem] w_eq0 w_ne0 w_eq1 w_eq w_ne

set_option maxRecDepth 100000 in
set_option maxHeartbeats 1000000 in
theorem ref_WaysCheck (N a b : Int) (A : Option Addr) (n c : Nat) (l : List Ed) (w : World) (hl : l.length = n) (hn : n ≤ maxLen) (hc : n ≤ c) (hr : Els w w.heap.size 3 Ed.cells A l) :
    Calls Try.prog 7 #[.agg #[.int .i64 N, .slice A n c], .int .i64 a, .int .i64 b] w fun e w' => e = .returned (.int .i64 (waysCheck N l a b)) ∧ Below w.heap.size w w' := by
  have hb0 := (Below.refl w.heap.size w).alloc (Nat.le_refl _) (.cells #[.int .i64 N, .slice A n c] 24)
  have hB0 := Blk.new w 24 #[.int .i64 N, .slice A n c]
  have HW := Lib.hid (ref_GraphCheck N A n c l (w.alloc (.cells #[.int .i64 N, .slice A n c] 24)) hl hn hc ((hr.alloc (Nat.le_refl _) _).more (by rw [size_alloc']; omega)))
  have HL := Lib.hid hl
  have HR := Lib.hid hr
  have HB0 := Lib.hid hb0
  have HK0 := Lib.hid hB0
  have c0 := hB0.cell 0
  have c1 := hB0.cell 1
  clear hr hb0 hB0 hl
  go_enter Try.func7, Try.ntmps7
  go_wp2_with fail
  refine HW.out.mono ?_
  clear HW
  rintro e v1 ⟨rfl, hb1⟩
  have hk1 := HK0.out.below hb1 (by rw [size_alloc']; omega)
  have hb1' := HB0.out.trans (hb1.mono (by rw [size_alloc']; omega))
  have hz1 := hb1'.size
  have HB1 := Lib.hid hb1'
  clear c0 c1 hb1 hb1'
  have c0 := hk1.cell 0
  have c1 := hk1.cell 1
  clear hk1
  by_cases h0 : graphCheck N l = 0
  · obtain ⟨m, rfl, hg⟩ := graph_good h0
    have hm := hg.n10
    have hm45 := hg.m45
    have HEB := Lib.hid (fun h => ways_ends (a := a) (b := b) h0 h)
    have HEA := Lib.hid (fun (a b : Nat) h => ways_adj (a := a) (b := b) h0 h)
    rw [h0]
    clear h0 hg
    by_cases h1 : a < 0
    · have HE := Lib.hid (HEB.out (by omega))
      go_wp2_with fail
      go_ret
      exact ⟨ret_i64 HE.out.symm, HB1.out⟩
    by_cases h2 : (m : Int) ≤ a
    · have HE := Lib.hid (HEB.out (by omega))
      go_wp2_with fail
      go_ret
      exact ⟨ret_i64 HE.out.symm, HB1.out⟩
    by_cases h3 : b < 0
    · have HE := Lib.hid (HEB.out (by omega))
      go_wp2_with fail
      go_ret
      exact ⟨ret_i64 HE.out.symm, HB1.out⟩
    by_cases h4 : (m : Int) ≤ b
    · have HE := Lib.hid (HEB.out (by omega))
      go_wp2_with fail
      go_ret
      exact ⟨ret_i64 HE.out.symm, HB1.out⟩
    by_cases h5 : a = b
    · have HE := Lib.hid (HEB.out (by omega))
      have h5' : (a == b) = true := by simpa using h5
      clear h5
      go_wp2_with fail
      go_ret
      exact ⟨ret_i64 HE.out.symm, HB1.out⟩
    · obtain ⟨i, rfl⟩ := Int.eq_ofNat_of_zero_le (show 0 ≤ a by omega)
      obtain ⟨j, rfl⟩ := Int.eq_ofNat_of_zero_le (show 0 ≤ b by omega)
      have HE := Lib.hid (HEA.out i j (by omega))
      have h5' : ((i : Int) == (j : Int)) = false := by simpa using h5
      have HNR := Lib.hid (ref_Near m i j A n c l v1 HL.out (by rw [← HL.out]; exact hm45) ((HR.out.below HB1.out).more hz1))
      obtain ⟨ad, had⟩ : ∃ ad, ad = adj l i j := ⟨_, rfl⟩
      rw [← had] at HE HNR
      clear h5 had HEA HEB
      go_wp2_with fail
      refine HNR.out.mono ?_
      clear HNR
      rintro e v2 ⟨rfl, hb2⟩
      have HB2 := Lib.hid (HB1.out.trans (hb2.mono hz1))
      clear hb2
      cases ad with
      | true =>
        go_wp2_with fail
        go_ret
        exact ⟨ret_i64 HE.out.symm, HB2.out⟩
      | false =>
        go_wp2_with fail
        go_ret
        exact ⟨ret_i64 HE.out.symm, HB2.out⟩
  · have HE := Lib.hid (ways_bad (a := a) (b := b) h0)
    have h1 : (graphCheck N l == 0) = false := by simpa using h0
    obtain ⟨x, hx⟩ : ∃ x, x = graphCheck N l := ⟨_, rfl⟩
    rw [← hx] at h1 HE ⊢
    clear h0 hx
    go_wp2_with fail
    go_ret
    exact ⟨ret_i64 HE.out.symm, HB1.out⟩

set_option maxRecDepth 100000 in
set_option maxHeartbeats 1000000 in
theorem ref_Parted (N a b : Nat) (q : Bool) (A : Option Addr) (n c : Nat) (l : List Ed) (x : BitVec 32) (w : World) (ha : a < N) (hb : b < N) (hq : q = true ↔ ¬ Rch (Adj (withoutE l x)) a b) (hl : l.length = n) (hg : GoodG N l) (hr : Els w w.heap.size 3 Ed.cells A l) :
    Calls Try.prog 27 #[.agg #[.int .i64 N, .slice A n c], .int .i64 a, .int .i64 b, .int .u32 (wN x)] w fun e w' => e = .returned (.bool q) ∧ Below w.heap.size w w' := by
  have hb0 := (Below.refl w.heap.size w).alloc (Nat.le_refl _) (.cells #[.int .i64 N, .slice A n c] 24)
  have hB0 := Blk.new w 24 #[.int .i64 N, .slice A n c]
  have HW := Lib.hid (ref_Without N A n c l x _ hl hg ((hr.below hb0).more hb0.size))
  have HB0 := Lib.hid hb0
  have HG := Lib.hid hg
  have HQ := Lib.hid hq
  have c0 := hB0.cell 0
  have c1 := hB0.cell 1
  clear hr hb0 hB0 hl hg hq
  go_enter Try.func27, Try.ntmps27
  go_wp2_with fail
  refine HW.out.mono ?_
  clear HW c0 c1
  rintro e v1 ⟨A2, n2, c2, rfl, hb1, hlen, hels⟩
  have HB1 := Lib.hid (HB0.out.trans (hb1.mono (by rw [size_alloc']; omega)))
  have HD := Lib.hid (ref_Dist N A2 n2 c2 (withoutE l x) v1 hlen (without_good HG.out x) hels)
  clear hb1 HB0 hlen hels
  go_wp2_with fail
  refine HD.out.mono ?_
  clear HD
  rintro e v2 ⟨A3, c3, P, M, rfl, hb2, hP, hm, hd⟩
  have hz1 := HB1.out.size
  have HB2 := Lib.hid (HB1.out.trans (hb2.mono hz1))
  obtain ⟨g, rfl, _, _, _, e1, _, _, hc1⟩ := hm.at_ (i := a) (by rw [hP]; exact ha)
  obtain ⟨d1, _⟩ := hc1 b hb
  have hdi := hd a b ha hb
  obtain ⟨p, hp⟩ : ∃ p, p = pAt P a := ⟨_, rfl⟩
  obtain ⟨y, hy⟩ : ∃ y, y = M a b := ⟨_, rfl⟩
  rw [← hp] at e1 d1
  rw [← hy] at d1 hdi
  have hqy : q = decide (y < 0) := by
    rw [Bool.eq_iff_iff, decide_eq_true_iff]
    refine HQ.out.trans ⟨fun h => ?_, fun h hr => ?_⟩
    · rcases Int.lt_or_le y 0 with e | e
      · exact e
      · exact absurd (hdi.pos.1 e) h
    · have := hdi.pos.2 hr
      omega
  have HQY := Lib.hid hqy
  clear hb2 hP hm hd hc1 hdi hp hy hqy
  go_wp2_with fail
  go_ret
  exact ⟨ret_bool HQY.out.symm, HB2.out⟩

set_option maxRecDepth 100000 in
set_option maxHeartbeats 2000000 in
theorem ref_WayWall (ok : Nat → Bool) (m a b : Nat) (A : Option Addr) (n c : Nat) (l : List Ed) (w : World) (ha : a < m) (hb : b < m)
    (hok : ∀ k, ok k = true ↔ ((nw k).getLsbD a = false ∧ (nw k).getLsbD b = false) ∧ ¬ Rch (Adj (withoutE l (nw k))) a b) (hl : l.length = n) (hg : GoodG m l) (hr : Els w w.heap.size 3 Ed.cells A l) :
    Calls Try.prog 11 #[.agg #[.int .i64 m, .slice A n c], .int .i64 a, .int .i64 b] w fun e w' => e = .returned (.int .u32 (wN (laneR ok (2 ^ m)).1)) ∧ Below w.heap.size w w' := by
  have hm := hg.n10
  have hb0 := (Below.refl w.heap.size w).alloc (Nat.le_refl _) (.cells #[.int .i64 m, .slice A n c] 24)
  have hB0 := Blk.new w 24 #[.int .i64 m, .slice A n c]
  have HL := Lib.hid hl
  have HG := Lib.hid hg
  have HR := Lib.hid hr
  have HOK := Lib.hid hok
  have HB0 := Lib.hid hb0
  have HK0 := Lib.hid hB0
  have c0 := hB0.cell 0
  have hP1 := pow_lim hm
  obtain ⟨P, hP⟩ : ∃ P, P = 2 ^ m := ⟨_, rfl⟩
  have HLIM : Hid (wN (wShl w1 m) = (P : Int)) := by
    show wN (wShl w1 m) = (P : Int)
    rw [wN_pow (by omega), hP]
  rw [← hP] at hP1 ⊢
  clear hl hg hr hB0 hP hb0 hok
  go_enter Try.func11, Try.ntmps11
  go_wp2_with fail
  go_loopw [9, 7, 8] (fun i s t wr => ∃ k : Nat, k ≤ P ∧ i = .int .u32 (wN (nw k)) ∧ s = .int .u32 (wN (laneR ok k).1) ∧ t = .bool (laneR ok k).2 ∧ Below w.heap.size w wr ∧ Blk wr w.heap.size 24 #[.int .i64 m, .slice A n c]) (fun i _ _ _ => P - (intOf i).toNat)
  case atStart => exact ⟨0, by omega, rfl, rfl, rfl, HB0.out, HK0.out⟩
  case round =>
    clear HB0 HK0 c0
    rename World => wr
    obtain ⟨k, hk, rfl, rfl, rfl, hb, hblk⟩ := hrel
    have hkw := wN_nw (k := k) (by omega)
    have hkw1 := wN_nw (k := k + 1) (by omega)
    have HKW := Lib.hid hkw
    have HKW1 := Lib.hid hkw1
    have HSU := Lib.hid (nw_succ k)
    have hz := hb.size
    have hlt1 := hblk.lt
    have c0 := hblk.cell 0
    have c1 := hblk.cell 1
    have HB := Lib.hid hb
    have HK := Lib.hid hblk
    clear hb hblk
    by_cases hlt : k < P
    · have hlt' : wN (nw k) < wN (wShl w1 m) := by rw [hkw, HLIM.out]; omega
      have HSK1 := Lib.hid (@laneR_skip1 ok k)
      have HSK2 := Lib.hid (@laneR_skip2 ok k)
      have HTK := Lib.hid (@laneR_take ok k)
      have HOKK := Lib.hid (HOK.out k)
      have HPD := Lib.hid (fun (q : Bool) hq => ref_Parted m a b q A n c l (nw k) wr ha hb hq HL.out HG.out ((HR.out.below HB.out).more hz))
      obtain ⟨x, hx⟩ : ∃ x, x = nw k := ⟨_, rfl⟩
      obtain ⟨z, hz'⟩ : ∃ z, z = (laneR ok k).1 := ⟨_, rfl⟩
      obtain ⟨f, hf⟩ : ∃ f, f = (laneR ok k).2 := ⟨_, rfl⟩
      rw [← hx] at hlt' HOKK HPD ⊢
      rw [← hz', ← hf]
      have HX := Lib.hid hx
      have HZ := Lib.hid hz'
      have HF := Lib.hid hf
      obtain ⟨px, hpx⟩ : ∃ p, p = pop x := ⟨_, rfl⟩
      obtain ⟨pz, hpz⟩ : ∃ p, p = pop z := ⟨_, rfl⟩
      have HPX := Lib.hid hpx
      have HPZ := Lib.hid hpz
      clear hx hz' hf hpx hpz hkw hkw1
      go_wp2_with fail
      refine (Bit_any x a _).mono ?_
      rintro e w' ⟨rfl, rfl⟩
      rw [bitB_nat]
      obtain ⟨xa, hxa⟩ : ∃ q, q = x.getLsbD a := ⟨_, rfl⟩
      obtain ⟨xb, hxb⟩ : ∃ q, q = x.getLsbD b := ⟨_, rfl⟩
      rw [← hxa, ← hxb] at HOKK
      rw [← hxa]
      have HXB := Lib.hid hxb
      clear hxa hxb
      cases xa with
      | true =>
        have HOF : Hid (ok k = false) := Lib.hid (by
          rcases hb : ok k with _ | _
          · rfl
          · have := (HOKK.out.1 hb).1.1; cases this)
        go_wp2_with fail
        go_roundw
        case rel => exact ⟨k + 1, by omega, by rw [HX.out, HSU.out], by rw [HSK1.out HOF.out, ← HZ.out], by rw [HSK1.out HOF.out, ← HF.out], HB.out, HK.out⟩
        case measure => rw [HX.out, HSU.out]; simp [intOf]; rw [HKW.out, HKW1.out]; omega
      | false =>
        go_wp2_with fail
        refine (Bit_any x b _).mono ?_
        rintro e w' ⟨rfl, rfl⟩
        rw [bitB_nat, ← HXB.out]
        cases xb with
        | true =>
          have HOF : Hid (ok k = false) := Lib.hid (by
            rcases hb : ok k with _ | _
            · rfl
            · have := (HOKK.out.1 hb).1.2; cases this)
          go_wp2_with fail
          go_roundw
          case rel => exact ⟨k + 1, by omega, by rw [HX.out, HSU.out], by rw [HSK1.out HOF.out, ← HZ.out], by rw [HSK1.out HOF.out, ← HF.out], HB.out, HK.out⟩
          case measure => rw [HX.out, HSU.out]; simp [intOf]; rw [HKW.out, HKW1.out]; omega
        | false =>
          have HPD2 := Lib.hid (HPD.out (ok k) (HOKK.out.trans ⟨fun h => h.2, fun h => ⟨⟨by simp, by simp⟩, h⟩⟩))
          obtain ⟨o, ho⟩ : ∃ o, o = ok k := ⟨_, rfl⟩
          rw [← ho] at HPD2
          have HOO := Lib.hid ho
          clear ho HOKK HPD
          go_wp2_with fail
          refine HPD2.out.mono ?_
          clear HPD2
          rintro e w3 ⟨rfl, hb3⟩
          have HB3 := Lib.hid (HB.out.trans (hb3.mono hz))
          have hk3 := HK.out.below hb3 hlt1
          have d0 := hk3.cell 0
          have HK3 := Lib.hid hk3
          clear hb3 hk3 c0 c1
          cases o with
          | false =>
            go_wp2_with fail
            go_roundw
            case rel => exact ⟨k + 1, by omega, by rw [HX.out, HSU.out], by rw [HSK1.out HOO.out.symm, ← HZ.out], by rw [HSK1.out HOO.out.symm, ← HF.out], HB3.out, HK3.out⟩
            case measure => rw [HX.out, HSU.out]; simp [intOf]; rw [HKW.out, HKW1.out]; omega
          | true =>
            cases f with
            | false =>
              go_wp2_with fail
              go_roundw
              case rel => exact ⟨k + 1, by omega, by rw [HX.out, HSU.out], by rw [HTK.out HOO.out.symm (.inl HF.out.symm), ← HX.out], by rw [HTK.out HOO.out.symm (.inl HF.out.symm)], HB3.out, HK3.out⟩
              case measure => rw [HX.out, HSU.out]; simp [intOf]; rw [HKW.out, HKW1.out]; omega
            | true =>
              go_wp2_with fail
              refine (Size_any _ _).mono ?_
              rintro e w' ⟨rfl, rfl⟩
              rw [← HPX.out]
              go_wp2_with fail
              refine (Size_any _ _).mono ?_
              rintro e w' ⟨rfl, rfl⟩
              rw [← HPZ.out]
              by_cases hp : px < pz
              · go_wp2_with fail
                go_roundw
                case rel => exact ⟨k + 1, by omega, by rw [HX.out, HSU.out], by rw [HTK.out HOO.out.symm (.inr (by rw [← HX.out, ← HZ.out, ← HPX.out, ← HPZ.out]; exact hp)), ← HX.out], by rw [HTK.out HOO.out.symm (.inr (by rw [← HX.out, ← HZ.out, ← HPX.out, ← HPZ.out]; exact hp))], HB3.out, HK3.out⟩
                case measure => rw [HX.out, HSU.out]; simp [intOf]; rw [HKW.out, HKW1.out]; omega
              · go_wp2_with fail
                go_roundw
                case rel => exact ⟨k + 1, by omega, by rw [HX.out, HSU.out], by rw [HSK2.out HF.out.symm (by rw [← HX.out, ← HZ.out, ← HPX.out, ← HPZ.out]; exact hp), ← HZ.out], by rw [HSK2.out HF.out.symm (by rw [← HX.out, ← HZ.out, ← HPX.out, ← HPZ.out]; exact hp), ← HF.out], HB3.out, HK3.out⟩
                case measure => rw [HX.out, HSU.out]; simp [intOf]; rw [HKW.out, HKW1.out]; omega
    · obtain rfl : k = P := by omega
      have hge : ¬ wN (nw k) < wN (wShl w1 m) := by rw [hkw, HLIM.out]; omega
      obtain ⟨y, hy⟩ : ∃ y, y = (laneR ok k).1 := ⟨_, rfl⟩
      obtain ⟨f, hf⟩ : ∃ f, f = (laneR ok k).2 := ⟨_, rfl⟩
      rw [← hy, ← hf]
      have HY := Lib.hid hy
      clear hkw hkw1 hy hf
      go_wp2_with fail
      go_ret
      exact ⟨ret_u32 (by rw [HY.out]), HB.out⟩
end Go.Proofs.Ytjkfogkpacmdlaa
