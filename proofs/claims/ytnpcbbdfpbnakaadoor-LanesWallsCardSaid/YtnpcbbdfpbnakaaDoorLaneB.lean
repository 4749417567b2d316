/- The smallest wall between two nodes: the program's walk. Conditions: the edges read as a list; the table. -/
import Derived.Test.YtnpcbbdfpbnakaaDoorLaneA
import Derived.Test.YtnpcbbdfpbnakaaDoorSpread2
import Derived.Test.YtnpcbbdfpbnakaaDoorSubP
import Derived.BigQuiet
import Derived.Lib.QuietBelow
namespace Go.Proofs.YtnpcbbdfpbnakaaDoor
open Go.RowKit
attribute [local go_sem ↓] w_and w_or w_xor w_andNot w_and1 w_and255 w_xor1 w_or0 w_shl w_shl1 w_shr w_sub w_add w_sub1 w_add1
attribute [local go_sem] w_eq0 w_ne0 w_eq1 w_eq w_ne

def alW (N a b : Nat) : BitVec 32 := wBut (wSub (wShl w1 N) w1) (wOr (wShl w1 a) (wShl w1 b))
theorem alW_bit {N a b : Nat} (hN : N ≤ 10) (ha : a < N) (hb : b < N) (j : Nat) : (alW N a b).getLsbD j = true ↔ j < N ∧ j ≠ a ∧ j ≠ b := by
  unfold alW
  rw [b_but, show wSub (wShl w1 N) w1 = maskW N from rfl, b_mask (by omega), b_or, b_one, b_one]
  simp
  omega
theorem alW_le {N a b : Nat} (hN : N ≤ 10) (ha : a < N) (hb : b < N) : (alW N a b).toNat < 2 ^ N := by
  have h1 : (alW N a b).toNat ≤ (maskW N).toNat := lsub_le fun j hj => by
    rw [b_mask (by omega)]
    simpa using ((alW_bit hN ha hb j).1 hj).1
  rw [toNat_mask (by omega)] at h1
  have := Nat.two_pow_pos N
  omega
theorem al_next {x : BitVec 32} (h : x.toNat < 1024) : wN (wAdd x w1) = ((x.toNat + 1 : Nat) : Int) := by
  unfold wN wAdd w1
  rw [BitVec.toNat_add]
  have : (1#32).toNat = 1 := rfl
  rw [this]
  omega
/-- What the words of a round tell. -/
theorem lane_word {N : Nat} {l : List Ed} (hg : GoodG N l) {a b : Nat} (ha : a < N) (hb : b < N) (hab : a ≠ b) {x y : BitVec 32} (hx : wBut x (alW N a b) = w0)
    (hy : ∀ j, y.getLsbD j = true ↔ ∃ i, (wShl w1 a).getLsbD i = true ∧ Rch (RS (nearL N l) (wBut (wOr (alW N a b) (wShl w1 b)) x)) i j) : y.getLsbD b = true ↔ Rch (Adj (withoutE l x)) a b := by
  have hN := hg.n10
  have hsub := (but_zero_iff x (alW N a b)).1 hx
  have hxa : x.getLsbD a = false := by
    rcases h : x.getLsbD a with _ | _
    · rfl
    · exact absurd rfl ((alW_bit hN ha hb a).1 (hsub a h)).2.1
  have hxb : x.getLsbD b = false := by
    rcases h : x.getLsbD b with _ | _
    · rfl
    · exact absurd rfl ((alW_bit hN ha hb b).1 (hsub b h)).2.2
  rw [hy, ← lane_rch hg ha hab hxa (wi := wBut (wOr (alW N a b) (wShl w1 b)) x)]
  · constructor
    · rintro ⟨i, h1, h2⟩
      rw [b_one] at h1
      have : i = a := by simp at h1; exact h1.2
      rw [this] at h2
      exact h2
    · intro h2
      exact ⟨a, by rw [b_one]; simp; omega, h2⟩
  · intro j
    rw [b_but, b_or, Bool.and_eq_true, Bool.or_eq_true, Bool.not_eq_true', alW_bit hN ha hb, b_one]
    constructor
    · rintro ⟨h1 | h1, h2⟩
      · exact ⟨h1.1, h1.2.1, h2⟩
      · simp at h1
        exact ⟨by omega, by omega, h2⟩
    · rintro ⟨h1, h2, h3⟩
      by_cases hjb : j = b
      · exact ⟨.inr (by simp; omega), h3⟩
      · exact ⟨.inl ⟨h1, h2, hjb⟩, h3⟩

set_option maxRecDepth 100000 in
set_option maxHeartbeats 2000000 in
theorem lanes_Wall_ok (ok : Nat → Bool) (m a b : Nat) (A : Option Addr) (n c : Nat) (l : List Ed) (w : World) (h0 : waysCheck m l a b = 0) (hok : ∀ k, ok k = true ↔ wBut (nw k) (alW m a b) = w0 ∧ ¬ Rch (Adj (withoutE l (nw k))) a b) (hl : l.length = n) (hn : n ≤ maxLen) (hr : Els w w.heap.size 3 Ed.cells A l) (htab : TabOk w) :
    Calls Tryd.prog 36 #[.agg #[.int .i64 m, .slice A n c], .int .i64 a, .int .i64 b] w fun e w' => e = .returned (.tuple #[.int .u32 (wN (laneP (alW m a b) ok ((alW m a b).toNat + 1))), .int .i64 0]) ∧ Below w.heap.size w w' := by
  have h0w : 0 < w.heap.size := Nat.lt_of_le_of_lt (Nat.zero_le _) htab.1
  have hb0 := (Below.refl w.heap.size w).alloc (Nat.le_refl _) (.cells #[.int .i64 m, .slice A n c] 31)
  have hB0 := Blk.new w 31 #[.int .i64 m, .slice A n c]
  have HW := Lib.hid (lanes_wrong m a b A n c l (w.alloc (.cells #[.int .i64 m, .slice A n c] 31)) hl hn ((hr.alloc (Nat.le_refl _) _).more (by rw [size_alloc']; omega)))
  rw [h0] at HW
  obtain ⟨hgc, i, j, e1, e2, hi, hj, hab, _⟩ := ways_ok h0
  obtain rfl : a = i := by omega
  obtain rfl : b = j := by omega
  obtain ⟨m', hm', hg⟩ := graph_good hgc
  obtain rfl : m = m' := by omega
  have hm := hg.n10
  have ha' : a < m := by omega
  have hb' : b < m := by omega
  have HG := Lib.hid hg
  have HL := Lib.hid hl
  have HR := Lib.hid hr
  have HT := Lib.hid htab
  have HOK := Lib.hid hok
  have HB0 := Lib.hid hb0
  have HK0 := Lib.hid hB0
  have c0 := hB0.cell 0
  have c1 := hB0.cell 1
  have hal := alW_le hm ha' hb'
  have hpl := pow_lim hm
  have HAL := Lib.hid (al_next (x := alW m a b) (by omega))
  have HW3 := Lib.hid (fun x y => @lane_word m l hg a b ha' hb' hab x y)
  have HMB := Lib.hid (fun j => @alW_bit m a b hm ha' hb' j)
  obtain ⟨al, hal'⟩ : ∃ al, al = alW m a b := ⟨_, rfl⟩
  have HE0 : Hid (wBut (wSub (wShl w1 m) w1) (wOr (wShl w1 a) (wShl w1 b)) = al) := Lib.hid hal'.symm
  rw [← hal'] at hal HAL HOK HW3 HMB ⊢
  obtain ⟨L, hL⟩ : ∃ L, L = al.toNat + 1 := ⟨_, rfl⟩
  have hL2 : L ≤ 1024 := by omega
  have HLIM : Hid (wN (wAdd al w1) = (L : Int)) := Lib.hid (by rw [HAL.out, hL])
  rw [← hL]
  clear hr hb0 hB0 hl htab hok hgc h0 e1 e2 hi hj hm' hg hal' hal hL HAL
  go_enter Tryd.func36, Tryd.ntmps36
  go_wp2_with fail
  refine HW.out.mono ?_
  clear HW
  rintro e v1 ⟨rfl, hb1⟩
  have hk1 := HK0.out.below hb1 (by rw [size_alloc']; omega)
  have hb1' := HB0.out.trans (hb1.mono (by rw [size_alloc']; omega))
  have hz1 := hb1'.size
  have hlt1 := hk1.lt
  have HB1 := Lib.hid hb1'
  have HK1 := Lib.hid hk1
  clear c0 c1 hb1 hb1'
  have c0 := hk1.cell 0
  have c1 := hk1.cell 1
  clear hk1
  have HN := Lib.hid (graph_Near m A n c l v1 HL.out HG.out ((HR.out.below HB1.out).more hz1))
  go_wp2_with fail
  refine HN.out.mono ?_
  clear HN
  rintro e v2 ⟨A1, rfl, hb2, hown2⟩
  have hb2' := HB1.out.trans (hb2.mono hz1)
  have hz2 := hb2'.size
  have HB2 := Lib.hid hb2'
  have HE2 := Lib.hid hown2.els
  have hk2 := HK1.out.below hb2 hlt1
  clear c0 c1
  have c0 := hk2.cell 0
  clear hb2 hb2' hown2 HK1 hk2
  go_wp2_with fail
  go_quiet (fail)
  go_wp2_with fail
  rw [HE0.out]
  obtain ⟨v3, hv3⟩ : ∃ v3, v3 = v2.drewN nq := ⟨_, rfl⟩
  rw [← hv3]
  have HB3 := Lib.hid (below_drewN HB2.out nq)
  have HE3 := Lib.hid (HE2.out.drewN nq)
  rw [← hv3] at HB3 HE3
  have hz3 : w.heap.size ≤ v3.heap.size := HB3.out.size
  have HE4 : Hid (Els v3 v3.heap.size 1 wcell A1 (nearL m l)) := Lib.hid (by have := HE3.out; rw [hv3] at this ⊢; exact this)
  clear hv3 HB2 HE2 HE3 hz2 c0
  go_loopw [35, 11] (fun i s wr => ∃ k : Nat, k ≤ L ∧ i = .int .u32 (wN (nw k)) ∧ s = .int .u32 (wN (laneP al ok k)) ∧ Below v3.heap.size v3 wr) (fun i _ _ => L - (intOf i).toNat)
  case atStart => exact ⟨0, by omega, rfl, rfl, Below.refl _ _⟩
  case round =>
    rename World => wr
    obtain ⟨k, hk, rfl, rfl, hb⟩ := hrel
    have hkw := wN_nw (k := k) (by omega)
    have hkw1 := wN_nw (k := k + 1) (by omega)
    have HKW := Lib.hid hkw
    have HKW1 := Lib.hid hkw1
    have HSU := Lib.hid (nw_succ k)
    have hz := hb.size
    have HB := Lib.hid hb
    clear hb
    by_cases hlt : k < L
    · have hlt' : wN (nw k) < wN (wAdd al w1) := by rw [hkw, HLIM.out]; omega
      have HSK1 := Lib.hid (@laneP_skip1 al ok k)
      have HSK2 := Lib.hid (@laneP_skip2 al ok k)
      have HTK := Lib.hid (@laneP_take al ok k)
      have HOKK := Lib.hid (HOK.out k)
      have hel := Lib.hid ((HE4.out.below HB.out).more hz)
      have htr := Lib.hid (HT.out.below (HB3.out.trans (HB.out.mono hz3)) h0w)
      have hmb := Lib.hid (fun j hj => ((HMB.out j).1 hj).1)
      obtain ⟨y, hy⟩ := spread_word (nearL m l) (wShl w1 a) (wBut (wOr al (wShl w1 b)) (nw k))
      have HSP : Hid (∀ d os, Calls Tryd.prog 72 #[.slice A1 m m, .int .u32 (wN (wShl w1 a)), .int .u32 (wN (wBut (wOr al (wShl w1 b)) (nw k)))] (Go.Sort.grow (redrawn wr d) os) fun e w'' => e = .returned (.int .u32 (wN y)) ∧ ∃ p : Regrown, w'' = Go.Sort.grow (redrawn wr p.d) p.os) := Lib.hid (fun d os => Calls.regrown_of (by
        have hbr := below_regrown wr d os
        exact graph_Spread_at A1 m m (nearL m l) (wShl w1 a) (wBut (wOr al (wShl w1 b)) (nw k)) y _ (nearL_length _ _) (by omega) ((hel.out.below hbr).more hbr.size) (htr.out.below hbr (by omega)) (by have := hbr.size; omega)
          (fun j hj => by rw [b_one] at hj; simp at hj; omega) (fun j hj => by
            rw [b_but, b_or, Bool.and_eq_true, Bool.or_eq_true] at hj
            rcases hj.1 with h1 | h1
            · exact hmb.out j h1
            · rw [b_one] at h1; simp at h1; omega) hy))
      have HOC : Hid (∀ x d os, Calls Tryd.prog 65 #[.int .u32 (wN x)] (Go.Sort.grow (redrawn wr d) os) fun e w'' => e = .returned (.int .i64 (pop x)) ∧ ∃ p : Regrown, w'' = Go.Sort.grow (redrawn wr p.d) p.os) := Lib.hid (fun x d os => Calls.regrown_of ((OnesCount32_any x _).mono fun e w' ⟨h1, h2⟩ => ⟨h1, below_of_drewN h2⟩))
      have HLW := Lib.hid (fun h => HW3.out (x := nw k) (y := y) h hy)
      have HX1 := Lib.hid (shr_and0 y b)
      obtain ⟨x, hx⟩ : ∃ x, x = nw k := ⟨_, rfl⟩
      obtain ⟨z, hz'⟩ : ∃ z, z = laneP al ok k := ⟨_, rfl⟩
      rw [← hx] at hlt' HSP HOKK HLW ⊢
      rw [← hz']
      have HX := Lib.hid hx
      have HZ := Lib.hid hz'
      obtain ⟨px, hpx⟩ : ∃ p, p = pop x := ⟨_, rfl⟩
      obtain ⟨pz, hpz⟩ : ∃ p, p = pop z := ⟨_, rfl⟩
      have HOX := Lib.hid (HOC.out x)
      have HOZ := Lib.hid (HOC.out z)
      rw [← hpx] at HOX
      rw [← hpz] at HOZ
      have HPX := Lib.hid hpx
      have HPZ := Lib.hid hpz
      clear hx hz' hpx hpz hkw hkw1 hy hel htr hmb HOC
      go_wp2_with fail
      by_cases hxa : wBut x al = w0
      · have hxb : (wBut x al == w0) = true := by simpa using hxa
        have hlw := HLW.out hxa
        have hokk := HOKK.out
        have hx1 := HX1.out
        by_cases hp : px < pz
        · rcases bool_or (y.getLsbD b) with hyb | hyb
          · have HOT : Hid (ok k = true) := Lib.hid (hokk.2 ⟨hxa, fun h => by have := hlw.2 h; rw [hyb] at this; cases this⟩)
            rw [hyb] at hx1
            have hx2 : (wAnd (wShr y b) w1 == w0) = true := hx1
            clear hxa hlw hokk hx1 hyb
            refine wp_region_quiet_below (by kernel_rfl) (by kernel_rfl) ?_
            repeat (go_big_quiet_step (first | (go_at_call 72; have h := HSP.out; with_reducible exact h _ _) | (go_at_call 65; have h := HOX.out; with_reducible exact h _ _) | (go_at_call 65; have h := HOZ.out; with_reducible exact h _ _)))
            refine wpQuiet_nil ?_
            intro w5 hw5
            obtain ⟨p, hw5'⟩ := hw5
            have hb5 := below_regrown wr p.d p.os
            rw [← hw5'] at hb5
            have HB5 := Lib.hid (HB.out.trans (hb5.mono hz))
            clear hw5' hb5 HSP HOX HOZ HB
            go_wp2_with fail
            go_roundw
            case rel => exact ⟨k + 1, by omega, by rw [HX.out, HSU.out], by rw [HTK.out (by rw [← HX.out, ← HZ.out, ← HPX.out, ← HPZ.out]; exact hp) HOT.out, ← HX.out], HB5.out⟩
            case measure => rw [HX.out, HSU.out]; simp [intOf]; rw [HKW.out, HKW1.out]; omega
          · have HOF : Hid (ok k = false) := Lib.hid (by
              rcases hb : ok k with _ | _
              · rfl
              · exact absurd (hlw.1 hyb) (hokk.1 hb).2)
            rw [hyb] at hx1
            have hx2 : (wAnd (wShr y b) w1 == w0) = false := hx1
            clear hxa hlw hokk hx1 hyb
            refine wp_region_quiet_below (by kernel_rfl) (by kernel_rfl) ?_
            repeat (go_big_quiet_step (first | (go_at_call 72; have h := HSP.out; with_reducible exact h _ _) | (go_at_call 65; have h := HOX.out; with_reducible exact h _ _) | (go_at_call 65; have h := HOZ.out; with_reducible exact h _ _)))
            refine wpQuiet_nil ?_
            intro w5 hw5
            obtain ⟨p, hw5'⟩ := hw5
            have hb5 := below_regrown wr p.d p.os
            rw [← hw5'] at hb5
            have HB5 := Lib.hid (HB.out.trans (hb5.mono hz))
            clear hw5' hb5 HSP HOX HOZ HB
            go_wp2_with fail
            go_roundw
            case rel => exact ⟨k + 1, by omega, by rw [HX.out, HSU.out], by rw [HSK2.out HOF.out, ← HZ.out], HB5.out⟩
            case measure => rw [HX.out, HSU.out]; simp [intOf]; rw [HKW.out, HKW1.out]; omega
        · clear hxa hlw hokk hx1
          refine wp_region_quiet_below (by kernel_rfl) (by kernel_rfl) ?_
          repeat (go_big_quiet_step (first | (go_at_call 72; have h := HSP.out; with_reducible exact h _ _) | (go_at_call 65; have h := HOX.out; with_reducible exact h _ _) | (go_at_call 65; have h := HOZ.out; with_reducible exact h _ _)))
          refine wpQuiet_nil ?_
          intro w5 hw5
          obtain ⟨p, hw5'⟩ := hw5
          have hb5 := below_regrown wr p.d p.os
          rw [← hw5'] at hb5
          have HB5 := Lib.hid (HB.out.trans (hb5.mono hz))
          clear hw5' hb5 HSP HOX HOZ HB
          go_wp2_with fail
          go_roundw
          case rel => exact ⟨k + 1, by omega, by rw [HX.out, HSU.out], by rw [HSK1.out (by rw [← HX.out, ← HZ.out, ← HPX.out, ← HPZ.out]; exact hp), ← HZ.out], HB5.out⟩
          case measure => rw [HX.out, HSU.out]; simp [intOf]; rw [HKW.out, HKW1.out]; omega
      · have hxb : (wBut x al == w0) = false := by simpa using hxa
        have HOF : Hid (ok k = false) := Lib.hid (by
          rcases hb : ok k with _ | _
          · rfl
          · exact absurd (HOKK.out.1 hb).1 hxa)
        clear hxa
        refine wp_region_quiet_below (by kernel_rfl) (by kernel_rfl) ?_
        repeat (go_big_quiet_step (first | (go_at_call 72; have h := HSP.out; with_reducible exact h _ _) | (go_at_call 65; have h := HOX.out; with_reducible exact h _ _) | (go_at_call 65; have h := HOZ.out; with_reducible exact h _ _)))
        refine wpQuiet_nil ?_
        intro w5 hw5
        obtain ⟨p, hw5'⟩ := hw5
        have hb5 := below_regrown wr p.d p.os
        rw [← hw5'] at hb5
        have HB5 := Lib.hid (HB.out.trans (hb5.mono hz))
        clear hw5' hb5 HSP HOX HOZ HB
        go_wp2_with fail
        go_roundw
        case rel => exact ⟨k + 1, by omega, by rw [HX.out, HSU.out], by rw [HSK2.out HOF.out, ← HZ.out], HB5.out⟩
        case measure => rw [HX.out, HSU.out]; simp [intOf]; rw [HKW.out, HKW1.out]; omega
    · obtain rfl : k = L := by omega
      have hge : ¬ wN (nw k) < wN (wAdd al w1) := by rw [hkw, HLIM.out]; omega
      obtain ⟨z, hz'⟩ : ∃ z, z = laneP al ok k := ⟨_, rfl⟩
      rw [← hz']
      have HZ := Lib.hid hz'
      clear hkw hkw1 hz'
      go_wp2_with fail
      refine bodyPost_ret (v := .tuple #[.int .u32 (wN z), .int .i64 0]) (by simp [results, Tryd.results36, go_sem]) rfl ?_
      exact ⟨by rw [HZ.out], HB3.out.trans (HB.out.mono hz3)⟩

set_option maxRecDepth 100000 in
set_option maxHeartbeats 1000000 in
theorem lanes_Wall_bad (N a b : Int) (A : Option Addr) (n c : Nat) (l : List Ed) (w : World) (h0 : waysCheck N l a b ≠ 0) (hl : l.length = n) (hn : n ≤ maxLen) (hr : Els w w.heap.size 3 Ed.cells A l) :
    Calls Tryd.prog 36 #[.agg #[.int .i64 N, .slice A n c], .int .i64 a, .int .i64 b] w fun e w' => e = .returned (.tuple #[.int .u32 0, .int .i64 (waysCheck N l a b)]) ∧ Below w.heap.size w w' := by
  have hb0 := (Below.refl w.heap.size w).alloc (Nat.le_refl _) (.cells #[.int .i64 N, .slice A n c] 31)
  have hB0 := Blk.new w 31 #[.int .i64 N, .slice A n c]
  have HW := Lib.hid (lanes_wrong N a b A n c l (w.alloc (.cells #[.int .i64 N, .slice A n c] 31)) hl hn ((hr.alloc (Nat.le_refl _) _).more (by rw [size_alloc']; omega)))
  have HB0 := Lib.hid hb0
  have c0 := hB0.cell 0
  have c1 := hB0.cell 1
  have h1 : (waysCheck N l a b != 0) = true := by simpa using h0
  generalize waysCheck N l a b = x at h1 HW
  clear hr hb0 hB0 hl h0
  go_enter Tryd.func36, Tryd.ntmps36
  go_wp2_with fail
  refine HW.out.mono ?_
  clear HW
  rintro e v1 ⟨rfl, hb1⟩
  have HB1 := Lib.hid (HB0.out.trans (hb1.mono (by rw [size_alloc']; omega)))
  clear hb1
  go_wp2_with fail
  refine bodyPost_ret (v := .tuple #[.int .u32 0, .int .i64 x]) (by simp [results, Tryd.results36, go_sem]) rfl ?_
  exact ⟨rfl, HB1.out⟩
end Go.Proofs.YtnpcbbdfpbnakaaDoor
