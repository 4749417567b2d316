/- The wall behind which the most are left over. Conditions: the edges read as a list; the table. -/
import Derived.Test.YtnpcbbdfpbnakaaDoorOddA
import Derived.Test.YtnpcbbdfpbnakaaDoorOddR
import Derived.Test.YtnpcbbdfpbnakaaDoorGraphB
namespace Go.Proofs.YtnpcbbdfpbnakaaDoor
open Go.RowKit
attribute [local go_sem ↓] w_and w_or w_xor w_andNot w_and1 w_and255 w_xor1 w_or0 w_shl w_shl1 w_shr w_sub w_add w_sub1 w_add1
attribute [local go_sem] w_eq0 w_ne0 w_eq1 w_eq w_ne

set_option maxRecDepth 100000 in
set_option maxHeartbeats 1000000 in
theorem bonds_Wall (p : Nat → Nat → Nat) (N : Int) (A : Option Addr) (n c : Nat) (l : List Ed) (w : World) (hp : ∀ k j, IsPart (withoutE l (nw k)) j (p k j)) (hl : l.length = n) (hn : n ≤ maxLen) (hr : Els w w.heap.size 3 Ed.cells A l) (htab : TabOk w) :
    Calls Tryd.prog 34 #[.agg #[.int .i64 N, .slice A n c]] w fun e w' => ∃ r, e = .returned (.tuple #[.int .u32 (wN r), .int .i64 (graphCheck N l)]) ∧ Below w.heap.size w w' ∧
      (graphCheck N l ≠ 0 → r = w0) ∧ (graphCheck N l = 0 → ∃ m : Nat, N = m ∧ r = (wallP p m (2 ^ m)).1) := by
  have h0w : 0 < w.heap.size := Nat.lt_of_le_of_lt (Nat.zero_le _) htab.1
  have hb0 := (Below.refl w.heap.size w).alloc (Nat.le_refl _) (.cells #[.int .i64 N, .slice A n c] 31)
  have hB0 := Blk.new w 31 #[.int .i64 N, .slice A n c]
  have HW := Lib.hid (graph_Check N A n c l (w.alloc (.cells #[.int .i64 N, .slice A n c] 31)) hl hn ((hr.alloc (Nat.le_refl _) _).more (by rw [size_alloc']; omega)))
  have HL := Lib.hid hl
  have HR := Lib.hid hr
  have HT := Lib.hid htab
  have HPP := Lib.hid hp
  have HB0 := Lib.hid hb0
  have HK0 := Lib.hid hB0
  have c0 := hB0.cell 0
  have c1 := hB0.cell 1
  clear hr hb0 hB0 hl htab hp
  go_enter Tryd.func34, Tryd.ntmps34
  go_wp2_with fail
  refine HW.out.mono ?_
  clear HW
  rintro e v1 ⟨rfl, hb1⟩
  have hk1 := HK0.out.below hb1 (by rw [size_alloc']; omega)
  have hb1' := HB0.out.trans (hb1.mono (by rw [size_alloc']; omega))
  have hz1 := hb1'.size
  have hlt1 := hk1.lt
  have HB1 := Lib.hid hb1'
  have HK1 := Lib.hid hk1
  clear c0 c1 hb1 hb1'
  have c0 := hk1.cell 0
  have c1 := hk1.cell 1
  clear hk1
  by_cases h0 : graphCheck N l = 0
  · obtain ⟨m, rfl, hg⟩ := graph_good h0
    have HZ := Lib.hid h0
    have HG := Lib.hid hg
    have hm := hg.n10
    have HN := Lib.hid (graph_Near m A n c l v1 HL.out hg ((HR.out.below HB1.out).more hz1))
    rw [h0]
    clear h0 hg
    go_wp2_with fail
    refine HN.out.mono ?_
    clear HN
    rintro e v2 ⟨A1, rfl, hb2, hown2⟩
    have hb2' := HB1.out.trans (hb2.mono hz1)
    have hz2 := hb2'.size
    have HB2 := Lib.hid hb2'
    have HE2 := Lib.hid hown2.els
    have hk2 := HK1.out.below hb2 hlt1
    clear c0 c1
    have c0 := hk2.cell 0
    have hlim := Lib.hid (all_lim hm)
    have hP1 := pow_lim hm
    obtain ⟨P, hP⟩ : ∃ P, P = 2 ^ m := ⟨_, rfl⟩
    have HP := Lib.hid hP
    have HLIM : Hid (wN (wAdd (wSub (wShl w1 m) w1) w1) = (P : Int)) := by
      show wN (wAdd (wSub (wShl w1 m) w1) w1) = (P : Int)
      rw [hlim.out, hP]
    rw [← hP] at hP1
    clear hb2 hb2' hown2 HK1 hk2 hP hlim
    go_wp2_with fail
    go_loopw [24, 7, 8] (fun i s t wr => ∃ k : Nat, k ≤ P ∧ i = .int .u32 (wN (nw k)) ∧ s = .int .u32 (wN (wallP p m k).1) ∧ t = .int .i64 (wallP p m k).2 ∧ Below v2.heap.size v2 wr) (fun i _ _ _ => P - (intOf i).toNat)
    case atStart => exact ⟨0, by omega, rfl, rfl, rfl, Below.refl _ _⟩
    case round =>
      clear c0
      rename World => wr
      obtain ⟨k, hk, rfl, rfl, rfl, hb⟩ := hrel
      have hkw := wN_nw (k := k) (by omega)
      have hkw1 := wN_nw (k := k + 1) (by omega)
      have HKW := Lib.hid hkw
      have HKW1 := Lib.hid hkw1
      have HSU := Lib.hid (nw_succ k)
      have hz := hb.size
      have HB := Lib.hid hb
      clear hb
      by_cases hlt : k < P
      · have hlt' : wN (nw k) < wN (wAdd (wSub (wShl w1 m) w1) w1) := by rw [hkw, HLIM.out]; omega
        have HSK := Lib.hid (@wallP_skip p m k)
        have HTK := Lib.hid (@wallP_take p m k)
        have HOC : Hid (Calls Tryd.prog 69 #[.slice A1 m m, .int .u32 (wN (wBut (wSub (wShl w1 m) w1) (nw k)))] wr fun e w' => e = .returned (.int .i64 (oddP (p k) (nw k) m m : Nat)) ∧ Below wr.heap.size wr w') :=
          Lib.hid (bonds_odd m A1 m l (p k) (nw k) wr HG.out (fun j _ => HPP.out k j) ((HE2.out.below HB.out).more hz) (HT.out.below (HB2.out.trans (HB.out.mono hz2)) h0w))
        obtain ⟨b1, b2⟩ := wallP_bnd (p := p) (N := m) k
        have b3 := oddP_le (p k) (nw k) m m
        have hwn : wallN p m k = (oddP (p k) (nw k) m m : Int) - pop (nw k) := rfl
        obtain ⟨x, hx⟩ : ∃ x, x = nw k := ⟨_, rfl⟩
        obtain ⟨y, hy⟩ : ∃ y, y = (wallP p m k).1 := ⟨_, rfl⟩
        obtain ⟨z, hz'⟩ : ∃ z, z = (wallP p m k).2 := ⟨_, rfl⟩
        rw [← hx] at hlt' HOC b3 hwn ⊢
        rw [← hy]
        rw [← hz'] at b1 b2 ⊢
        obtain ⟨o, ho⟩ : ∃ o, o = oddP (p k) x m m := ⟨_, rfl⟩
        rw [← ho] at HOC b3 hwn
        have HX := Lib.hid hx
        have HY := Lib.hid hy
        have HZ' := Lib.hid hz'
        have p1 := pop_le x
        obtain ⟨px, hpx⟩ : ∃ q, q = pop x := ⟨_, rfl⟩
        rw [← hpx] at p1 hwn
        have HPX := Lib.hid hpx
        have HWN := Lib.hid hwn
        clear hx hy hz' hpx hkw hkw1 ho hwn
        go_wp2_with fail
        refine HOC.out.mono ?_
        clear HOC
        rintro e w3 ⟨rfl, hb3⟩
        have HB3 := Lib.hid (HB.out.trans (hb3.mono hz))
        clear hb3
        go_wp2_with fail
        refine (OnesCount32_any _ _).mono ?_
        rintro e w' ⟨rfl, q1, rfl⟩
        rw [← HPX.out]
        by_cases hgt : z < (o : Int) - px
        · go_wp2_with fail
          go_roundw
          case rel => exact ⟨k + 1, by omega, by rw [HX.out, HSU.out], by rw [HTK.out (by rw [← HZ'.out, HWN.out]; exact hgt), ← HX.out], by rw [HTK.out (by rw [← HZ'.out, HWN.out]; exact hgt), HWN.out], below_drewN HB3.out q1⟩
          case measure => rw [HX.out, HSU.out]; simp [intOf]; rw [HKW.out, HKW1.out]; omega
        · go_wp2_with fail
          go_roundw
          case rel => exact ⟨k + 1, by omega, by rw [HX.out, HSU.out], by rw [HSK.out (by rw [← HZ'.out, HWN.out]; exact hgt), ← HY.out], by rw [HSK.out (by rw [← HZ'.out, HWN.out]; exact hgt), ← HZ'.out], below_drewN HB3.out q1⟩
          case measure => rw [HX.out, HSU.out]; simp [intOf]; rw [HKW.out, HKW1.out]; omega
      · obtain rfl : k = P := by omega
        have hge : ¬ wN (nw k) < wN (wAdd (wSub (wShl w1 m) w1) w1) := by rw [hkw, HLIM.out]; omega
        obtain ⟨y, hy⟩ : ∃ y, y = (wallP p m k).1 := ⟨_, rfl⟩
        obtain ⟨z, hz'⟩ : ∃ z, z = (wallP p m k).2 := ⟨_, rfl⟩
        rw [← hy, ← hz']
        have HY := Lib.hid hy
        clear hkw hkw1 hy hz'
        go_wp2_with fail
        refine bodyPost_ret (v := .tuple #[.int .u32 (wN y), .int .i64 0]) (by simp [results, Tryd.results34, go_sem]) rfl ?_
        exact ⟨y, by rw [HZ.out], HB2.out.trans (HB.out.mono hz2), fun h => absurd HZ.out h, fun _ => ⟨m, rfl, by rw [← HP.out]; exact HY.out⟩⟩
  · have h1 : (graphCheck N l != 0) = true := by simpa using h0
    have H0 := Lib.hid h0
    obtain ⟨x, hx⟩ : ∃ x, x = graphCheck N l := ⟨_, rfl⟩
    rw [← hx] at h1 ⊢
    have HX := Lib.hid hx
    clear h0 hx
    go_wp2_with fail
    refine bodyPost_ret (v := .tuple #[.int .u32 0, .int .i64 x]) (by simp [results, Tryd.results34, go_sem]) rfl ?_
    exact ⟨w0, by rw [HX.out]; rfl, HB1.out, fun _ => rfl, fun h => absurd h H0.out⟩

set_option maxRecDepth 100000 in
set_option maxHeartbeats 1000000 in
theorem ref_Wall (p : Nat → Nat → Nat) (m : Nat) (A : Option Addr) (n c : Nat) (l : List Ed) (w : World) (hp : ∀ k j, IsPart (withoutE l (nw k)) j (p k j)) (hl : l.length = n) (hg : GoodG m l) (hr : Els w w.heap.size 3 Ed.cells A l) :
    Calls Tryd.prog 35 #[.agg #[.int .i64 m, .slice A n c]] w fun e w' => e = .returned (.int .u32 (wN (wallP p m (2 ^ m)).1)) ∧ Below w.heap.size w w' := by
  have hm := hg.n10
  have hb0 := (Below.refl w.heap.size w).alloc (Nat.le_refl _) (.cells #[.int .i64 m, .slice A n c] 31)
  have hB0 := Blk.new w 31 #[.int .i64 m, .slice A n c]
  have HOD0 : Hid (Calls Tryd.prog 70 #[.agg #[.int .i64 m, .slice A n c], .int .u32 0] (w.alloc (.cells #[.int .i64 m, .slice A n c] 31)) fun e w' => e = .returned (.int .i64 (oddP (p 0) w0 m m : Nat)) ∧ Below (w.alloc (.cells #[.int .i64 m, .slice A n c] 31)).heap.size (w.alloc (.cells #[.int .i64 m, .slice A n c] 31)) w') :=
    Lib.hid (ref_Odd m A n c l (p 0) w0 _ hl hg (fun j _ => hp 0 j) ((hr.below hb0).more hb0.size))
  have HL := Lib.hid hl
  have HG := Lib.hid hg
  have HR := Lib.hid hr
  have HPP := Lib.hid hp
  have HB0 := Lib.hid hb0
  have HK0 := Lib.hid hB0
  have c0 := hB0.cell 0
  have c1 := hB0.cell 1
  have hP1 := pow_lim hm
  obtain ⟨P, hP⟩ : ∃ P, P = 2 ^ m := ⟨_, rfl⟩
  have hP0 : 0 < P := by rw [hP]; exact Nat.two_pow_pos m
  have HLIM : Hid (wN (wShl w1 m) = (P : Int)) := by
    show wN (wShl w1 m) = (P : Int)
    rw [wN_pow (by omega), hP]
  rw [← hP] at hP1 ⊢
  clear hl hg hr hB0 hP hb0 hp
  go_enter Tryd.func35, Tryd.ntmps35
  go_wp2_with fail
  refine HOD0.out.mono ?_
  clear HOD0
  rintro e v1 ⟨rfl, hb1⟩
  have HB1 := Lib.hid (HB0.out.trans (hb1.mono (by rw [size_alloc']; omega)))
  have HK1 := Lib.hid (HK0.out.below hb1 (by rw [size_alloc']; omega))
  have HW1 := Lib.hid (wallP_one p m)
  clear hb1 c0 c1 HB0 HK0
  go_wp2_with fail
  go_loopw [5, 3, 4] (fun i s t wr => ∃ k : Nat, 1 ≤ k ∧ k ≤ P ∧ i = .int .u32 (wN (nw k)) ∧ s = .int .u32 (wN (wallP p m k).1) ∧ t = .int .i64 (wallP p m k).2 ∧ Below w.heap.size w wr ∧ Blk wr w.heap.size 31 #[.int .i64 m, .slice A n c]) (fun i _ _ _ => P - (intOf i).toNat)
  case atStart => exact ⟨1, Nat.le_refl _, by omega, rfl, by rw [HW1.out]; rfl, by rw [HW1.out], HB1.out, HK1.out⟩
  case round =>
    clear HB1 HK1 HW1
    rename World => wr
    obtain ⟨k, hk1, hk, rfl, rfl, rfl, hb, hblk⟩ := hrel
    have hkw := wN_nw (k := k) (by omega)
    have hkw1 := wN_nw (k := k + 1) (by omega)
    have HKW := Lib.hid hkw
    have HKW1 := Lib.hid hkw1
    have HSU := Lib.hid (nw_succ k)
    have hz := hb.size
    have hlt1 := hblk.lt
    have c0 := hblk.cell 0
    have c1 := hblk.cell 1
    have HB := Lib.hid hb
    have HK := Lib.hid hblk
    clear hb hblk
    by_cases hlt : k < P
    · have hlt' : wN (nw k) < wN (wShl w1 m) := by rw [hkw, HLIM.out]; omega
      have HSK := Lib.hid (@wallP_skip p m k)
      have HTK := Lib.hid (@wallP_take p m k)
      have HOC := Lib.hid (ref_Odd m A n c l (p k) (nw k) wr HL.out HG.out (fun j _ => HPP.out k j) ((HR.out.below HB.out).more hz))
      obtain ⟨b1, b2⟩ := wallP_bnd (p := p) (N := m) k
      have b3 := oddP_le (p k) (nw k) m m
      have hwn : wallN p m k = (oddP (p k) (nw k) m m : Int) - pop (nw k) := rfl
      obtain ⟨x, hx⟩ : ∃ x, x = nw k := ⟨_, rfl⟩
      obtain ⟨y, hy⟩ : ∃ y, y = (wallP p m k).1 := ⟨_, rfl⟩
      obtain ⟨z, hz'⟩ : ∃ z, z = (wallP p m k).2 := ⟨_, rfl⟩
      rw [← hx] at hlt' HOC b3 hwn ⊢
      rw [← hy]
      rw [← hz'] at b1 b2 ⊢
      obtain ⟨o, ho⟩ : ∃ o, o = oddP (p k) x m m := ⟨_, rfl⟩
      rw [← ho] at HOC b3 hwn
      have HX := Lib.hid hx
      have HY := Lib.hid hy
      have HZ' := Lib.hid hz'
      have p1 := pop_le x
      obtain ⟨px, hpx⟩ : ∃ q, q = pop x := ⟨_, rfl⟩
      rw [← hpx] at p1 hwn
      have HPX := Lib.hid hpx
      have HWN := Lib.hid hwn
      clear hx hy hz' hpx hkw hkw1 ho hwn
      go_wp2_with fail
      refine HOC.out.mono ?_
      clear HOC
      rintro e w3 ⟨rfl, hb3⟩
      have HB3 := Lib.hid (HB.out.trans (hb3.mono hz))
      have HK3 := Lib.hid (HK.out.below hb3 hlt1)
      clear hb3
      go_wp2_with fail
      refine (Size_any _ _).mono ?_
      rintro e w' ⟨rfl, rfl⟩
      rw [← HPX.out]
      by_cases hgt : z < (o : Int) - px
      · go_wp2_with fail
        go_roundw
        case rel => exact ⟨k + 1, by omega, by omega, by rw [HX.out, HSU.out], by rw [HTK.out (by rw [← HZ'.out, HWN.out]; exact hgt), ← HX.out], by rw [HTK.out (by rw [← HZ'.out, HWN.out]; exact hgt), HWN.out], HB3.out, HK3.out⟩
        case measure => rw [HX.out, HSU.out]; simp [intOf]; rw [HKW.out, HKW1.out]; omega
      · go_wp2_with fail
        go_roundw
        case rel => exact ⟨k + 1, by omega, by omega, by rw [HX.out, HSU.out], by rw [HSK.out (by rw [← HZ'.out, HWN.out]; exact hgt), ← HY.out], by rw [HSK.out (by rw [← HZ'.out, HWN.out]; exact hgt), ← HZ'.out], HB3.out, HK3.out⟩
        case measure => rw [HX.out, HSU.out]; simp [intOf]; rw [HKW.out, HKW1.out]; omega
    · obtain rfl : k = P := by omega
      have hge : ¬ wN (nw k) < wN (wShl w1 m) := by rw [hkw, HLIM.out]; omega
      obtain ⟨y, hy⟩ : ∃ y, y = (wallP p m k).1 := ⟨_, rfl⟩
      obtain ⟨z, hz'⟩ : ∃ z, z = (wallP p m k).2 := ⟨_, rfl⟩
      rw [← hy, ← hz']
      have HY := Lib.hid hy
      clear hkw hkw1 hy hz'
      go_wp2_with fail
      go_ret
      exact ⟨ret_u32 (by rw [HY.out]), HB.out⟩

set_option maxRecDepth 100000 in
set_option maxHeartbeats 1000000 in
theorem law_BondsWalls (N : Int) (A : Option Addr) (n c : Nat) (l : List Ed) (w : World) (htab : TabOk w) (hl : l.length = n) (hn : n ≤ maxLen) (hc : n ≤ c) (hr : Els w w.heap.size 3 Ed.cells A l) :
    Calls Tryd.prog 11 #[.agg #[.int .i64 N, .slice A n c]] w fun e w' => e = .returned (.bool true) ∧ Below w.heap.size w w' := by
  obtain ⟨p, hp⟩ := parts_ex l
  have h0w : 0 < w.heap.size := Nat.lt_of_le_of_lt (Nat.zero_le _) htab.1
  have hb0 := (Below.refl w.heap.size w).alloc (Nat.le_refl _) (.cells #[.int .i64 N, .slice A n c] 31)
  have hB0 := Blk.new w 31 #[.int .i64 N, .slice A n c]
  have HW := Lib.hid (bonds_Wall p N A n c l (w.alloc (.cells #[.int .i64 N, .slice A n c] 31)) hp hl hn ((hr.alloc (Nat.le_refl _) _).more (by rw [size_alloc']; omega)) (htab.below hb0 h0w))
  have HL := Lib.hid hl
  have HR := Lib.hid hr
  have HM := Lib.hid hn
  have HC := Lib.hid hc
  have HPP := Lib.hid hp
  have HB0 := Lib.hid hb0
  have HK0 := Lib.hid hB0
  have c0 := hB0.cell 0
  have c1 := hB0.cell 1
  clear hr hb0 hB0 hl hn hc htab hp
  go_enter Tryd.func11, Tryd.ntmps11
  go_wp2_with fail
  refine HW.out.mono ?_
  clear HW
  rintro e v1 ⟨r, rfl, hb1, hbad, hgood⟩
  have hk1 := HK0.out.below hb1 (by rw [size_alloc']; omega)
  have hb1' := HB0.out.trans (hb1.mono (by rw [size_alloc']; omega))
  have hz1 := hb1'.size
  have hlt1 := hk1.lt
  have HB1 := Lib.hid hb1'
  have HK1 := Lib.hid hk1
  have HBAD := Lib.hid hbad
  have HGOOD := Lib.hid hgood
  clear c0 c1 hb1 hb1' hbad hgood
  have c0 := hk1.cell 0
  have c1 := hk1.cell 1
  clear hk1
  have HGC := Lib.hid (ref_GraphCheck N A n c l v1 HL.out HM.out HC.out ((HR.out.below HB1.out).more hz1))
  go_wp2_with fail
  refine HGC.out.mono ?_
  clear HGC
  rintro e v2 ⟨rfl, hb2⟩
  have hk2 := HK1.out.below hb2 hlt1
  have hb2' := HB1.out.trans (hb2.mono hz1)
  have hz2 := hb2'.size
  have HB2 := Lib.hid hb2'
  clear c0 c1 hb2 hb2'
  by_cases h0 : graphCheck N l = 0
  · obtain ⟨m, rfl, rfl⟩ := HGOOD.out h0
    obtain ⟨m', hm', hg⟩ := graph_good h0
    obtain rfl : m = m' := by omega
    have HGD := Lib.hid (ref_Wall p m A n c l v2 HPP.out HL.out hg ((HR.out.below HB2.out).more hz2))
    rw [h0]
    have c0 := hk2.cell 0
    have c1 := hk2.cell 1
    have hbb : ∀ x : BitVec 32, (x == x) = true := fun x => by simp
    have HBB := Lib.hid (hbb (wallP p m (2 ^ m)).1)
    obtain ⟨y, hy⟩ : ∃ y, y = (wallP p m (2 ^ m)).1 := ⟨_, rfl⟩
    rw [← hy] at HGD HBB ⊢
    clear h0 hm' hg HBAD HGOOD hk2 hbb hy
    go_wp2_with fail
    refine HGD.out.mono ?_
    clear HGD
    rintro e v3 ⟨rfl, hb3⟩
    have HB3 := Lib.hid (HB2.out.trans (hb3.mono hz2))
    have hyy : (y == y) = true := HBB.out
    clear hb3
    go_wp2_with fail
    go_ret
    exact ⟨rfl, HB3.out⟩
  · have hr0 := HBAD.out h0
    subst hr0
    have h1 : (graphCheck N l != 0) = true := by simpa using h0
    have h2 : (graphCheck N l == graphCheck N l) = true := by simp
    have h3 : wN w0 = 0 := rfl
    rw [h3]
    clear HBAD HGOOD h3 hk2
    generalize graphCheck N l = x at h1 h2
    clear h0
    go_wp2_with fail
    go_ret
    exact ⟨rfl, HB2.out⟩
theorem BondsWalls_row (N : Int) (s : Sls (Int × Int × Int)) (w : World) (htab : TabOk w) (_hN : OkI N) (h : s.Good w w.heap.size 3 (fun p => [.int .i64 p.1, .int .i64 p.2.1, .int .i64 p.2.2]) (fun p => OkI p.1 ∧ OkI p.2.1 ∧ OkI p.2.2)) :
    Calls Tryd.prog 11 #[.agg #[.int .i64 N, s.val]] w fun e w' => e = .returned (.bool true) ∧ Below w.heap.size w w' :=
  law_BondsWalls N s.A s.l.length s.c (s.l.map Ed.of) w htab (by simp) h.1 h.2.1 (h.2.2.1.map_ Ed.of fun _ _ => rfl)
end Go.Proofs.YtnpcbbdfpbnakaaDoor
