/- In how many ways the edges may be turned so that nothing comes round: the program's walk. Conditions: the graph is one; the table. -/
import Derived.Test.YtokmialpclcodaaDoorTurnA
import Derived.Test.YtokmialpclcodaaDoorNear
import Derived.Test.YtokmialpclcodaaDoorGraphA
import Derived.IntWalk
namespace Go.Proofs.YtokmialpclcodaaDoor
open Go.RowKit Go.Shelf
attribute [local go_sem ↓] w_and w_or w_xor w_andNot w_and1 w_and255 w_xor1 w_or0 w_shl w_shl1 w_shr w_sub w_add w_sub1 w_add1
attribute [local go_sem] w_eq0 w_ne0 w_eq1 w_eq w_ne

theorem wrap_in {x : Int} (h : -9000000000000000000 ≤ x ∧ x ≤ 9000000000000000000) : IntKind.i64.wrap x = x := IntWalk.i64_in _ (by omega)
theorem pop_in {N : Nat} {y : BitVec 32} (hy : InW N y) (hN : N ≤ 32) : pop y = popTo y N := by
  have : ∀ d, N + d ≤ 32 → popTo y (N + d) = popTo y N := fun d => by
    induction d with
    | zero => exact fun _ => rfl
    | succ d ih =>
      intro h
      rw [show N + (d + 1) = N + d + 1 by omega, popTo_succ, ih (by omega), bitB_nat]
      cases hb : y.getLsbD (N + d) with
      | false => rfl
      | true => have := hy _ hb; omega
  have h := this (32 - N) (by omega)
  rw [show N + (32 - N) = 32 by omega] at h
  exact h
theorem in_nw {N k : Nat} (hN : N ≤ 31) (hk : k < 2 ^ N) : InW N (nw k) := fun j hj => by
  have h32 : k < 4294967296 := Nat.lt_of_lt_of_le hk (Nat.le_trans (Nat.pow_le_pow_right (by omega) hN) (by decide))
  have hb : k.testBit j = true := by
    have := hj
    unfold BitVec.getLsbD at this
    rwa [nwt_toNat h32] at this
  rcases Nat.lt_or_ge j N with h | h
  · exact h
  · rw [Nat.testBit_lt_two_pow (Nat.lt_of_lt_of_le hk (Nat.pow_le_pow_right (by omega) h))] at hb; cases hb
/-- A part's rest, as a number. -/
theorem but_less {k s : Nat} (hk : k < 4294967296) (h0 : 0 < s) (hs : s &&& k = s) : (wBut (nw k) (nw s)).toNat < k := by
  have hsk := sub_le hs
  have hbit : ∀ i, (wBut (nw k) (nw s)).toNat.testBit i = (k.testBit i && !s.testBit i) := fun i => by
    have h := b_but (nw k) (nw s) i
    have e1 : (nw k).getLsbD i = k.testBit i := by unfold BitVec.getLsbD; rw [nwt_toNat hk]
    have e2 : (nw s).getLsbD i = s.testBit i := by unfold BitVec.getLsbD; rw [nwt_toNat (by omega)]
    rw [e1, e2] at h
    exact h
  have hle : (wBut (nw k) (nw s)).toNat ≤ k := sub_le (sub_of_bits fun i hi => by
    rw [hbit, Bool.and_eq_true] at hi
    exact hi.1)
  refine Nat.lt_of_le_of_ne hle fun e => ?_
  obtain ⟨j, hj⟩ := Nat.exists_testBit_of_ne_zero (show s ≠ 0 by omega)
  have h1 := bit_sub hs hj
  have h2 := hbit j
  rw [e, h1, hj] at h2
  cases h2
theorem and_nw {a b : Nat} (ha : a < 4294967296) : wAnd (nw a) (nw b) = nw (a &&& b) := w_ext fun j _ => by
  rw [b_and]
  unfold nw
  rw [BitVec.getLsbD_ofNat, BitVec.getLsbD_ofNat, BitVec.getLsbD_ofNat, Nat.testBit_and]
  cases decide (j < 32) <;> simp
theorem pred_nw (k : Nat) : wSub (nw (k + 1)) w1 = nw k := by
  unfold wSub nw w1
  apply BitVec.eq_of_toNat_eq
  rw [BitVec.toNat_sub, BitVec.toNat_ofNat, BitVec.toNat_ofNat]
  show (2 ^ 32 - 1 + (k + 1) % 2 ^ 32) % 2 ^ 32 = k % 2 ^ 32
  omega
theorem getD_set {l : List Int} {i : Nat} {x : Int} {k : Nat} (hi : i < l.length) : (l.set i x).getD k 0 = if i = k then x else l.getD k 0 := by
  rw [List.getD_eq_getElem?_getD, List.getElem?_set]
  by_cases h : i = k
  · subst h; rw [if_pos rfl, if_pos rfl, if_pos hi]; rfl
  · rw [if_neg h, if_neg h, ← List.getD_eq_getElem?_getD]
theorem getD_rep (P k : Nat) : (List.replicate P (0 : Int)).getD k 0 = 0 := by
  rw [List.getD_eq_getElem?_getD, List.getElem?_replicate]
  split <;> rfl
theorem pow_15 {p : Nat} (h : p ≤ 10) : (15 : Int) ^ p ≤ 1099511627776 := by
  have : ∀ i : Fin 11, (15 : Int) ^ i.val ≤ 1099511627776 := by decide +kernel
  exact this ⟨p, by omega⟩
theorem pw_wrap {N : Nat} (h : N ≤ 10) : wrap64 ((2 : Int) ^ N) = ((2 ^ N : Nat) : Int) ∧ IntKind.i64.wrap ((2 : Int) ^ N) = ((2 ^ N : Nat) : Int) := by
  have : ∀ i : Fin 11, wrap64 ((2 : Int) ^ i.val) = ((2 ^ i.val : Nat) : Int) ∧ IntKind.i64.wrap ((2 : Int) ^ i.val) = ((2 ^ i.val : Nat) : Int) := by decide +kernel
  exact this ⟨N, by omega⟩
/-- The table up to k. -/
def TabA (N : Nat) (es : List Ed) (P k : Nat) (v : Int) (L : List Int) : Prop := L.length = P ∧ (∀ j, j < k → L.getD j 0 = aW N (looseB es) (nw j)) ∧ L.getD k 0 = v ∧ ∀ j, k < j → L.getD j 0 = 0
set_option maxRecDepth 100000 in
set_option maxHeartbeats 2000000 in
theorem col_Turned (N n c : Nat) (A : Option Addr) (es : List Ed) (w : World) (hl : es.length = n) (hg : GoodG N es) (he : graphCheck N es = 0) (hr : Els w w.heap.size 3 Ed.cells A es) (ht : TabOk w) :
    Calls Tryd.prog 15 #[.agg #[.int .i64 N, .slice A n c]] w fun e w' => e = .returned (.tuple #[.int .i64 (aW N (looseB es) (maskW N)), .int .i64 0]) ∧ Below w.heap.size w w' := by
  have hN10 := hg.n10
  have hn45 : n ≤ 45 := by rw [← hl]; exact hg.m45
  have h0w := ht.1
  obtain ⟨S, hS⟩ : ∃ S, S = w.heap.size := ⟨_, rfl⟩
  have b0 := Blk.new w 33 #[.int .i64 N, .slice A n c]
  have c0 := b0.cell 0
  have c1 := b0.cell 1
  obtain ⟨W1, hW1⟩ : ∃ W1, W1 = w.alloc (.cells #[.int .i64 N, .slice A n c] 33) := ⟨_, rfl⟩
  have hb1 : Below S w W1 := by rw [hW1, hS]; exact (Below.refl _ w).alloc (Nat.le_refl _) _
  have hz1 : W1.heap.size = S + 1 := by rw [hW1, size_alloc', hS]
  rw [← hW1, ← hS] at b0
  rw [← hS] at hr
  have hc0 := graph_Check N A n c es W1 hl (by unfold maxLen; omega) ((hr.below hb1).more (by omega))
  rw [he] at hc0
  rw [hW1] at hc0
  have HC := Lib.hid hc0
  have HR := Lib.hid hr
  have HT := Lib.hid ht
  have HB0 := Lib.hid b0
  have HB1 := Lib.hid hb1
  have HL := Lib.hid hl
  have HG := Lib.hid hg
  have HW1 := Lib.hid hW1
  have HS := Lib.hid hS
  have hS0 : 0 < S := by omega
  clear hc0 hr ht b0 hb1 hl hW1 he hS
  go_enter Tryd.func15, Tryd.ntmps15
  go_wp2_with fail
  refine HC.out.mono ?_
  clear HC
  rintro e v1 ⟨rfl, hbv⟩
  rw [size_alloc', ← HS.out, ← HW1.out] at hbv
  have hk1 := HB0.out.below hbv (by omega)
  have hb2 := HB1.out.trans (hbv.mono (by omega))
  have hzv := hbv.size
  have c0 := hk1.cell 0
  have c1 := hk1.cell 1
  have HNEAR := Lib.hid (graph_Near N A n c es v1 HL.out HG.out ((HR.out.below hb2).more (by omega)))
  have HK1 := Lib.hid hk1
  have HB2 := Lib.hid hb2
  clear hbv hk1 hb2 HB0 HB1
  rw [← HS.out]
  go_wp2_with fail
  refine HNEAR.out.mono ?_
  clear HNEAR
  rintro e v2 ⟨A2, rfl, hb3, hown⟩
  have hk2 := HK1.out.below hb3 (by have := HK1.out.lt; omega)
  have HB3 := Lib.hid (HB2.out.trans (hb3.mono (by omega)))
  have hz3 := hb3.size
  have c0 := hk2.cell 0
  have HNR := Lib.hid hown.els
  have HK2 := Lib.hid hk2
  have HT2 : Hid (TabOk v2) := Lib.hid (HT.out.below HB3.out (by omega))
  obtain ⟨P, hP⟩ : ∃ P, P = 2 ^ N := ⟨_, rfl⟩
  have hP1 : 1 ≤ P := by rw [hP]; exact Nat.one_le_two_pow
  have hP2 : P ≤ 1024 := by rw [hP]; exact Nat.pow_le_pow_right (n := 2) (by omega) (show N ≤ 10 from hN10)
  have hlim : wN (wShl w1 N) = (P : Int) := by
    have := wN_shl1 (n := N) (by omega)
    show ((wShl w1 N).toNat : Int) = P
    rw [this, hP]
  have HLIM := Lib.hid hlim
  have HP := Lib.hid hP
  have hpn := (pw_wrap (N := N) hN10).1
  have hpi := (pw_wrap (N := N) hN10).2
  rw [← hP] at hpn hpi
  clear hb3 hown hk2 HB2 HK1 hP hlim
  go_wp2_with (at_make; go_loud (refine wpList_make1 rfl _ _ _ rfl v2.heap.size 2 8 (fun x => .int .i64 x) 0 Tryd.underlying62 (by kernel_rfl) rfl v2 .i64 .i64 P rfl rfl (by omega) (by unfold maxLen; omega) (Nat.le_refl _) ?_; intro v3 hown3 hgrow3; obtain ⟨g3, hg3, _, _, y0, y1⟩ := hown3.cell1 (f := fun x : Int => .int .i64 x) (k := 0) (by simp; omega); obtain rfl : v2.heap.size = g3 := by simpa using hg3))
  have hh := hown3.put1 (f := fun x : Int => .int .i64 x) (k := 0) (x := 1) (by simp; omega)
  have hb4 := (HB3.out.grown hgrow3 (by omega) (fun g hg => by cases hg)).setCell (p := ⟨v2.heap.size, 0, none⟩) (show S ≤ v2.heap.size by omega) (.int .i64 1)
  have hk4 := (HK2.out.grown hgrow3 (by simp)).far (p := ⟨v2.heap.size, 0, none⟩) (show S ≠ v2.heap.size by have := HK2.out.lt; omega) (.int .i64 1)
  have hbl : Below v2.heap.size v2 (v3.setCell ⟨v2.heap.size, 0, none⟩ (.int .i64 1)) := ((Below.refl _ v2).grown hgrow3 (Nat.le_refl _) (fun g hg => by cases hg)).setCell (p := ⟨v2.heap.size, 0, none⟩) (Nat.le_refl _) _
  obtain ⟨G, hG⟩ : ∃ G, G = v2.heap.size := ⟨_, rfl⟩
  obtain ⟨V, hV⟩ : ∃ V, V = v3.setCell ⟨v2.heap.size, 0, none⟩ (.int .i64 1) := ⟨_, rfl⟩
  rw [← hG] at hh hb4 hk4 hbl hV ⊢
  rw [← hV] at hh hb4 hk4 hbl
  have htb : TabA N es P 1 0 ((List.replicate P 0).set 0 1) := by
    refine ⟨by simp, fun j hj => ?_, ?_, fun j hj => ?_⟩
    · obtain rfl : j = 0 := by omega
      rw [getD_set (by simp; omega), if_pos rfl]
      exact aW_0.symm
    · rw [getD_set (by simp; omega), if_neg (by omega)]; exact getD_rep ..
    · rw [getD_set (by simp; omega), if_neg (by omega)]; exact getD_rep ..
  have HH := Lib.hid hh
  have HB4 := Lib.hid hb4
  have HK4 := Lib.hid hk4
  have HBL := Lib.hid hbl
  have HTB := Lib.hid htb
  have HV := Lib.hid hV
  have HGG := Lib.hid hG
  have hGS : S < G := by rw [hG]; exact HK2.out.lt
  clear hh hb4 hk4 hbl htb hg3 y0 y1 hown3 hgrow3 hG HB3 HK2 hV
  rw [← HV.out]
  go_loopw [7] (fun s7 wr => ∃ (k : Nat) (L : List Int), 1 ≤ k ∧ k ≤ P ∧ s7 = .int .u32 (wN (nw k)) ∧ Below S w wr ∧ Below G v2 wr ∧ Blk wr S 33 #[.int .i64 N, .slice A n c] ∧ Own wr G 2 1 icell (some ⟨G, 0, none⟩) P L ∧ TabA N es P k 0 L) (fun s7 _ => P - (intOf s7).toNat)
  case atStart => exact ⟨1, _, Nat.le_refl _, hP1, rfl, HB4.out, HBL.out, HK4.out, HH.out, HTB.out⟩
  case round =>
    clear HB4 HBL HK4 HH HTB HV
    rename World => wr
    obtain ⟨k, L, hk1, hkP, rfl, hb, hbl, hkb, hown, htb⟩ := hrel
    have hwk : wN (nw k) = k := wN_nw (by omega)
    have hz := hb.size
    have HWK := Lib.hid hwk
    have c0 := hkb.cell 0
    have HB := Lib.hid hb
    have HBL := Lib.hid hbl
    have HKB := Lib.hid hkb
    have HO := Lib.hid hown
    have HTB := Lib.hid htb
    by_cases hlt : k < P
    · have hlt' : wN (nw k) < wN (wShl w1 N) := by rw [hwk, HLIM.out]; omega
      obtain ⟨X, hX⟩ : ∃ X, X = nw k := ⟨_, rfl⟩
      rw [← hX] at hlt' ⊢
      have HX := Lib.hid hX
      have hin : InW N X := by rw [hX]; exact in_nw (by omega) (by rw [← HP.out]; exact hlt)
      have hX0 : X ≠ w0 := fun e => by
        have : wN (nw k) = wN w0 := by rw [← hX, e]
        rw [hwk] at this
        have h2 : wN w0 = 0 := rfl
        omega
      have hXt : X.toNat = k := by rw [hX, nwt_toNat (by omega)]
      have hstep := aW_step (A := looseB es) (n := N) (by omega) (loose_0 es HG.out) hin (by rw [hXt, ← HP.out]; exact hlt) hX0
      rw [hXt] at hstep
      have HST := Lib.hid hstep
      have HIN := Lib.hid hin
      have hgb := fun s => gW_bound (A := looseB es) (n := N) (w := X) (by omega) hin (fun t _ _ => ⟨aW_nn (by omega) (loose_0 es HG.out) (loose_ins HG.out) (in_but hin _), aW_le hN10 (loose_0 es HG.out) (loose_ins HG.out) _ (Nat.le_refl _) (in_but hin _)⟩) s
      have HGB : Hid (∀ s, s ≤ k → -1099511627776 ≤ dsum (gW N (looseB es) X) k s ∧ dsum (gW N (looseB es) X) k s ≤ 1099511627776) := Lib.hid (fun s hs => by
        have h1 := hgb s
        rw [hXt] at h1
        have h2 := dsum_grow (f := bW N X) (fun t => bW_nn N X t) k hs
        have h3 := bW_all (n := N) (w := X) (by omega) (by rw [hXt, ← HP.out]; exact hlt)
        rw [hXt] at h3
        have h4 := pow_16 (popTo X N) (by have := pop_n (n := N) X; omega)
        have h5 : (0 : Int) ≤ 15 ^ popTo X N := Int.pow_nonneg (by decide)
        omega)
      clear hb hbl hkb hown htb hX hwk hXt hstep hgb hin
      go_wp2_with fail
      go_loopw [8] (fun s8 w2 => ∃ (s : Nat) (L' : List Int), s ≤ k ∧ s &&& k = s ∧ s8 = .int .u32 (wN (nw s)) ∧ Below S w w2 ∧ Below G v2 w2 ∧ Blk w2 S 33 #[.int .i64 N, .slice A n c] ∧ Own w2 G 2 1 icell (some ⟨G, 0, none⟩) P L' ∧ TabA N es P k (aW N (looseB es) X - dsum (gW N (looseB es) X) k s) L') (fun s8 _ => (intOf s8).toNat)
      case atStart => exact ⟨k, L, Nat.le_refl _, Nat.and_self k, by rw [HX.out], HB.out, HBL.out, HKB.out, HO.out, by rw [HST.out, Int.sub_self]; exact HTB.out⟩
      case round =>
        clear HB HBL HKB HO HTB c0
        rename World => w2
        obtain ⟨s, L', hsk, hsub, rfl, hb, hbl, hkb, hown, htb⟩ := hrel
        have hws : wN (nw s) = s := wN_nw (by omega)
        have hz2 := hb.size
        have HB := Lib.hid hb
        have HBL := Lib.hid hbl
        have HKB := Lib.hid hkb
        have HO := Lib.hid hown
        have HTB := Lib.hid htb
        by_cases hs0 : s = 0
        · subst hs0
          rw [dsum_0, Int.sub_zero] at htb
          have hz0 : (nw 0 != w0) = false := rfl
          have htn : TabA N es P (k + 1) 0 L' := by
            obtain ⟨h1, h2, h3, h4⟩ := htb
            refine ⟨h1, fun j hj => ?_, h4 (k + 1) (by omega), fun j hj => h4 j (by omega)⟩
            by_cases e : j = k
            · rw [e, h3, HX.out]
            · exact h2 j (by omega)
          have HTN := Lib.hid htn
          have hsu : wAdd X w1 = nw (k + 1) := by rw [HX.out, nw_succ]
          have HSU := Lib.hid hsu
          clear hb hbl hkb hown htb htn hws hsu
          go_wp2_with fail
          go_roundw
          case rel => exact ⟨k + 1, L', by omega, by omega, by rw [HSU.out], HB.out, HBL.out, HKB.out, HO.out, HTN.out⟩
          case measure => (show P - (wN (wAdd X w1)).toNat < P - (wN X).toNat; rw [HSU.out, HX.out, wN_nw (by omega), wN_nw (by omega)]; omega)
        · have hs0' : 0 < s := by omega
          obtain ⟨s', hs'⟩ : ∃ s', s' = (s - 1) &&& k := ⟨_, rfl⟩
          have hlt2 := sub_lt (w := k) hs0'
          rw [← hs'] at hlt2
          have hsub' := sub_sub k s
          rw [← hs'] at hsub'
          have hd := dsum_s (gW N (looseB es) X) hsub hs0'
          rw [← hs'] at hd
          have hnx : wAnd (wSub (nw s) w1) X = nw s' := by
            obtain ⟨r, rfl⟩ : ∃ r, s = r + 1 := ⟨s - 1, by omega⟩
            rw [pred_nw, HX.out, and_nw (by omega), hs', Nat.add_sub_cancel]
          have hyin : InW N (nw s) := in_nw (by omega) (by rw [← HP.out]; omega)
          have hql := but_less (k := k) (s := s) (by omega) hs0' hsub
          have hne0 : (nw s != w0) = true := by
            rw [bne_iff_ne]
            intro e
            have : wN (nw s) = wN w0 := by rw [e]
            rw [hws] at this
            have h2 : wN w0 = 0 := rfl
            omega
          rw [← HX.out] at hql
          obtain ⟨y, hy⟩ : ∃ y, y = nw s := ⟨_, rfl⟩
          rw [← hy] at hd hnx hyin hql hne0 ⊢
          have HAP := Lib.hid (col_apart N es HG.out A2 N G y hyin w2 (by have := (hown.lt G rfl).2; omega) (by
            have := HNR.out.below (by rw [← HGG.out]; exact hbl)
            rwa [← HGG.out] at this) (HT2.out.below hbl (by omega)))
          have HY := Lib.hid hy
          have HNX := Lib.hid hnx
          have HS' := Lib.hid hlt2
          have HSUB := Lib.hid hsub'
          have HPOP := Lib.hid (pop_in hyin (by omega))
          have hpl := popTo_le y 32
          have hb2 := HGB.out s (by omega)
          have hb3 := HGB.out s' (by omega)
          clear hb hbl hkb hown htb hy hnx hlt2 hsub' hyin hs' hws hsub hs0
          go_wp2_with fail
          refine HAP.out.mono ?_
          clear HAP
          rintro e w3 ⟨rfl, hb⟩
          have HB3 := Lib.hid (HB.out.trans (hb.mono (by have := HS.out; omega)))
          have hglt := (HO.out.lt G rfl).2
          have HBL3 := Lib.hid (HBL.out.trans (hb.mono (by omega)))
          have HKB3 := Lib.hid (HKB.out.below hb HKB.out.lt)
          have HO3 := Lib.hid (HO.out.below hb (Nat.le_refl _))
          clear hb
          cases hlo : looseB es y with
          | false =>
            have hgw : gW N (looseB es) X y = 0 := by unfold gW; rw [hlo]; rfl
            have HTN : Hid (TabA N es P k (aW N (looseB es) X - dsum (gW N (looseB es) X) k s') L') := Lib.hid (by
              have := HTB.out
              rw [hd, hgw, Int.zero_add] at this
              exact this)
            clear hgw hlo hd
            go_wp2_with fail
            go_roundw
            case rel => exact ⟨s', L', by have := HS'.out; omega, HSUB.out, by rw [HNX.out], HB3.out, HBL3.out, HKB3.out, HO3.out, HTN.out⟩
            case measure => (show (wN (wAnd (wSub y w1) X)).toNat < (wN y).toNat; rw [HNX.out, HY.out, wN_nw (by have := HS'.out; omega), wN_nw (by omega)]; have := HS'.out; omega)
          | true =>
            have HLO := Lib.hid hlo
            clear hlo
            go_wp2_with fail
            refine (OnesCount32_any y w3).mono ?_
            rintro e w4 ⟨rfl, md, hw4⟩
            have HB4 : Hid (Below S w w4) := Lib.hid (by rw [hw4]; exact below_drewN HB3.out _)
            have HBL4 : Hid (Below G v2 w4) := Lib.hid (by rw [hw4]; exact below_drewN HBL3.out _)
            have HKB4 : Hid (Blk w4 S 33 #[.int .i64 N, .slice A n c]) := Lib.hid (by rw [hw4]; exact HKB3.out.drewN _)
            have hown4 : Own w4 G 2 1 icell (some ⟨G, 0, none⟩) P L' := by rw [hw4]; exact HO3.out.drewN _
            clear hw4
            obtain ⟨m, hm⟩ : ∃ m, m = pop y := ⟨_, rfl⟩
            rw [← hm] at HPOP ⊢
            have hm32 : m ≤ 32 := by rw [hm]; exact hpl
            have hX0 := wN_nonneg X
            have hXP : wN X < (P : Int) := by rw [HX.out, HWK.out]; omega
            have hZ0 := wN_nonneg (wBut X y)
            have hZP : wN (wBut X y) < (P : Int) := by
              have : wN (wBut X y) = ((wBut X y).toNat : Int) := rfl
              omega
            obtain ⟨v, hv⟩ : ∃ v, v = aW N (looseB es) X - dsum (gW N (looseB es) X) k s := ⟨_, rfl⟩
            obtain ⟨a, ha⟩ : ∃ a, a = aW N (looseB es) (wBut X y) := ⟨_, rfl⟩
            have htab := HTB.out
            have hlen : L'.length = P := htab.1
            have hkl : k < L'.length := by omega
            have hXk : (wN X).toNat = k := by rw [HX.out, HWK.out]; rfl
            have hZq : (wN (wBut X y)).toNat = (wBut X y).toNat := rfl
            have hqL : (wBut X y).toNat < L'.length := by omega
            obtain ⟨g1, hg1, _, _, y0, f0⟩ := hown4.cell1 (f := fun x : Int => .int .i64 x) (k := k) hkl
            obtain rfl : G = g1 := by simpa using hg1
            obtain ⟨g2, hg2, _, _, y1, _⟩ := hown4.cell1 (f := fun x : Int => .int .i64 x) (k := (wBut X y).toNat) hqL
            obtain rfl : G = g2 := by simpa using hg2
            rw [← getD_at L' k hkl 0, htab.2.2.1, ← hv] at y0
            rw [← getD_at L' _ hqL 0, htab.2.1 _ hql, nw_toNat, ← ha] at y1
            have haN : 0 ≤ a ∧ a ≤ 1099511627776 := by
              rw [ha]
              refine ⟨aW_nn (by omega) (loose_0 es HG.out) (loose_ins HG.out) (in_but HIN.out _), Int.le_trans (aW_le hN10 (loose_0 es HG.out) (loose_ins HG.out) _ (Nat.le_refl _) (in_but HIN.out _)) ?_⟩
              exact pow_15 (by have := pop_n (n := N) (wBut X y); omega)
            have haX : 0 ≤ aW N (looseB es) X ∧ aW N (looseB es) X ≤ 1099511627776 := by
              refine ⟨aW_nn (by omega) (loose_0 es HG.out) (loose_ins HG.out) HIN.out, Int.le_trans (aW_le hN10 (loose_0 es HG.out) (loose_ins HG.out) _ (Nat.le_refl _) HIN.out) ?_⟩
              exact pow_15 (by have := pop_n (n := N) X; omega)
            have hvb : -2199023255552 ≤ v ∧ v ≤ 2199023255552 := by omega
            rw [← hZq] at y1
            have HMM := Lib.hid hm
            clear hg1 hg2 hZq hqL hlen hm
            by_cases hodd : m % 2 = 1
            · have hgw : gW N (looseB es) X y = a := by
                unfold gW
                rw [if_pos HLO.out, ← HPOP.out, if_pos hodd, ha]
              have hnv : aW N (looseB es) X - dsum (gW N (looseB es) X) k s' = v + a := by rw [hv, hd, hgw]; omega
              have hrm3 : (((m : Int) % 2) == 1) = true := by
                rw [beq_iff_eq]; omega
              have hwr : IntKind.i64.wrap (v + a) = v + a := wrap_in (by omega)
              have htn : TabA N es P k (aW N (looseB es) X - dsum (gW N (looseB es) X) k s') (L'.set k (v + a)) := by
                obtain ⟨h1, h2, h3, h4⟩ := HTB.out
                refine ⟨by rw [List.length_set]; exact h1, fun j hj => ?_, ?_, fun j hj => ?_⟩
                · rw [getD_set (by omega), if_neg (by omega)]; exact h2 j hj
                · rw [getD_set (by omega), if_pos rfl, hnv]
                · rw [getD_set (by omega), if_neg (by omega)]; exact h4 j hj
              have hput := hown4.put1 (f := fun x : Int => .int .i64 x) (k := k) (x := v + a) hkl
              have HTN := Lib.hid htn
              have HPUT := Lib.hid hput
              clear hgw hnv htn hput hd hv ha hodd hown4 htab
              go_wp2_with fail
              refine region_plain 12 13 (fun w' => w' = w4.drew) (by kernel_rfl) rfl ?_
              refine anyC_reads (by kernel_rfl) [0, 1, 2, 3, 4, 5, 6, 7, 8, 9, 10, 11] ?opc ?ohc 1 _ _ _ (by kernel_rfl) ?okc
              case ohc => (simp only [List.filterMap_cons, List.filterMap_nil, List.getElem?_toArray, List.getElem?_cons_zero, List.getElem?_cons_succ]; try rfl)
              repeat (
                refine readC_step (v := ?_) rfl (fun w' hw' => ?_) ?_
                rotate_left
                focus (subst hw'; go_simp; try with_reducible rfl)
                go_simp)
              refine readC_nil ?_
              refine anyC_one (i := 12) (by kernel_rfl) rfl rfl (.inr rfl) ?_
              go_simp
              refine anyC_end (by kernel_rfl) (.inl (by kernel_rfl)) ?_
              go_wp2_with fail
              go_roundw
              case rel => exact ⟨s', _, by have := HS'.out; omega, HSUB.out, by rw [HNX.out], (HB4.out.setCell (p := ⟨G, k, none⟩) (show S ≤ G by omega) _).drew, (HBL4.out.setCell (p := ⟨G, k, none⟩) (Nat.le_refl _) _).drew, (HKB4.out.far (p := ⟨G, k, none⟩) (show S ≠ G by omega) _).drew, HPUT.out.drew, HTN.out⟩
              case measure => (show (wN (wAnd (wSub y w1) X)).toNat < (wN y).toNat; rw [HNX.out, HY.out, wN_nw (by have := HS'.out; omega), wN_nw (by omega)]; have := HS'.out; omega)
            · have hgw : gW N (looseB es) X y = -a := by
                unfold gW
                rw [if_pos HLO.out, ← HPOP.out, if_neg hodd, ha]
              have hnv : aW N (looseB es) X - dsum (gW N (looseB es) X) k s' = v - a := by rw [hv, hd, hgw]; omega
              have hrm3 : (((m : Int) % 2) == 1) = false := by
                rw [beq_eq_false_iff_ne]; omega
              have hrm4 : ¬ (m : Int) % 2 = 1 := by omega
              have hrm5 : ¬ ((((m : Int) % 2) == 1) = true) := by rw [hrm3]; decide
              have hwr : IntKind.i64.wrap (v - a) = v - a := wrap_in (by omega)
              have htn : TabA N es P k (aW N (looseB es) X - dsum (gW N (looseB es) X) k s') (L'.set k (v - a)) := by
                obtain ⟨h1, h2, h3, h4⟩ := HTB.out
                refine ⟨by rw [List.length_set]; exact h1, fun j hj => ?_, ?_, fun j hj => ?_⟩
                · rw [getD_set (by omega), if_neg (by omega)]; exact h2 j hj
                · rw [getD_set (by omega), if_pos rfl, hnv]
                · rw [getD_set (by omega), if_neg (by omega)]; exact h4 j hj
              have hput := hown4.put1 (f := fun x : Int => .int .i64 x) (k := k) (x := v - a) hkl
              have HTN := Lib.hid htn
              have HPUT := Lib.hid hput
              clear hgw hnv htn hput hd hv ha hodd hown4 htab
              go_wp2_with fail
              refine region_plain 12 13 (fun w' => w' = w4.drew) (by kernel_rfl) rfl ?_
              refine anyC_reads (by kernel_rfl) [0, 1, 2, 3, 4, 5, 6, 7, 8, 9, 10, 11] ?opd ?ohd 1 _ _ _ (by kernel_rfl) ?okd
              case ohd => (simp only [List.filterMap_cons, List.filterMap_nil, List.getElem?_toArray, List.getElem?_cons_zero, List.getElem?_cons_succ]; try rfl)
              repeat (
                refine readC_step (v := ?_) rfl (fun w' hw' => ?_) ?_
                rotate_left
                focus (subst hw'; go_simp; try with_reducible rfl)
                go_simp)
              refine readC_nil ?_
              refine anyC_one (i := 12) (by kernel_rfl) rfl rfl (.inr rfl) ?_
              go_simp
              refine anyC_end (by kernel_rfl) (.inl (by kernel_rfl)) ?_
              go_wp2_with fail
              go_roundw
              case rel => exact ⟨s', _, by have := HS'.out; omega, HSUB.out, by rw [HNX.out], (HB4.out.setCell (p := ⟨G, k, none⟩) (show S ≤ G by omega) _).drew, (HBL4.out.setCell (p := ⟨G, k, none⟩) (Nat.le_refl _) _).drew, (HKB4.out.far (p := ⟨G, k, none⟩) (show S ≠ G by omega) _).drew, HPUT.out.drew, HTN.out⟩
              case measure => (show (wN (wAnd (wSub y w1) X)).toNat < (wN y).toNat; rw [HNX.out, HY.out, wN_nw (by have := HS'.out; omega), wN_nw (by omega)]; have := HS'.out; omega)
    · have hkp : k = P := by omega
      have hge : ¬ wN (nw k) < wN (wShl w1 N) := by rw [hwk, HLIM.out]; omega
      obtain ⟨X, hX⟩ : ∃ X, X = nw k := ⟨_, rfl⟩
      rw [← hX] at hge ⊢
      have htab := HTB.out
      have hpn' : P - 1 < L.length := by rw [htab.1]; omega
      obtain ⟨g1, hg1, _, _, y0, _⟩ := HO.out.cell1 (f := fun x : Int => .int .i64 x) (k := P - 1) hpn'
      obtain rfl : G = g1 := by simpa using hg1
      have hlast : nw (P - 1) = maskW N := by
        rw [HP.out]
        unfold maskW nw wSub
        apply BitVec.eq_of_toNat_eq
        have h1 := Nat.one_le_two_pow (n := N)
        have h2 : 2 ^ N ≤ 1024 := Nat.pow_le_pow_right (n := 2) (by omega) (show N ≤ 10 from hN10)
        rw [BitVec.toNat_sub, BitVec.toNat_ofNat, wN_shl1 (by omega)]
        show (2 ^ N - 1) % 2 ^ 32 = (2 ^ 32 - 1 + 2 ^ N) % 2 ^ 32
        omega
      rw [← getD_at L _ hpn' 0, htab.2.1 (P - 1) (by omega), hlast] at y0
      have hpm : ((P : Int) - 1).toNat = P - 1 := by omega
      have hpw : IntKind.i64.wrap ((P : Int) - 1) = (P : Int) - 1 := wrap_in (by omega)
      have hp0 : (0 : Int) ≤ (P : Int) - 1 := by omega
      have hpl : (P : Int) - 1 < (P : Int) := by omega
      clear hX hwk hg1 htab hlast
      go_wp2_with fail
      refine bodyPost_ret (v := .tuple #[.int .i64 (aW N (looseB es) (maskW N)), .int .i64 0]) (by simp [results, Tryd.results15, go_sem]) rfl ?_
      exact ⟨rfl, by rw [← HS.out]; exact HB.out⟩
end Go.Proofs.YtokmialpclcodaaDoor
