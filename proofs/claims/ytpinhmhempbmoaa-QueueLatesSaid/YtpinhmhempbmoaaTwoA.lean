/- Two queues: the program's walks. Conditions: the lists read so. -/
import Derived.Test.YtpinhmhempbmoaaTwoP
import Derived.Test.YtpinhmhempbmoaaOrdB
import Derived.Test.YtpinhmhempbmoaaIdx
import Derived.IntWalk
namespace Go.Proofs.Ytpinhmhempbmoaa
open Go.RowKit Go.Shelf

set_option maxRecDepth 100000 in
theorem queue_out (x : Int) (w : World) : Calls Try.prog 44 #[.int .i64 x] w fun e w' => e = .returned (.bool (outB x)) ∧ w' = w := by
  go_enter Try.func44, Try.ntmps44
  by_cases h0 : x < 0
  · have hd : decide (x < 0) = true := decide_eq_true h0
    go_wp2_with fail
    go_ret
    simp [outB, h0]
  · have hd : decide (x < 0) = false := decide_eq_false h0
    have HD := Lib.hid hd
    go_wp2_with fail
    go_ret
    exact ⟨by simp [outB, HD.out], rfl⟩
theorem ent_out : Ent Try.prog 44 := enters_of Try.func44 (by kernel_rfl) rfl
theorem ent_two1 : Ent Try.prog 46 := enters_of Try.func46 (by kernel_rfl) rfl

set_option maxRecDepth 100000 in
set_option maxHeartbeats 1000000 in
theorem queue_Two1 (n : Nat) (hn : n ≤ 7) (l : List Nat) (L A B : Option Addr) (c ca cb S T : Nat) (a b : List Int) (w : World) (hll : l.length = n) (hlb : ∀ i ∈ l, i < n) (hL : Els w w.heap.size 1 icell L (intsOf l)) (hS : Blk w S 23 #[.slice A n ca]) (hT : Blk w T 23 #[.slice B n cb])
    (hA : Els w w.heap.size 1 icell A a) (hB : Els w w.heap.size 1 icell B b) (hal : a.length = n) (hbl : b.length = n) (ha : a.any outB = false) (hb : b.any outB = false) :
    Calls Try.prog 46 #[.slice L n c, .pointer (some ⟨S, 0, none⟩), .pointer (some ⟨T, 0, none⟩)] w fun e w' => e = .returned (.int .i64 (twoE (fun j => a.getD j 0) (fun j => b.getD j 0) l)) ∧ w' = w := by
  have c0 := hS.cell 0
  have c1 := hT.cell 0
  have HBD := Lib.hid (two_bound (fun j => outB_no ha j) (fun j => outB_no hb j) l)
  have HA := Lib.hid hA
  have HB := Lib.hid hB
  have HL := Lib.hid hL
  have HAL := Lib.hid hal
  have HBL := Lib.hid hbl
  have HLL := Lib.hid hll
  have HLB := Lib.hid hlb
  have HOA := Lib.hid (fun j => outB_no ha j)
  have HOB := Lib.hid (fun j => outB_no hb j)
  clear hS hT hA hB hL hal hbl hll hlb ha hb
  go_enter Try.func46, Try.ntmps46
  go_wp2_with fail
  go_loopw [11, 5, 6] (fun s11 s5 s6 wr => ∃ k : Nat, k ≤ n ∧ s11 = .int .i64 k ∧ s5 = .int .i64 ((l.take k).foldl (twoS (fun j => a.getD j 0) (fun j => b.getD j 0)) (0, 0)).1 ∧ s6 = .int .i64 ((l.take k).foldl (twoS (fun j => a.getD j 0) (fun j => b.getD j 0)) (0, 0)).2 ∧ wr = w) (fun s11 _ _ _ => n - (intOf s11).toNat)
  case atStart => exact ⟨0, by omega, rfl, by simp, by simp, rfl⟩
  case round =>
    obtain ⟨k, hk, rfl, rfl, rfl, rfl⟩ := hrel
    obtain ⟨b1, b2, b3, b4⟩ := HBD.out k
    by_cases hlt : k < n
    · have hkl : k < l.length := by rw [HLL.out]; exact hlt
      have hsu := two_succ (f := fun j => a.getD j 0) (s := fun j => b.getD j 0) l hkl
      have hjn := HLB.out l[k] (List.getElem_mem hkl)
      obtain ⟨bl, ol, rfl, _, g0⟩ := HL.out.at1 (k := k) (by rw [intsOf, List.length_map]; exact hkl)
      rw [show (intsOf l)[k]'(by rw [intsOf, List.length_map]; exact hkl) = ((l[k] : Nat) : Int) by simp [intsOf]] at g0
      obtain ⟨j, hj⟩ : ∃ j, j = l[k] := ⟨_, rfl⟩
      rw [← hj] at hsu hjn g0
      obtain ⟨ba, oa, rfl, _, g1⟩ := HA.out.at1 (k := j) (by rw [HAL.out]; exact hjn)
      rw [← getD_at a j (by rw [HAL.out]; exact hjn) 0] at g1
      obtain ⟨bb, ob, rfl, _, g2⟩ := HB.out.at1 (k := j) (by rw [HBL.out]; exact hjn)
      rw [← getD_at b j (by rw [HBL.out]; exact hjn) 0] at g2
      have ha := HOA.out j
      have hb := HOB.out j
      obtain ⟨st, hst⟩ : ∃ st, st = (l.take k).foldl (twoS (fun j => a.getD j 0) (fun j => b.getD j 0)) (0, 0) := ⟨_, rfl⟩
      have hsu' : (l.take (k + 1)).foldl (twoS (fun j => a.getD j 0) (fun j => b.getD j 0)) (0, 0) = (st.1 + a.getD j 0, max (st.1 + a.getD j 0) st.2 + b.getD j 0) := by rw [hsu, ← hst]; rfl
      have HSU := Lib.hid hsu'
      clear hsu hsu'
      rw [← hst] at b1 b2 b3 b4 ⊢
      obtain ⟨f, s⟩ := st
      obtain ⟨u, hu⟩ : ∃ u, u = a.getD j 0 := ⟨_, rfl⟩
      obtain ⟨v, hv⟩ : ∃ v, v = b.getD j 0 := ⟨_, rfl⟩
      rw [← hu] at ha g1 HSU
      rw [← hv] at hb g2 HSU
      simp only at b1 b2 b3 b4 HSU ⊢
      have w1 : IntKind.i64.wrap (f + u) = f + u := IntWalk.i64_in _ (by omega)
      have w2 : IntKind.i64.wrap (max (f + u) s + v) = max (f + u) s + v := IntWalk.i64_in _ (by omega)
      clear hj hst hu hv
      have hmx : (if f + u < s then s else f + u) = max (f + u) s := by rw [Int.max_def]; split <;> split <;> omega
      go_wp2_with fail
      refine ⟨⟨k + 1, by omega, by go_num, by rw [HSU.out], by rw [HSU.out], trivial⟩, by simp [intOf]; omega⟩
    · obtain rfl : k = n := by omega
      have HT := Lib.hid (twoE_take (f := fun j => a.getD j 0) (s := fun j => b.getD j 0) l HLL.out)
      go_wp2_with fail
      go_ret
      exact ⟨by rw [HT.out]; rfl, rfl⟩

/-- What queue.Two answers. -/
def TwoSaid (w w' : World) (n : Nat) (a b : List Int) (e : Ending) : Prop :=
  if twoCheck a b = 0 then ∃ (A' : Option Addr) (cap : Nat) (q : List Nat) (x : Int), e = .returned (.tuple #[.slice A' n cap, .int .i64 x, .int .i64 0]) ∧ bestF (twoE (fun j => a.getD j 0) (fun j => b.getD j 0)) (permsF n n []) = some (q, x) ∧ Els w' w'.heap.size 1 icell A' (intsOf q)
  else e = .returned (.tuple #[.slice none 0 0, .int .i64 0, .int .i64 (twoCheck a b)])
set_option maxRecDepth 100000 in
set_option maxHeartbeats 1000000 in
theorem queue_Two (n m : Nat) (A B : Option Addr) (ca cb : Nat) (a b : List Int) (w : World) (hA : Els w w.heap.size 1 icell A a) (hB : Els w w.heap.size 1 icell B b) (hal : a.length = n) (hbl : b.length = m) (hn : n ≤ maxLen) (hm : m ≤ maxLen) :
    Calls Try.prog 16 #[.slice A n ca, .slice B m cb] w fun e w' => Below w.heap.size w w' ∧ TwoSaid w w' n a b e := by
  obtain ⟨S, hS⟩ : ∃ S, S = w.heap.size := ⟨_, rfl⟩
  obtain ⟨W1, hW1⟩ : ∃ W1, W1 = (w.alloc (.cells #[.slice A n ca] 23)).alloc (.cells #[.slice B m cb] 23) := ⟨_, rfl⟩
  have b0 := Blk.new w 23 #[.slice A n ca]
  have b1 := Blk.new (w.alloc (.cells #[.slice A n ca] 23)) 23 #[.slice B m cb]
  simp only [size_alloc', ← hS] at b1
  rw [← hS] at b0
  have hz1 : W1.heap.size = S + 1 + 1 := by rw [hW1, hS]; simp only [size_alloc']
  have hb1 : Below w.heap.size w W1 := by
    rw [hW1]
    refine ((Below.refl _ w).alloc (Nat.le_refl _) _).alloc ?_ _
    simp only [size_alloc']; omega
  have hk0 : Blk W1 S 23 #[.slice A n ca] := by rw [hW1]; exact b0.alloc _
  have hk1 : Blk W1 (S + 1) 23 #[.slice B m cb] := by rw [hW1]; exact b1
  have HA := Lib.hid ((hA.below hb1).more (by omega : w.heap.size ≤ W1.heap.size))
  have HB := Lib.hid ((hB.below hb1).more (by omega : w.heap.size ≤ W1.heap.size))
  have c0 := hk0.cell 0
  have c1 := hk1.cell 0
  have HK0 := Lib.hid hk0
  have HK1 := Lib.hid hk1
  have HB1 := Lib.hid hb1
  have HAL := Lib.hid hal
  have HBL := Lib.hid hbl
  clear b0 b1 hk0 hk1 hb1 hA hB hal hbl
  have HWW := Lib.hid hW1
  have HSS := Lib.hid hS
  clear hW1 hS
  have hTC : Hid (twoCheck a b = if 7 < n ∨ 7 < m then 1 else if n ≠ m then 3 else if a.any outB || b.any outB then 4 else 0) := Lib.hid (by unfold twoCheck; rw [HAL.out, HBL.out])
  unfold maxLen at hn hm
  go_enter Try.func16, Try.ntmps16
  rcases Nat.lt_trichotomy n m with hnm | hnm | hnm
  · have hl : ((n : Int) < (m : Int)) := by omega
    have hne : ((n : Int) != m) = true := by simp; omega
    by_cases h7 : 7 < m
    · have hd : decide ((7 : Int) < (m : Int)) = true := decide_eq_true (by omega)
      have HTC : Hid (twoCheck a b = 1) := Lib.hid (by rw [hTC.out, if_pos (.inr h7)])
      clear hTC
      go_wp2_with fail
      refine bodyPost_ret (v := .tuple #[.slice none 0 0, .int .i64 0, .int .i64 1]) (by simp [results, Try.results16, go_sem]) rfl ⟨by rw [← HWW.out]; exact HB1.out, ?_⟩
      unfold TwoSaid
      rw [HTC.out, if_neg (by decide)]
    · have hd : decide ((7 : Int) < (m : Int)) = false := decide_eq_false (by omega)
      have HTC : Hid (twoCheck a b = 3) := Lib.hid (by rw [hTC.out, if_neg (by omega), if_pos (by omega)])
      clear hTC
      go_wp2_with fail
      refine bodyPost_ret (v := .tuple #[.slice none 0 0, .int .i64 0, .int .i64 3]) (by simp [results, Try.results16, go_sem]) rfl ⟨by rw [← HWW.out]; exact HB1.out, ?_⟩
      unfold TwoSaid
      rw [HTC.out, if_neg (by decide)]
  · subst hnm
    by_cases h7 : 7 < n
    · have hd : decide ((7 : Int) < (n : Int)) = true := decide_eq_true (by omega)
      have HTC : Hid (twoCheck a b = 1) := Lib.hid (by rw [hTC.out, if_pos (.inl h7)])
      clear hTC
      go_wp2_with fail
      refine bodyPost_ret (v := .tuple #[.slice none 0 0, .int .i64 0, .int .i64 1]) (by simp [results, Try.results16, go_sem]) rfl ⟨by rw [← HWW.out]; exact HB1.out, ?_⟩
      unfold TwoSaid
      rw [HTC.out, if_neg (by decide)]
    · have hd : decide ((7 : Int) < (n : Int)) = false := decide_eq_false (by omega)
      have HTC : Hid (twoCheck a b = if a.any outB || b.any outB then 4 else 0) := Lib.hid (by rw [hTC.out, if_neg (by omega), if_neg (by omega)])
      clear hTC
      have HC1 := Lib.hid (ContainsFunc_longs 44 ent_out #[] outB A n ca a W1 HAL.out (by unfold maxLen; omega) HA.out (fun x wx _ _ => (queue_out x wx).mono fun e w' ⟨he, hw⟩ => ⟨he, by subst hw; exact Below.refl _ _⟩))
      go_wp2_with fail
      rw [← HSS.out, ← HWW.out]
      refine HC1.out.mono ?_
      clear HC1
      rintro e w2 ⟨rfl, hb2⟩
      have c0 := (HK0.out.below hb2 HK0.out.lt).cell 0
      have c1 := (HK1.out.below hb2 HK1.out.lt).cell 0
      cases hao : a.any outB with
      | true =>
        have HTC : Hid (twoCheck a b = 4) := Lib.hid (by rw [HTC.out, hao]; rfl)
        have HB2 := Lib.hid (HB1.out.trans (hb2.mono HB1.out.size))
        clear hb2 hao
        go_wp2_with fail
        refine bodyPost_ret (v := .tuple #[.slice none 0 0, .int .i64 0, .int .i64 4]) (by simp [results, Try.results16, go_sem]) rfl ⟨HB2.out, ?_⟩
        unfold TwoSaid
        rw [HTC.out, if_neg (by decide)]
      | false =>
        have HB2 := Lib.hid hb2
        have hz2 := hb2.size
        have HC2 := Lib.hid (ContainsFunc_longs 44 ent_out #[] outB B n cb b w2 HBL.out (by unfold maxLen; omega) ((HB.out.below hb2).more hz2) (fun x wx _ _ => (queue_out x wx).mono fun e w' ⟨he, hw⟩ => ⟨he, by subst hw; exact Below.refl _ _⟩))
        have HAO := Lib.hid hao
        clear hb2 hao
        go_wp2_with fail
        refine HC2.out.mono ?_
        clear HC2
        rintro e w3 ⟨rfl, hb3⟩
        have HB3 := Lib.hid (HB2.out.trans (hb3.mono hz2))
        have hb3' := HB3.out
        have HB4 := Lib.hid (HB1.out.trans (HB3.out.mono HB1.out.size))
        cases hbo : b.any outB with
        | true =>
          have HTC : Hid (twoCheck a b = 4) := Lib.hid (by rw [HTC.out, hbo, Bool.or_true]; rfl)
          clear hb3 hbo hb3'
          go_wp2_with fail
          refine bodyPost_ret (v := .tuple #[.slice none 0 0, .int .i64 0, .int .i64 4]) (by simp [results, Try.results16, go_sem]) rfl ⟨HB4.out, ?_⟩
          unfold TwoSaid
          rw [HTC.out, if_neg (by decide)]
        | false =>
          have HTC : Hid (twoCheck a b = 0) := Lib.hid (by rw [HTC.out, HAO.out, hbo]; rfl)
          have c0 := (HK0.out.below hb3' HK0.out.lt).cell 0
          have c1 := (HK1.out.below hb3' HK1.out.lt).cell 0
          have HK0 := Lib.hid (HK0.out.below hb3' HK0.out.lt)
          have HK1 := Lib.hid (HK1.out.below hb3' HK1.out.lt)
          have HA := Lib.hid ((HA.out.below hb3').more hb3'.size)
          have HB := Lib.hid ((HB.out.below hb3').more hb3'.size)
          have HQ := Lib.hid (queue_best n (by omega) 46 #[.pointer (some ⟨S, 0, none⟩), .pointer (some ⟨S + 1, 0, none⟩)] (twoE (fun j => a.getD j 0) (fun j => b.getD j 0)) w3 ent_two1 (fun x L c v hxl hxb hbv hLv =>
            (queue_Two1 n (by omega) x L A B c ca cb S (S + 1) a b v hxl hxb hLv (HK0.out.below hbv HK0.out.lt) (HK1.out.below hbv HK1.out.lt) ((HA.out.below hbv).more hbv.size) ((HB.out.below hbv).more hbv.size) HAL.out HBL.out HAO.out hbo).mono fun e w' ⟨he, hw⟩ => ⟨he, by subst hw; exact Below.refl _ _⟩))
          clear hb3 hbo hb3'
          go_wp2_with fail
          refine HQ.out.mono ?_
          clear HQ
          rintro e w4 ⟨A', cap, q, x, rfl, hb4, hbf, hels⟩
          have HBF := Lib.hid hbf
          have HELS := Lib.hid hels
          have HB5 := Lib.hid (HB4.out.trans (hb4.mono HB4.out.size))
          clear hb4 hbf hels
          go_wp2_with fail
          refine bodyPost_ret (v := .tuple #[.slice A' n cap, .int .i64 x, .int .i64 0]) (by simp [results, Try.results16, go_sem]) rfl ⟨HB5.out, ?_⟩
          unfold TwoSaid
          rw [HTC.out, if_pos rfl]
          exact ⟨A', cap, q, x, rfl, HBF.out, HELS.out⟩
  · have hl : ¬ ((n : Int) < (m : Int)) := by omega
    have hne : ((n : Int) != m) = true := by simp; omega
    by_cases h7 : 7 < n
    · have hd : decide ((7 : Int) < (n : Int)) = true := decide_eq_true (by omega)
      have HTC : Hid (twoCheck a b = 1) := Lib.hid (by rw [hTC.out, if_pos (.inl h7)])
      clear hTC
      go_wp2_with fail
      refine bodyPost_ret (v := .tuple #[.slice none 0 0, .int .i64 0, .int .i64 1]) (by simp [results, Try.results16, go_sem]) rfl ⟨by rw [← HWW.out]; exact HB1.out, ?_⟩
      unfold TwoSaid
      rw [HTC.out, if_neg (by decide)]
    · have hd : decide ((7 : Int) < (n : Int)) = false := decide_eq_false (by omega)
      have HTC : Hid (twoCheck a b = 3) := Lib.hid (by rw [hTC.out, if_neg (by omega), if_pos (by omega)])
      clear hTC
      go_wp2_with fail
      refine bodyPost_ret (v := .tuple #[.slice none 0 0, .int .i64 0, .int .i64 3]) (by simp [results, Try.results16, go_sem]) rfl ⟨by rw [← HWW.out]; exact HB1.out, ?_⟩
      unfold TwoSaid
      rw [HTC.out, if_neg (by decide)]
end Go.Proofs.Ytpinhmhempbmoaa
