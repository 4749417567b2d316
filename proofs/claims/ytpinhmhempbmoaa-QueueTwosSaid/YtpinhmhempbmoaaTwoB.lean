/- Two queues: the reference's walks. Conditions: the lists read so. -/
import Derived.Test.YtpinhmhempbmoaaTwoP
import Derived.Test.YtpinhmhempbmoaaInts
import Derived.Test.YtpinhmhempbmoaaCells
import Derived.IntWalk
namespace Go.Proofs.Ytpinhmhempbmoaa
open Go.RowKit

theorem anyG_take_succ {p : Int → Bool} (a : List Int) {k : Nat} (h : k < a.length) : (a.take (k + 1)).any p = ((a.take k).any p || p (a.getD k 0)) := by
  rw [List.take_add_one, List.getElem?_eq_getElem h, Option.toList_some, List.any_append, List.getD_eq_getElem?_getD, List.getElem?_eq_getElem h]
  simp

set_option maxRecDepth 100000 in
set_option maxHeartbeats 1000000 in
theorem ref_TwoCheck (n m : Nat) (A B : Option Addr) (ca cb : Nat) (a b : List Int) (w : World) (hA : Els w w.heap.size 1 icell A a) (hB : Els w w.heap.size 1 icell B b) (hal : a.length = n) (hbl : b.length = m) (hn : n ≤ maxLen) (hm : m ≤ maxLen) :
    Calls Try.prog 17 #[.slice A n ca, .slice B m cb] w fun e w' => e = .returned (.int .i64 (twoCheck a b)) ∧ w' = w := by
  have hTC : Hid (twoCheck a b = if 7 < n ∨ 7 < m then 1 else if n ≠ m then 3 else if a.any outB || b.any outB then 4 else 0) := Lib.hid (by unfold twoCheck; rw [hal, hbl])
  have HA := Lib.hid hA
  have HB := Lib.hid hB
  have HAL := Lib.hid hal
  have HBL := Lib.hid hbl
  clear hA hB hal hbl
  unfold maxLen at hn hm
  go_enter Try.func17, Try.ntmps17
  by_cases h7 : 7 < n
  · have hd : decide ((7 : Int) < (n : Int)) = true := decide_eq_true (by omega)
    rw [if_pos (.inl h7)] at hTC
    go_wp2_with fail
    go_ret
    exact ⟨by rw [hTC.out]; rfl, rfl⟩
  have hd : decide ((7 : Int) < (n : Int)) = false := decide_eq_false (by omega)
  by_cases h7' : 7 < m
  · have hd' : decide ((7 : Int) < (m : Int)) = true := decide_eq_true (by omega)
    rw [if_pos (.inr h7')] at hTC
    go_wp2_with fail
    go_ret
    exact ⟨by rw [hTC.out]; rfl, rfl⟩
  have hd' : decide ((7 : Int) < (m : Int)) = false := decide_eq_false (by omega)
  rw [if_neg (by omega)] at hTC
  by_cases hnm : n = m
  · subst hnm
    have HTC : Hid (twoCheck a b = if a.any outB || b.any outB then 4 else 0) := Lib.hid (by rw [hTC.out, if_neg (by omega)])
    clear hTC
    go_wp2_with fail
    go_loopw [5] (fun s5 wr => ∃ k : Nat, k ≤ n ∧ s5 = .int .i64 k ∧ wr = w ∧ (a.take k).any outB = false ∧ (b.take k).any outB = false) (fun s5 _ => n - (intOf s5).toNat)
    case atStart => exact ⟨0, by omega, rfl, rfl, rfl, rfl⟩
    case round =>
      obtain ⟨k, hk, rfl, rfl, hta, htb⟩ := hrel
      by_cases hlt : k < n
      · have hka : k < a.length := by rw [HAL.out]; exact hlt
        have hkb : k < b.length := by rw [HBL.out]; exact hlt
        have HSA := Lib.hid (anyG_take_succ (p := outB) a hka)
        have HSB := Lib.hid (anyG_take_succ (p := outB) b hkb)
        rw [hta, Bool.false_or] at HSA
        rw [htb, Bool.false_or] at HSB
        obtain ⟨ba, oa, rfl, _, g1⟩ := HA.out.at1 (k := k) hka
        rw [← getD_at a k hka 0] at g1
        obtain ⟨bb, ob, rfl, _, g2⟩ := HB.out.at1 (k := k) hkb
        rw [← getD_at b k hkb 0] at g2
        have HMA : Hid (a.getD k 0 ∈ a) := Lib.hid (by rw [getD_at a k hka 0]; exact List.getElem_mem hka)
        have HMB : Hid (b.getD k 0 ∈ b) := Lib.hid (by rw [getD_at b k hkb 0]; exact List.getElem_mem hkb)
        obtain ⟨x, hx⟩ : ∃ x, x = a.getD k 0 := ⟨_, rfl⟩
        obtain ⟨y, hy⟩ : ∃ y, y = b.getD k 0 := ⟨_, rfl⟩
        rw [← hx] at g1 HSA HMA
        rw [← hy] at g2 HSB HMB
        clear hx hy hta htb
        have bad : ∀ r : Bool, (outB x || outB y) = true → twoCheck a b = 4 := by
          intro _ h
          rw [HTC.out, if_pos]
          rw [Bool.or_eq_true] at h ⊢
          rcases h with h | h
          · exact .inl (List.any_eq_true.2 ⟨x, HMA.out, h⟩)
          · exact .inr (List.any_eq_true.2 ⟨y, HMB.out, h⟩)
        have BAD := Lib.hid (bad true)
        clear bad
        by_cases x0 : x < 0
        · have BD : Hid (twoCheck a b = 4) := Lib.hid (BAD.out (by simp [outB, x0]))
          go_wp2_with fail
          go_ret
          exact ⟨by rw [BD.out]; rfl, rfl⟩
        by_cases x1 : 1048576 < x
        · have BD : Hid (twoCheck a b = 4) := Lib.hid (BAD.out (by simp [outB, x1]))
          go_wp2_with fail
          go_ret
          exact ⟨by rw [BD.out]; rfl, rfl⟩
        by_cases y0 : y < 0
        · have BD : Hid (twoCheck a b = 4) := Lib.hid (BAD.out (by simp [outB, y0]))
          go_wp2_with fail
          go_ret
          exact ⟨by rw [BD.out]; rfl, rfl⟩
        by_cases y1 : 1048576 < y
        · have BD : Hid (twoCheck a b = 4) := Lib.hid (BAD.out (by simp [outB, y1]))
          go_wp2_with fail
          go_ret
          exact ⟨by rw [BD.out]; rfl, rfl⟩
        have FA : Hid ((a.take (k + 1)).any outB = false) := Lib.hid (by rw [HSA.out]; simp [outB]; omega)
        have FB : Hid ((b.take (k + 1)).any outB = false) := Lib.hid (by rw [HSB.out]; simp [outB]; omega)
        go_wp2_with fail
        refine ⟨⟨k + 1, by omega, by go_num, trivial, FA.out, FB.out⟩, by simp [intOf]; omega⟩
      · obtain rfl : k = n := by omega
        have HT : Hid (twoCheck a b = 0) := Lib.hid (by
          rw [List.take_of_length_le (by rw [HAL.out]; exact Nat.le_refl _)] at hta
          rw [List.take_of_length_le (by rw [HBL.out]; exact Nat.le_refl _)] at htb
          rw [HTC.out, hta, htb]; rfl)
        clear hta htb
        go_wp2_with fail
        go_ret
        exact ⟨by rw [HT.out]; rfl, rfl⟩
  · have hne : ((n : Int) != m) = true := by simp; omega
    rw [if_pos hnm] at hTC
    go_wp2_with fail
    go_ret
    exact ⟨by rw [hTC.out]; rfl, rfl⟩

set_option maxRecDepth 100000 in
set_option maxHeartbeats 1000000 in
theorem ref_TwoEnd (n p : Nat) (hn : n ≤ 7) (l : List Nat) (L A B : Option Addr) (c ca cb : Nat) (a b : List Int) (w : World) (hll : l.length = p) (hp : p ≤ 7) (hlb : ∀ i ∈ l, i < n) (hL : Els w w.heap.size 1 icell L (intsOf l))
    (hA : Els w w.heap.size 1 icell A a) (hB : Els w w.heap.size 1 icell B b) (hal : a.length = n) (hbl : b.length = n) (ha : a.any outB = false) (hb : b.any outB = false) :
    Calls Try.prog 19 #[.slice A n ca, .slice B n cb, .slice L p c] w fun e w' => e = .returned (.int .i64 (twoE (fun j => a.getD j 0) (fun j => b.getD j 0) l)) ∧ w' = w := by
  have HBD := Lib.hid (two_bound (fun j => outB_no ha j) (fun j => outB_no hb j) l)
  have HA := Lib.hid hA
  have HB := Lib.hid hB
  have HL := Lib.hid hL
  have HAL := Lib.hid hal
  have HBL := Lib.hid hbl
  have HLL := Lib.hid hll
  have HLB := Lib.hid hlb
  have HOA := Lib.hid (fun j => outB_no ha j)
  have HOB := Lib.hid (fun j => outB_no hb j)
  clear hA hB hL hal hbl hll hlb ha hb
  go_enter Try.func19, Try.ntmps19
  go_wp2_with fail
  go_loopw [13, 7, 8] (fun s11 s5 s6 wr => ∃ k : Nat, k ≤ p ∧ s11 = .int .i64 k ∧ s5 = .int .i64 ((l.take k).foldl (twoS (fun j => a.getD j 0) (fun j => b.getD j 0)) (0, 0)).1 ∧ s6 = .int .i64 ((l.take k).foldl (twoS (fun j => a.getD j 0) (fun j => b.getD j 0)) (0, 0)).2 ∧ wr = w) (fun s11 _ _ _ => p - (intOf s11).toNat)
  case atStart => exact ⟨0, by omega, rfl, by simp, by simp, rfl⟩
  case round =>
    obtain ⟨k, hk, rfl, rfl, rfl, rfl⟩ := hrel
    obtain ⟨b1, b2, b3, b4⟩ := HBD.out k
    by_cases hlt : k < p
    · have hkl : k < l.length := by rw [HLL.out]; exact hlt
      have hsu := two_succ (f := fun j => a.getD j 0) (s := fun j => b.getD j 0) l hkl
      have hjn := HLB.out l[k] (List.getElem_mem hkl)
      obtain ⟨bl, ol, rfl, _, g0⟩ := HL.out.at1 (k := k) (by rw [intsOf, List.length_map]; exact hkl)
      rw [show (intsOf l)[k]'(by rw [intsOf, List.length_map]; exact hkl) = ((l[k] : Nat) : Int) by simp [intsOf]] at g0
      obtain ⟨j, hj⟩ : ∃ j, j = l[k] := ⟨_, rfl⟩
      rw [← hj] at hsu hjn g0
      obtain ⟨ba, oa, rfl, _, g1⟩ := HA.out.at1 (k := j) (by rw [HAL.out]; exact hjn)
      rw [← getD_at a j (by rw [HAL.out]; exact hjn) 0] at g1
      obtain ⟨bb, ob, rfl, _, g2⟩ := HB.out.at1 (k := j) (by rw [HBL.out]; exact hjn)
      rw [← getD_at b j (by rw [HBL.out]; exact hjn) 0] at g2
      have ha := HOA.out j
      have hb := HOB.out j
      obtain ⟨st, hst⟩ : ∃ st, st = (l.take k).foldl (twoS (fun j => a.getD j 0) (fun j => b.getD j 0)) (0, 0) := ⟨_, rfl⟩
      have hsu' : (l.take (k + 1)).foldl (twoS (fun j => a.getD j 0) (fun j => b.getD j 0)) (0, 0) = (st.1 + a.getD j 0, max (st.1 + a.getD j 0) st.2 + b.getD j 0) := by rw [hsu, ← hst]; rfl
      have HSU := Lib.hid hsu'
      clear hsu hsu'
      rw [← hst] at b1 b2 b3 b4 ⊢
      obtain ⟨f, s⟩ := st
      obtain ⟨u, hu⟩ : ∃ u, u = a.getD j 0 := ⟨_, rfl⟩
      obtain ⟨v, hv⟩ : ∃ v, v = b.getD j 0 := ⟨_, rfl⟩
      rw [← hu] at ha g1 HSU
      rw [← hv] at hb g2 HSU
      simp only at b1 b2 b3 b4 HSU ⊢
      have w1 : IntKind.i64.wrap (f + u) = f + u := IntWalk.i64_in _ (by omega)
      clear hj hst hu hv
      by_cases hgt : s < f + u
      · have hd : decide (s < f + u) = true := decide_eq_true hgt
        have w2 : IntKind.i64.wrap (f + u + v) = f + u + v := IntWalk.i64_in _ (by omega)
        rw [Int.max_eq_left (by omega)] at HSU
        go_wp2_with fail
        refine ⟨⟨k + 1, by omega, by go_num, by rw [HSU.out], by rw [HSU.out], trivial⟩, by simp [intOf]; omega⟩
      · have hd : decide (s < f + u) = false := decide_eq_false hgt
        have w2 : IntKind.i64.wrap (s + v) = s + v := IntWalk.i64_in _ (by omega)
        rw [Int.max_eq_right (by omega)] at HSU
        go_wp2_with fail
        refine ⟨⟨k + 1, by omega, by go_num, by rw [HSU.out], by rw [HSU.out], trivial⟩, by simp [intOf]; omega⟩
    · obtain rfl : k = p := by omega
      have HT := Lib.hid (twoE_take (f := fun j => a.getD j 0) (s := fun j => b.getD j 0) l HLL.out)
      go_wp2_with fail
      go_ret
      exact ⟨by rw [HT.out]; rfl, rfl⟩
end Go.Proofs.Ytpinhmhempbmoaa
