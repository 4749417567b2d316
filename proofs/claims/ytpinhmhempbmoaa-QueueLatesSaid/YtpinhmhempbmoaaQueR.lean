/- A queue's worth and its lateness: the reference's walks. Conditions: the jobs read so. -/
import Derived.Test.YtpinhmhempbmoaaQueP
import Derived.Test.YtpinhmhempbmoaaOrdV
import Derived.Test.YtpinhmhempbmoaaCells
import Derived.IntWalk
namespace Go.Proofs.Ytpinhmhempbmoaa
open Go.RowKit

theorem anyJ_take_succ {p : Jb → Bool} (a : List Jb) {k : Nat} (h : k < a.length) : (a.take (k + 1)).any p = ((a.take k).any p || p (jAt a k)) := by
  unfold jAt
  rw [List.take_add_one, List.getElem?_eq_getElem h, Option.toList_some, List.any_append, List.getD_eq_getElem?_getD, List.getElem?_eq_getElem h]
  simp

set_option maxRecDepth 100000 in
set_option maxHeartbeats 1000000 in
theorem ref_QueueCheck0 (n : Nat) (A : Option Addr) (ca : Nat) (l : List Jb) (w : World) (hA : Els w w.heap.size 4 Jb.cells A l) (hal : l.length = n) (hn : n ≤ maxLen) :
    Calls Try.prog 22 #[.slice A n ca, .int .i64 0] w fun e w' => e = .returned (.int .i64 (queCheck Jb.y l)) ∧ Below w.heap.size w w' := by
  have HTC : Hid (queCheck Jb.y l = if 7 < n then 1 else if l.any (badJ Jb.y) then 4 else 0) := Lib.hid (by unfold queCheck; rw [hal])
  have HA := Lib.hid hA
  have HAL := Lib.hid hal
  clear hA hal
  unfold maxLen at hn
  go_enter Try.func22, Try.ntmps22
  by_cases h7 : 7 < n
  · have hd : decide ((7 : Int) < (n : Int)) = true := decide_eq_true (by omega)
    rw [if_pos h7] at HTC
    go_wp2_with fail
    go_ret
    exact ⟨by rw [HTC.out]; rfl, Below.refl _ _⟩
  have hd : decide ((7 : Int) < (n : Int)) = false := decide_eq_false (by omega)
  rw [if_neg h7] at HTC
  go_wp2_with fail
  go_loopw [13] (fun s5 wr => ∃ k : Nat, k ≤ n ∧ s5 = .int .i64 k ∧ Below w.heap.size w wr ∧ (l.take k).any (badJ Jb.y) = false) (fun s5 _ => n - (intOf s5).toNat)
  case atStart => exact ⟨0, by omega, rfl, Below.refl _ _, rfl⟩
  case round =>
    obtain ⟨k, hk, rfl, hb, hta⟩ := hrel
    have HB := Lib.hid hb
    by_cases hlt : k < n
    · have hka : k < l.length := by rw [HAL.out]; exact hlt
      have HSA := Lib.hid (anyJ_take_succ (p := badJ Jb.y) l hka)
      rw [hta, Bool.false_or] at HSA
      obtain ⟨ba, oa, rfl, _, g1, g2, g3, g4⟩ := (HA.out.below hb).at4 (k := k) hka
      have hgd : l[k] = jAt l k := (getD_at l k hka _).symm
      have HMA : Hid (jAt l k ∈ l) := Lib.hid (by rw [← hgd]; exact List.getElem_mem hka)
      rw [hgd] at g1 g2 g3 g4
      obtain ⟨x, hx⟩ : ∃ x, x = jAt l k := ⟨_, rfl⟩
      rw [← hx] at g1 g2 g3 g4 HSA HMA
      clear hx hta hgd hka
      have BAD : Hid (badJ Jb.y x = true → queCheck Jb.y l = 4) := Lib.hid (fun h => by rw [HTC.out, if_pos (List.any_eq_true.2 ⟨x, HMA.out, h⟩)])
      obtain ⟨t, sl, xx, yy⟩ := x
      simp only at g1 g2 g3 g4
      have HB1 := Lib.hid (hb.trans (((Below.refl wr.heap.size wr).alloc (Nat.le_refl _) (.cells #[.int .i64 t, sl.val, .int .i64 xx, .int .i64 yy] 75)).mono hb.size))
      clear hb
      by_cases x0 : t < 0
      · have BD : Hid (queCheck Jb.y l = 4) := Lib.hid (BAD.out (by simp [badJ, outB, x0]))
        go_wp2_with fail
        go_ret
        exact ⟨by rw [BD.out]; rfl, HB1.out⟩
      by_cases x1 : 1048576 < t
      · have BD : Hid (queCheck Jb.y l = 4) := Lib.hid (BAD.out (by simp [badJ, outB, x1]))
        go_wp2_with fail
        go_ret
        exact ⟨by rw [BD.out]; rfl, HB1.out⟩
      by_cases y0 : yy < 0
      · have BD : Hid (queCheck Jb.y l = 4) := Lib.hid (BAD.out (by simp [badJ, outB, y0]))
        go_wp2_with fail
        go_ret
        exact ⟨by rw [BD.out]; rfl, HB1.out⟩
      by_cases y1 : 1048576 < yy
      · have BD : Hid (queCheck Jb.y l = 4) := Lib.hid (BAD.out (by simp [badJ, outB, y1]))
        go_wp2_with fail
        go_ret
        exact ⟨by rw [BD.out]; rfl, HB1.out⟩
      have FA : Hid ((l.take (k + 1)).any (badJ Jb.y) = false) := Lib.hid (by rw [HSA.out]; simp [badJ, outB]; omega)
      go_wp2_with fail
      refine ⟨⟨k + 1, by omega, by go_num, HB1.out, FA.out⟩, by simp [intOf]; omega⟩
    · obtain rfl : k = n := by omega
      have HT : Hid (queCheck Jb.y l = 0) := Lib.hid (by
        rw [List.take_of_length_le (by rw [HAL.out]; exact Nat.le_refl _)] at hta
        rw [HTC.out, hta]; rfl)
      clear hta
      go_wp2_with fail
      go_ret
      exact ⟨by rw [HT.out]; rfl, HB.out⟩

set_option maxRecDepth 100000 in
set_option maxHeartbeats 1000000 in
theorem ref_QueueCheck1 (n : Nat) (A : Option Addr) (ca : Nat) (l : List Jb) (w : World) (hA : Els w w.heap.size 4 Jb.cells A l) (hal : l.length = n) (hn : n ≤ maxLen) :
    Calls Try.prog 22 #[.slice A n ca, .int .i64 1] w fun e w' => e = .returned (.int .i64 (queCheck Jb.x l)) ∧ Below w.heap.size w w' := by
  have HTC : Hid (queCheck Jb.x l = if 7 < n then 1 else if l.any (badJ Jb.x) then 4 else 0) := Lib.hid (by unfold queCheck; rw [hal])
  have HA := Lib.hid hA
  have HAL := Lib.hid hal
  clear hA hal
  unfold maxLen at hn
  go_enter Try.func22, Try.ntmps22
  by_cases h7 : 7 < n
  · have hd : decide ((7 : Int) < (n : Int)) = true := decide_eq_true (by omega)
    rw [if_pos h7] at HTC
    go_wp2_with fail
    go_ret
    exact ⟨by rw [HTC.out]; rfl, Below.refl _ _⟩
  have hd : decide ((7 : Int) < (n : Int)) = false := decide_eq_false (by omega)
  rw [if_neg h7] at HTC
  go_wp2_with fail
  go_loopw [13] (fun s5 wr => ∃ k : Nat, k ≤ n ∧ s5 = .int .i64 k ∧ Below w.heap.size w wr ∧ (l.take k).any (badJ Jb.x) = false) (fun s5 _ => n - (intOf s5).toNat)
  case atStart => exact ⟨0, by omega, rfl, Below.refl _ _, rfl⟩
  case round =>
    obtain ⟨k, hk, rfl, hb, hta⟩ := hrel
    have HB := Lib.hid hb
    by_cases hlt : k < n
    · have hka : k < l.length := by rw [HAL.out]; exact hlt
      have HSA := Lib.hid (anyJ_take_succ (p := badJ Jb.x) l hka)
      rw [hta, Bool.false_or] at HSA
      obtain ⟨ba, oa, rfl, _, g1, g2, g3, g4⟩ := (HA.out.below hb).at4 (k := k) hka
      have hgd : l[k] = jAt l k := (getD_at l k hka _).symm
      have HMA : Hid (jAt l k ∈ l) := Lib.hid (by rw [← hgd]; exact List.getElem_mem hka)
      rw [hgd] at g1 g2 g3 g4
      obtain ⟨x, hx⟩ : ∃ x, x = jAt l k := ⟨_, rfl⟩
      rw [← hx] at g1 g2 g3 g4 HSA HMA
      clear hx hta hgd hka
      have BAD : Hid (badJ Jb.x x = true → queCheck Jb.x l = 4) := Lib.hid (fun h => by rw [HTC.out, if_pos (List.any_eq_true.2 ⟨x, HMA.out, h⟩)])
      obtain ⟨t, sl, xx, yy⟩ := x
      simp only at g1 g2 g3 g4
      have HB1 := Lib.hid (hb.trans (((Below.refl wr.heap.size wr).alloc (Nat.le_refl _) (.cells #[.int .i64 t, sl.val, .int .i64 xx, .int .i64 yy] 75)).mono hb.size))
      clear hb
      by_cases x0 : t < 0
      · have BD : Hid (queCheck Jb.x l = 4) := Lib.hid (BAD.out (by simp [badJ, outB, x0]))
        go_wp2_with fail
        go_ret
        exact ⟨by rw [BD.out]; rfl, HB1.out⟩
      by_cases x1 : 1048576 < t
      · have BD : Hid (queCheck Jb.x l = 4) := Lib.hid (BAD.out (by simp [badJ, outB, x1]))
        go_wp2_with fail
        go_ret
        exact ⟨by rw [BD.out]; rfl, HB1.out⟩
      by_cases y0 : xx < 0
      · have BD : Hid (queCheck Jb.x l = 4) := Lib.hid (BAD.out (by simp [badJ, outB, y0]))
        go_wp2_with fail
        go_ret
        exact ⟨by rw [BD.out]; rfl, HB1.out⟩
      by_cases y1 : 1048576 < xx
      · have BD : Hid (queCheck Jb.x l = 4) := Lib.hid (BAD.out (by simp [badJ, outB, y1]))
        go_wp2_with fail
        go_ret
        exact ⟨by rw [BD.out]; rfl, HB1.out⟩
      have FA : Hid ((l.take (k + 1)).any (badJ Jb.x) = false) := Lib.hid (by rw [HSA.out]; simp [badJ, outB]; omega)
      go_wp2_with fail
      refine ⟨⟨k + 1, by omega, by go_num, HB1.out, FA.out⟩, by simp [intOf]; omega⟩
    · obtain rfl : k = n := by omega
      have HT : Hid (queCheck Jb.x l = 0) := Lib.hid (by
        rw [List.take_of_length_le (by rw [HAL.out]; exact Nat.le_refl _)] at hta
        rw [HTC.out, hta]; rfl)
      clear hta
      go_wp2_with fail
      go_ret
      exact ⟨by rw [HT.out]; rfl, HB.out⟩

set_option maxRecDepth 100000 in
set_option maxHeartbeats 1000000 in
theorem ref_Weighs0 (n p : Nat) (hp : p ≤ 7) (q : List Nat) (L A : Option Addr) (c ca : Nat) (l : List Jb) (w : World) (hql : q.length = p) (hqb : ∀ i ∈ q, i < n) (hL : Els w w.heap.size 1 icell L (intsOf q))
    (hA : Els w w.heap.size 4 Jb.cells A l) (hal : l.length = n) (hn : n ≤ 7) (ha : l.any (badJ Jb.y) = false) :
    Calls Try.prog 50 #[.slice A n ca, .int .i64 0, .slice L p c] w fun e w' => e = .returned (.int .i64 (worE l q)) ∧ w' = w := by
  have HBD := Lib.hid (wor_bound ha q)
  have HA := Lib.hid hA
  have HL := Lib.hid hL
  have HAL := Lib.hid hal
  have HQL := Lib.hid hql
  have HQB := Lib.hid hqb
  have HIN := Lib.hid (jAt_in (g := Jb.y) rfl ha)
  clear hA hL hal hql hqb ha
  go_enter Try.func50, Try.ntmps50
  go_wp2_with fail
  go_loopw [13, 7, 8] (fun s11 s5 s6 wr => ∃ k : Nat, k ≤ p ∧ s11 = .int .i64 k ∧ s5 = .int .i64 ((q.take k).foldl (worS l) (0, 0)).1 ∧ s6 = .int .i64 (((q.take k).foldl (worS l) (0, 0)).2) ∧ wr = w) (fun s11 _ _ _ => p - (intOf s11).toNat)
  case atStart => exact ⟨0, by omega, rfl, by simp, by simp, rfl⟩
  case round =>
    obtain ⟨k, hk, rfl, rfl, rfl, rfl⟩ := hrel
    obtain ⟨b1, b2, b3, b4⟩ := HBD.out k (by omega)
    by_cases hlt : k < p
    · have hkl : k < q.length := by rw [HQL.out]; exact hlt
      have hsu := fold_take_succ (worS l) (0, 0) q hkl
      have hjn := HQB.out q[k] (List.getElem_mem hkl)
      obtain ⟨bl, ol, rfl, _, g0⟩ := HL.out.at1 (k := k) (by rw [intsOf, List.length_map]; exact hkl)
      rw [show (intsOf q)[k]'(by rw [intsOf, List.length_map]; exact hkl) = ((q[k] : Nat) : Int) by simp [intsOf]] at g0
      obtain ⟨j, hj⟩ : ∃ j, j = q[k] := ⟨_, rfl⟩
      rw [← hj] at hsu hjn g0
      have hjl : j < l.length := by rw [HAL.out]; exact hjn
      obtain ⟨ba, oa, rfl, _, g1, g2, g3, g4⟩ := HA.out.at4 (k := j) hjl
      have hgd : l[j] = jAt l j := (getD_at l j hjl _).symm
      rw [hgd] at g1 g2 g3 g4
      obtain ⟨⟨ht1, ht2⟩, hy1, hy2⟩ := HIN.out j
      obtain ⟨st, hst⟩ : ∃ st, st = (q.take k).foldl (worS l) (0, 0) := ⟨_, rfl⟩
      rw [← hst] at hsu b1 b2 b3 b4 ⊢
      have HSU : Hid ((q.take (k + 1)).foldl (worS l) (0, 0) = (st.1 + (jAt l j).t, st.2 + (jAt l j).y * (st.1 + (jAt l j).t))) := Lib.hid hsu
      obtain ⟨jb, hjb⟩ : ∃ jb, jb = jAt l j := ⟨_, rfl⟩
      rw [← hjb] at g1 g2 g3 g4 ht1 ht2 hy1 hy2 HSU
      obtain ⟨f, s⟩ := st
      obtain ⟨t, sl, x, y⟩ := jb
      simp only at b1 b2 b3 b4 HSU g1 g2 g3 g4 ht1 ht2 hy1 hy2 ⊢
      have w1 : IntKind.i64.wrap (f + t) = f + t := IntWalk.i64_in _ (by omega)
      have HST := Lib.hid hst
      clear hj hst hsu hgd hjb hjl
      have hmul := mul_in (a := y) (b := f + t) ⟨hy1, hy2⟩ (by omega)
      have w2 : IntKind.i64.wrap (y * (f + t)) = y * (f + t) := IntWalk.i64_in _ (by omega)
      have w3 : IntKind.i64.wrap (s + y * (f + t)) = s + y * (f + t) := IntWalk.i64_in _ (by omega)
      clear hmul
      go_wp2_with fail
      refine ⟨⟨k + 1, by omega, by go_num, by rw [HSU.out], by rw [HSU.out], trivial⟩, by simp [intOf]; omega⟩
    · obtain rfl : k = p := by omega
      have HT := Lib.hid (fold_take_le (worS l) (0, 0) q (n := k) (by rw [HQL.out]; exact Nat.le_refl _))
      obtain ⟨v8, hv8⟩ : ∃ v, v = ((q.take k).foldl (worS l) (0, 0)).2 := ⟨_, rfl⟩
      rw [← hv8]
      have HV8 := Lib.hid hv8
      clear hv8
      go_wp2_with fail
      go_ret
      exact ⟨by unfold worE; rw [HT.out, ← HV8.out]; rfl, rfl⟩

set_option maxRecDepth 100000 in
set_option maxHeartbeats 1000000 in
theorem ref_Weighs1 (n p : Nat) (hp : p ≤ 7) (q : List Nat) (L A : Option Addr) (c ca : Nat) (l : List Jb) (w : World) (hql : q.length = p) (hqb : ∀ i ∈ q, i < n) (hL : Els w w.heap.size 1 icell L (intsOf q))
    (hA : Els w w.heap.size 4 Jb.cells A l) (hal : l.length = n) (hn : n ≤ 7) (ha : l.any (badJ Jb.x) = false) :
    Calls Try.prog 50 #[.slice A n ca, .int .i64 1, .slice L p c] w fun e w' => e = .returned (.int .i64 (latQ l q)) ∧ w' = w := by
  have HBD := Lib.hid (lat_bound ha q)
  have HA := Lib.hid hA
  have HL := Lib.hid hL
  have HAL := Lib.hid hal
  have HQL := Lib.hid hql
  have HQB := Lib.hid hqb
  have HIN := Lib.hid (jAt_in (g := Jb.x) rfl ha)
  clear hA hL hal hql hqb ha
  go_enter Try.func50, Try.ntmps50
  go_wp2_with fail
  go_loopw [13, 7, 8] (fun s11 s5 s6 wr => ∃ k : Nat, k ≤ p ∧ s11 = .int .i64 k ∧ s5 = .int .i64 ((q.take k).foldl (latS l) (0, -1048576)).1 ∧ s6 = .int .i64 (if k = 0 then 0 else ((q.take k).foldl (latS l) (0, -1048576)).2) ∧ wr = w) (fun s11 _ _ _ => p - (intOf s11).toNat)
  case atStart => exact ⟨0, by omega, rfl, by simp, by simp, rfl⟩
  case round =>
    obtain ⟨k, hk, rfl, rfl, rfl, rfl⟩ := hrel
    obtain ⟨b1, b2, b3, b4⟩ := HBD.out k
    by_cases hlt : k < p
    · have hkl : k < q.length := by rw [HQL.out]; exact hlt
      have hsu := fold_take_succ (latS l) (0, -1048576) q hkl
      have hjn := HQB.out q[k] (List.getElem_mem hkl)
      obtain ⟨bl, ol, rfl, _, g0⟩ := HL.out.at1 (k := k) (by rw [intsOf, List.length_map]; exact hkl)
      rw [show (intsOf q)[k]'(by rw [intsOf, List.length_map]; exact hkl) = ((q[k] : Nat) : Int) by simp [intsOf]] at g0
      obtain ⟨j, hj⟩ : ∃ j, j = q[k] := ⟨_, rfl⟩
      rw [← hj] at hsu hjn g0
      have hjl : j < l.length := by rw [HAL.out]; exact hjn
      obtain ⟨ba, oa, rfl, _, g1, g2, g3, g4⟩ := HA.out.at4 (k := j) hjl
      have hgd : l[j] = jAt l j := (getD_at l j hjl _).symm
      rw [hgd] at g1 g2 g3 g4
      obtain ⟨⟨ht1, ht2⟩, hy1, hy2⟩ := HIN.out j
      obtain ⟨st, hst⟩ : ∃ st, st = (q.take k).foldl (latS l) (0, -1048576) := ⟨_, rfl⟩
      rw [← hst] at hsu b1 b2 b3 b4 ⊢
      have HSU : Hid ((q.take (k + 1)).foldl (latS l) (0, -1048576) = (st.1 + (jAt l j).t, max st.2 (st.1 + (jAt l j).t - (jAt l j).x))) := Lib.hid hsu
      obtain ⟨jb, hjb⟩ : ∃ jb, jb = jAt l j := ⟨_, rfl⟩
      rw [← hjb] at g1 g2 g3 g4 ht1 ht2 hy1 hy2 HSU
      obtain ⟨f, s⟩ := st
      obtain ⟨t, sl, x, y⟩ := jb
      simp only at b1 b2 b3 b4 HSU g1 g2 g3 g4 ht1 ht2 hy1 hy2 ⊢
      have w1 : IntKind.i64.wrap (f + t) = f + t := IntWalk.i64_in _ (by omega)
      have HST := Lib.hid hst
      clear hj hst hsu hgd hjb hjl
      have w2 : IntKind.i64.wrap (f + t - x) = f + t - x := IntWalk.i64_in _ (by omega)
      by_cases hk0 : k = 0
      · have hs0 : s = -1048576 := by
          have := HST.out
          rw [hk0] at this
          exact (congrArg Prod.snd this)
        have hk1 : ((k : Int) == 0) = true := by simp; omega
        have HF : Hid (max s (f + t - x) = f + t - x) := Lib.hid (Int.max_eq_right (by omega))
        rw [if_pos hk0]
        clear hk0 hs0
        go_wp2_with fail
        refine ⟨⟨k + 1, by omega, by go_num, by rw [HSU.out], by rw [HSU.out, if_neg (by omega), HF.out], trivial⟩, by simp [intOf]; omega⟩
      · have hk1 : ((k : Int) == 0) = false := by simp; omega
        rw [if_neg hk0]
        clear hk0
        by_cases hgt : s < f + t - x
        · have HF : Hid (max s (f + t - x) = f + t - x) := Lib.hid (Int.max_eq_right (by omega))
          have hd : decide (s < f + t - x) = true := decide_eq_true hgt
          go_wp2_with fail
          refine ⟨⟨k + 1, by omega, by go_num, by rw [HSU.out], by rw [HSU.out, if_neg (by omega), HF.out], trivial⟩, by simp [intOf]; omega⟩
        · have HF : Hid (max s (f + t - x) = s) := Lib.hid (Int.max_eq_left (by omega))
          have hd : decide (s < f + t - x) = false := decide_eq_false hgt
          go_wp2_with fail
          refine ⟨⟨k + 1, by omega, by go_num, by rw [HSU.out], by rw [HSU.out, if_neg (by omega), HF.out], trivial⟩, by simp [intOf]; omega⟩
    · obtain rfl : k = p := by omega
      have HT := Lib.hid (fold_take_le (latS l) (0, -1048576) q (n := k) (by rw [HQL.out]; exact Nat.le_refl _))
      obtain ⟨v8, hv8⟩ : ∃ v, v = if k = 0 then 0 else ((q.take k).foldl (latS l) (0, -1048576)).2 := ⟨_, rfl⟩
      rw [← hv8]
      have HV8 := Lib.hid hv8
      clear hv8
      go_wp2_with fail
      go_ret
      exact ⟨by unfold latQ latE; rw [HQL.out, HT.out, ← HV8.out]; rfl, rfl⟩

set_option maxRecDepth 100000 in
set_option maxHeartbeats 1000000 in
theorem ref_best0 (n : Nat) (A : Option Addr) (ca : Nat) (l : List Jb) (w : World) (hA : Els w w.heap.size 4 Jb.cells A l) (hal : l.length = n) (hn : n ≤ 7) (ha : l.any (badJ Jb.y) = false) :
    Calls Try.prog 23 #[.slice A n ca, .int .i64 0] w fun e w' => ∃ (A' : Option Addr) (cap : Nat) (q : List Nat) (x : Int), e = .returned (.tuple #[.slice A' n cap, .int .i64 x]) ∧ Below w.heap.size w w' ∧ bestF (worE l) (permsF n n []) = some (q, x) ∧ Els w' w'.heap.size 1 icell A' (intsOf q) := by
  have HA := Lib.hid hA
  have HAL := Lib.hid hal
  have HBA := Lib.hid ha
  have HO := Lib.hid (ref_Orders n hn n [] none 0 0 w rfl (by omega) (Own.nil _ _ _ (fun _ => rfl)))
  have hpw := pow8 (f := n) (by omega)
  have hpl := perms_len (n := n) (by omega) n []
  clear hA hal ha
  go_enter Try.func23, Try.ntmps23
  go_wp2_with fail
  refine HO.out.mono ?_
  clear HO
  rintro e w2 ⟨A2, k2, c2, P, rfl, hk2, hb2, ho2, hl2, hm2⟩
  have hlen : k2 = (permsF n n []).length := by rw [hk2]; have := congrArg List.length hm2; simpa using this
  have hR := fun q hq => (perms_ok (n := n) n [] (by simp) (by simp) q hq)
  have HNE := Lib.hid (perms_ne (n := n) n [] (by simp) (by simp) (by simp))
  obtain ⟨R, hRe⟩ : ∃ R, R = permsF n n [] := ⟨_, rfl⟩
  rw [← hRe] at hlen hR hpl hm2 HNE
  have HRE := Lib.hid hRe
  have HOA := Lib.hid (fun k hk => orders_at (n := n) ho2 hl2 hm2 (fun q hq => (hR q hq).1) (k := k) hk)
  have HR := Lib.hid hR
  have HLEN := Lib.hid hlen
  have HA2 := Lib.hid ((HA.out.below hb2).more hb2.size)
  have HW2 := Lib.hid hb2
  have hk2' : k2 ≤ 2097152 := by omega
  clear ho2 hl2 hm2 hk2 hb2 hR hlen hpl hpw hRe
  go_wp2_with fail
  go_loopw [15, 6, 7] (fun s42 s9 s10 wr => ∃ k : Nat, k ≤ k2 ∧ s42 = .int .i64 k ∧ wr = w2 ∧ BestV (worE l) n (R.take k) s9 s10 w2) (fun s42 _ _ _ => k2 - (intOf s42).toNat)
  case atStart => exact ⟨0, by omega, rfl, rfl, BestV.nil _ _ _⟩
  case round =>
    obtain ⟨k, hk, rfl, rfl, hbest⟩ := hrel
    by_cases hlt : k < k2
    · have hkR : k < R.length := by rw [← HLEN.out]; exact hlt
      obtain ⟨bl, ol, L, cl, rfl, g0, hL⟩ := HOA.out k hkR
      have hsn := bestF_snoc (worE l) (R.take k) R[k]
      rw [← take_snoc R hkR] at hsn
      obtain ⟨hr1, hr2⟩ := HR.out R[k] (List.getElem_mem hkR)
      obtain ⟨r, hr⟩ : ∃ r, r = R[k] := ⟨_, rfl⟩
      rw [← hr] at hsn hr1 hr2 hL
      have HTE := Lib.hid (ref_Weighs0 n n hn r L A cl ca l wr hr1 hr2 hL HA2.out HAL.out hn HBA.out)
      obtain ⟨z, hz⟩ : ∃ z, z = (worE l) r := ⟨_, rfl⟩
      rw [show worE l r = z from hz.symm] at HTE
      have HZ := Lib.hid hz
      have HLS := Lib.hid hL
      have HSN := Lib.hid hsn
      clear hr hr1 hr2 hL hz hsn
      rcases hbest.cases with ⟨hnil, hbn, rfl, rfl⟩ | ⟨q', y, A9, c9, hne, hbs, rfl, rfl, he9⟩
      · have hk0 : k = 0 := by
          rcases Nat.eq_zero_or_pos k with h | h
          · exact h
          · have := congrArg List.length hnil
            rw [List.length_take, List.length_nil] at this
            omega
        have hk1 : ((k : Int) == 0) = true := by simp; omega
        clear hk0
        have HST : Hid (bestF (worE l) (R.take (k + 1)) = some (r, z)) := Lib.hid (by rw [HSN.out, hbn, HZ.out]; rfl)
        clear hnil hbn hbest
        go_wp2_with fail
        refine HTE.out.mono ?_
        clear HTE
        rintro e w' ⟨rfl, rfl⟩
        go_wp2_with fail
        refine ⟨⟨k + 1, by omega, by go_num, trivial, BestV.mk HST.out HLS.out⟩, by simp [intOf]; omega⟩
      · have hk0 : ((k : Int) == 0) = false := by
          have : k ≠ 0 := fun h => hne (by rw [h]; rfl)
          simp; omega
        by_cases hzy : z < y
        · have HST : Hid (bestF (worE l) (R.take (k + 1)) = some (r, z)) := Lib.hid (by rw [HSN.out, hbs]; unfold bestStep; rw [← HZ.out]; exact if_pos hzy)
          clear hne hbs hbest he9
          go_wp2_with fail
          refine HTE.out.mono ?_
          clear HTE
          rintro e w' ⟨rfl, rfl⟩
          go_wp2_with fail
          refine ⟨⟨k + 1, by omega, by go_num, trivial, BestV.mk HST.out HLS.out⟩, by simp [intOf]; omega⟩
        · have HST : Hid (bestF (worE l) (R.take (k + 1)) = some (q', y)) := Lib.hid (by rw [HSN.out, hbs]; unfold bestStep; rw [← HZ.out]; exact if_neg hzy)
          have HE9 := Lib.hid he9
          clear hne hbs hbest he9
          go_wp2_with fail
          refine HTE.out.mono ?_
          clear HTE
          rintro e w' ⟨rfl, rfl⟩
          go_wp2_with fail
          refine ⟨⟨k + 1, by omega, by go_num, trivial, BestV.mk HST.out HE9.out⟩, by simp [intOf]; omega⟩
    · obtain rfl : k = k2 := by omega
      rw [List.take_of_length_le (by rw [HLEN.out]; exact Nat.le_refl _)] at hbest
      rcases hbest.cases with ⟨hnil, hbn, rfl, rfl⟩ | ⟨q', y, A9, c9, hne, hbs, rfl, rfl, he9⟩
      · exact absurd hnil HNE.out
      · have HBS := Lib.hid hbs
        have HE9 := Lib.hid he9
        clear hbest hne hbs he9
        go_wp2_with fail
        refine bodyPost_ret (v := .tuple #[.slice A9 n c9, .int .i64 y]) (by simp [results, Try.results23, go_sem]) rfl ?_
        exact ⟨A9, c9, q', y, rfl, HW2.out, by rw [← HRE.out]; exact HBS.out, HE9.out⟩

set_option maxRecDepth 100000 in
set_option maxHeartbeats 1000000 in
theorem ref_best1 (n : Nat) (A : Option Addr) (ca : Nat) (l : List Jb) (w : World) (hA : Els w w.heap.size 4 Jb.cells A l) (hal : l.length = n) (hn : n ≤ 7) (ha : l.any (badJ Jb.x) = false) :
    Calls Try.prog 23 #[.slice A n ca, .int .i64 1] w fun e w' => ∃ (A' : Option Addr) (cap : Nat) (q : List Nat) (x : Int), e = .returned (.tuple #[.slice A' n cap, .int .i64 x]) ∧ Below w.heap.size w w' ∧ bestF (latQ l) (permsF n n []) = some (q, x) ∧ Els w' w'.heap.size 1 icell A' (intsOf q) := by
  have HA := Lib.hid hA
  have HAL := Lib.hid hal
  have HBA := Lib.hid ha
  have HO := Lib.hid (ref_Orders n hn n [] none 0 0 w rfl (by omega) (Own.nil _ _ _ (fun _ => rfl)))
  have hpw := pow8 (f := n) (by omega)
  have hpl := perms_len (n := n) (by omega) n []
  clear hA hal ha
  go_enter Try.func23, Try.ntmps23
  go_wp2_with fail
  refine HO.out.mono ?_
  clear HO
  rintro e w2 ⟨A2, k2, c2, P, rfl, hk2, hb2, ho2, hl2, hm2⟩
  have hlen : k2 = (permsF n n []).length := by rw [hk2]; have := congrArg List.length hm2; simpa using this
  have hR := fun q hq => (perms_ok (n := n) n [] (by simp) (by simp) q hq)
  have HNE := Lib.hid (perms_ne (n := n) n [] (by simp) (by simp) (by simp))
  obtain ⟨R, hRe⟩ : ∃ R, R = permsF n n [] := ⟨_, rfl⟩
  rw [← hRe] at hlen hR hpl hm2 HNE
  have HRE := Lib.hid hRe
  have HOA := Lib.hid (fun k hk => orders_at (n := n) ho2 hl2 hm2 (fun q hq => (hR q hq).1) (k := k) hk)
  have HR := Lib.hid hR
  have HLEN := Lib.hid hlen
  have HA2 := Lib.hid ((HA.out.below hb2).more hb2.size)
  have HW2 := Lib.hid hb2
  have hk2' : k2 ≤ 2097152 := by omega
  clear ho2 hl2 hm2 hk2 hb2 hR hlen hpl hpw hRe
  go_wp2_with fail
  go_loopw [15, 6, 7] (fun s42 s9 s10 wr => ∃ k : Nat, k ≤ k2 ∧ s42 = .int .i64 k ∧ wr = w2 ∧ BestV (latQ l) n (R.take k) s9 s10 w2) (fun s42 _ _ _ => k2 - (intOf s42).toNat)
  case atStart => exact ⟨0, by omega, rfl, rfl, BestV.nil _ _ _⟩
  case round =>
    obtain ⟨k, hk, rfl, rfl, hbest⟩ := hrel
    by_cases hlt : k < k2
    · have hkR : k < R.length := by rw [← HLEN.out]; exact hlt
      obtain ⟨bl, ol, L, cl, rfl, g0, hL⟩ := HOA.out k hkR
      have hsn := bestF_snoc (latQ l) (R.take k) R[k]
      rw [← take_snoc R hkR] at hsn
      obtain ⟨hr1, hr2⟩ := HR.out R[k] (List.getElem_mem hkR)
      obtain ⟨r, hr⟩ : ∃ r, r = R[k] := ⟨_, rfl⟩
      rw [← hr] at hsn hr1 hr2 hL
      have HTE := Lib.hid (ref_Weighs1 n n hn r L A cl ca l wr hr1 hr2 hL HA2.out HAL.out hn HBA.out)
      obtain ⟨z, hz⟩ : ∃ z, z = (latQ l) r := ⟨_, rfl⟩
      rw [show latQ l r = z from hz.symm] at HTE
      have HZ := Lib.hid hz
      have HLS := Lib.hid hL
      have HSN := Lib.hid hsn
      clear hr hr1 hr2 hL hz hsn
      rcases hbest.cases with ⟨hnil, hbn, rfl, rfl⟩ | ⟨q', y, A9, c9, hne, hbs, rfl, rfl, he9⟩
      · have hk0 : k = 0 := by
          rcases Nat.eq_zero_or_pos k with h | h
          · exact h
          · have := congrArg List.length hnil
            rw [List.length_take, List.length_nil] at this
            omega
        have hk1 : ((k : Int) == 0) = true := by simp; omega
        clear hk0
        have HST : Hid (bestF (latQ l) (R.take (k + 1)) = some (r, z)) := Lib.hid (by rw [HSN.out, hbn, HZ.out]; rfl)
        clear hnil hbn hbest
        go_wp2_with fail
        refine HTE.out.mono ?_
        clear HTE
        rintro e w' ⟨rfl, rfl⟩
        go_wp2_with fail
        refine ⟨⟨k + 1, by omega, by go_num, trivial, BestV.mk HST.out HLS.out⟩, by simp [intOf]; omega⟩
      · have hk0 : ((k : Int) == 0) = false := by
          have : k ≠ 0 := fun h => hne (by rw [h]; rfl)
          simp; omega
        by_cases hzy : z < y
        · have HST : Hid (bestF (latQ l) (R.take (k + 1)) = some (r, z)) := Lib.hid (by rw [HSN.out, hbs]; unfold bestStep; rw [← HZ.out]; exact if_pos hzy)
          clear hne hbs hbest he9
          go_wp2_with fail
          refine HTE.out.mono ?_
          clear HTE
          rintro e w' ⟨rfl, rfl⟩
          go_wp2_with fail
          refine ⟨⟨k + 1, by omega, by go_num, trivial, BestV.mk HST.out HLS.out⟩, by simp [intOf]; omega⟩
        · have HST : Hid (bestF (latQ l) (R.take (k + 1)) = some (q', y)) := Lib.hid (by rw [HSN.out, hbs]; unfold bestStep; rw [← HZ.out]; exact if_neg hzy)
          have HE9 := Lib.hid he9
          clear hne hbs hbest he9
          go_wp2_with fail
          refine HTE.out.mono ?_
          clear HTE
          rintro e w' ⟨rfl, rfl⟩
          go_wp2_with fail
          refine ⟨⟨k + 1, by omega, by go_num, trivial, BestV.mk HST.out HE9.out⟩, by simp [intOf]; omega⟩
    · obtain rfl : k = k2 := by omega
      rw [List.take_of_length_le (by rw [HLEN.out]; exact Nat.le_refl _)] at hbest
      rcases hbest.cases with ⟨hnil, hbn, rfl, rfl⟩ | ⟨q', y, A9, c9, hne, hbs, rfl, rfl, he9⟩
      · exact absurd hnil HNE.out
      · have HBS := Lib.hid hbs
        have HE9 := Lib.hid he9
        clear hbest hne hbs he9
        go_wp2_with fail
        refine bodyPost_ret (v := .tuple #[.slice A9 n c9, .int .i64 y]) (by simp [results, Try.results23, go_sem]) rfl ?_
        exact ⟨A9, c9, q', y, rfl, HW2.out, by rw [← HRE.out]; exact HBS.out, HE9.out⟩
end Go.Proofs.Ytpinhmhempbmoaa
