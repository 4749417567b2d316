/- A queue's worth and its lateness: the program's walks. Conditions: the jobs read so. -/
import Derived.Test.YtpinhmhempbmoaaQueP
import Derived.Test.YtpinhmhempbmoaaTwoA
import Derived.Test.YtpinhmhempbmoaaIdxJ
namespace Go.Proofs.Ytpinhmhempbmoaa
open Go.RowKit Go.Shelf

abbrev Jb.agg (j : Jb) : Value := .agg #[.int .i64 j.t, j.s.val, .int .i64 j.x, .int .i64 j.y]
set_option maxRecDepth 100000 in
theorem queue_W1 (j : Jb) (w : World) : Calls Try.prog 48 #[j.agg] w fun e w' => e = .returned (.int .i64 j.y) ∧ Below w.heap.size w w' := by
  go_enter Try.func48, Try.ntmps48
  go_wp2_with fail
  go_ret
  exact ⟨rfl, (Below.refl _ w).alloc (Nat.le_refl _) _⟩
set_option maxRecDepth 100000 in
theorem queue_due (j : Jb) (w : World) : Calls Try.prog 51 #[j.agg] w fun e w' => e = .returned (.int .i64 j.x) ∧ Below w.heap.size w w' := by
  go_enter Try.func51, Try.ntmps51
  go_wp2_with fail
  go_ret
  exact ⟨rfl, (Below.refl _ w).alloc (Nat.le_refl _) _⟩
theorem ent_W1 : Ent Try.prog 48 := enters_of Try.func48 (by kernel_rfl) rfl
theorem ent_due : Ent Try.prog 51 := enters_of Try.func51 (by kernel_rfl) rfl
theorem ent_wrong1 : Ent Try.prog 76 := enters_of Try.func76 (by kernel_rfl) rfl

set_option maxRecDepth 100000 in
set_option maxHeartbeats 1000000 in
theorem queue_wrong1 (F : FuncId) (hF : Ent Try.prog F) (g : Jb → Int) (H : ∀ (j : Jb) (w : World), Calls Try.prog F #[j.agg] w fun e w' => e = .returned (.int .i64 (g j)) ∧ Below w.heap.size w w') (j : Jb) (S : Nat) (w : World) (hS : Blk w S 87 #[.func (.func F) #[] #[]]) :
    Calls Try.prog 76 #[j.agg, .pointer (some ⟨S, 0, none⟩)] w fun e w' => e = .returned (.bool (badJ g j)) ∧ Below w.heap.size w w' := by
  have hent : ∀ (args : Array Value) (w : World), (callFunc F args).run Try.prog w = .ok (.enter F args) w := hF
  clear hF
  have HT := Lib.hid (queue_out j.t (w.alloc (.cells #[.int .i64 j.t, j.s.val, .int .i64 j.x, .int .i64 j.y] 75)))
  have hk := hS.alloc (.cells #[.int .i64 j.t, j.s.val, .int .i64 j.x, .int .i64 j.y] 75)
  have hn := Blk.new w 75 #[.int .i64 j.t, j.s.val, .int .i64 j.x, .int .i64 j.y]
  have hb := (Below.refl w.heap.size w).alloc (Nat.le_refl _) (.cells #[.int .i64 j.t, j.s.val, .int .i64 j.x, .int .i64 j.y] 75)
  obtain ⟨V, hV⟩ : ∃ V, V = w.alloc (.cells #[.int .i64 j.t, j.s.val, .int .i64 j.x, .int .i64 j.y] 75) := ⟨_, rfl⟩
  rw [← hV] at HT hk hn hb
  have HV := Lib.hid hV
  have HB := Lib.hid hb
  have HG := Lib.hid (H j V)
  have c0 := hk.cell 0
  have n0 := hn.cell 0
  have n1 := hn.cell 1
  have n2 := hn.cell 2
  have n3 := hn.cell 3
  obtain ⟨Z, hZ⟩ : ∃ Z, Z = w.heap.size := ⟨_, rfl⟩
  rw [← hZ] at n0 n1 n2 n3
  have HZ := Lib.hid hZ
  clear hV hb hk hn hS H hZ
  go_enter Try.func76, Try.ntmps76
  go_wp2_with fail
  rw [← HV.out, ← HZ.out]
  clear HV
  refine HT.out.mono ?_
  clear HT
  rintro e w1 ⟨rfl, rfl⟩
  rcases ht : outB j.t with _ | _
  · have HTT := Lib.hid ht
    clear ht
    go_wp2_with fail
    refine HG.out.mono ?_
    clear HG
    rintro e w2 ⟨rfl, hb2⟩
    have HB2 := Lib.hid (HB.out.trans (hb2.mono HB.out.size))
    have HO := Lib.hid (queue_out (g j) w2)
    clear hb2
    go_wp2_with fail
    refine HO.out.mono ?_
    clear HO
    rintro e w3 ⟨rfl, rfl⟩
    go_wp2_with fail
    go_ret
    exact ⟨by simp [badJ, HTT.out], HB2.out⟩
  · have HTT := Lib.hid ht
    clear ht
    go_wp2_with fail
    go_ret
    exact ⟨by simp [badJ, HTT.out], HB.out⟩

set_option maxRecDepth 100000 in
set_option maxHeartbeats 1000000 in
theorem queue_wrong (F : FuncId) (hF : Ent Try.prog F) (g : Jb → Int) (H : ∀ (j : Jb) (w : World), Calls Try.prog F #[j.agg] w fun e w' => e = .returned (.int .i64 (g j)) ∧ Below w.heap.size w w') (n : Nat) (A : Option Addr) (c : Nat) (l : List Jb) (w : World) (hl : l.length = n) (hn : n ≤ maxLen) (hr : Els w w.heap.size 4 Jb.cells A l) :
    Calls Try.prog 47 #[.slice A n c, .func (.func F) #[] #[]] w fun e w' => e = .returned (.int .i64 (queCheck g l)) ∧ Below w.heap.size w w' := by
  have hb := (Below.refl w.heap.size w).alloc (Nat.le_refl _) (.cells #[.func (.func F) #[] #[]] 87)
  have hk := Blk.new w 87 #[.func (.func F) #[] #[]]
  have HC := Lib.hid (ContainsFunc_jobs 76 ent_wrong1 #[.pointer (some ⟨w.heap.size, 0, none⟩)] (badJ g) A n c l (w.alloc (.cells #[.func (.func F) #[] #[]] 87)) hl hn ((hr.alloc (Nat.le_refl _) _).more (by rw [size_alloc']; omega)) (fun a wx _ hbx =>
    (queue_wrong1 F hF g H a w.heap.size wx (hk.below hbx (by rw [size_alloc']; omega))).mono fun e w' ⟨he, hb'⟩ => ⟨he, hb'.mono hbx.size⟩))
  have HQ : Hid (queCheck g l = if 7 < n then 1 else if l.any (badJ g) then 4 else 0) := Lib.hid (by unfold queCheck; rw [hl])
  have HB := Lib.hid hb
  unfold maxLen at hn
  clear hb hk hl hr H hF
  go_enter Try.func47, Try.ntmps47
  by_cases h7 : 7 < n
  · have hd : decide ((7 : Int) < (n : Int)) = true := decide_eq_true (by omega)
    rw [if_pos h7] at HQ
    go_wp2_with fail
    go_ret
    exact ⟨by rw [HQ.out]; rfl, HB.out⟩
  · have hd : decide ((7 : Int) < (n : Int)) = false := decide_eq_false (by omega)
    rw [if_neg h7] at HQ
    go_wp2_with fail
    refine HC.out.mono ?_
    clear HC
    rintro e w1 ⟨rfl, hb1⟩
    have HB1 := Lib.hid (HB.out.trans (hb1.mono HB.out.size))
    clear hb1
    cases ha : l.any (badJ g) with
    | true =>
      rw [ha] at HQ
      clear ha
      go_wp2_with fail
      go_ret
      exact ⟨by rw [HQ.out]; rfl, HB1.out⟩
    | false =>
      rw [ha] at HQ
      clear ha
      go_wp2_with fail
      go_ret
      exact ⟨by rw [HQ.out]; rfl, HB1.out⟩

theorem ent_W2 : Ent Try.prog 49 := enters_of Try.func49 (by kernel_rfl) rfl
set_option maxRecDepth 100000 in
set_option maxHeartbeats 1000000 in
theorem queue_W2 (n : Nat) (hn : n ≤ 7) (q : List Nat) (L A : Option Addr) (c ca S : Nat) (l : List Jb) (w : World) (hql : q.length = n) (hqb : ∀ i ∈ q, i < n) (hL : Els w w.heap.size 1 icell L (intsOf q)) (hS : Blk w S 22 #[.slice A n ca])
    (hA : Els w w.heap.size 4 Jb.cells A l) (hal : l.length = n) (ha : l.any (badJ Jb.y) = false) :
    Calls Try.prog 49 #[.slice L n c, .pointer (some ⟨S, 0, none⟩)] w fun e w' => e = .returned (.int .i64 ((q.foldl (worS l) (0, 0)).2)) ∧ w' = w := by
  have c0 := hS.cell 0
  have HBD := Lib.hid (wor_bound ha q)
  have HA := Lib.hid hA
  have HL := Lib.hid hL
  have HAL := Lib.hid hal
  have HQL := Lib.hid hql
  have HQB := Lib.hid hqb
  have HIN := Lib.hid (jAt_in (g := Jb.y) rfl ha)
  clear hS hA hL hal hql hqb ha
  go_enter Try.func49, Try.ntmps49
  go_wp2_with fail
  go_loopw [10, 4, 5] (fun s11 s5 s6 wr => ∃ k : Nat, k ≤ n ∧ s11 = .int .i64 k ∧ s5 = .int .i64 ((q.take k).foldl (worS l) (0, 0)).1 ∧ s6 = .int .i64 ((q.take k).foldl (worS l) (0, 0)).2 ∧ wr = w) (fun s11 _ _ _ => n - (intOf s11).toNat)
  case atStart => exact ⟨0, by omega, rfl, by simp, by simp, rfl⟩
  case round =>
    obtain ⟨k, hk, rfl, rfl, rfl, rfl⟩ := hrel
    obtain ⟨b1, b2, b3, b4⟩ := HBD.out k (by omega)
    by_cases hlt : k < n
    · have hkl : k < q.length := by rw [HQL.out]; exact hlt
      have hsu := fold_take_succ (worS l) (0, 0) q hkl
      have hjn := HQB.out q[k] (List.getElem_mem hkl)
      obtain ⟨bl, ol, rfl, _, g0⟩ := HL.out.at1 (k := k) (by rw [intsOf, List.length_map]; exact hkl)
      rw [show (intsOf q)[k]'(by rw [intsOf, List.length_map]; exact hkl) = ((q[k] : Nat) : Int) by simp [intsOf]] at g0
      obtain ⟨j, hj⟩ : ∃ j, j = q[k] := ⟨_, rfl⟩
      rw [← hj] at hsu hjn g0
      have hjl : j < l.length := by rw [HAL.out]; exact hjn
      obtain ⟨ba, oa, rfl, _, g1, g2, g3, g4⟩ := HA.out.at4 (k := j) hjl
      have hgd : l[j] = jAt l j := (getD_at l j hjl _).symm
      rw [hgd] at g1 g2 g3 g4
      obtain ⟨⟨ht1, ht2⟩, hy1, hy2⟩ := HIN.out j
      obtain ⟨st, hst⟩ : ∃ st, st = (q.take k).foldl (worS l) (0, 0) := ⟨_, rfl⟩
      rw [← hst] at hsu b1 b2 b3 b4 ⊢
      have HSU : Hid ((q.take (k + 1)).foldl (worS l) (0, 0) = (st.1 + (jAt l j).t, st.2 + (jAt l j).y * (st.1 + (jAt l j).t))) := Lib.hid hsu
      obtain ⟨jb, hjb⟩ : ∃ jb, jb = jAt l j := ⟨_, rfl⟩
      rw [← hjb] at g1 g2 g3 g4 ht1 ht2 hy1 hy2 HSU
      obtain ⟨f, s⟩ := st
      obtain ⟨t, sl, x, y⟩ := jb
      simp only at b1 b2 b3 b4 HSU g1 g2 g3 g4 ht1 ht2 hy1 hy2 ⊢
      have w1 : IntKind.i64.wrap (f + t) = f + t := IntWalk.i64_in _ (by omega)
      have hmul := mul_in (a := y) (b := f + t) ⟨hy1, hy2⟩ (by omega)
      obtain ⟨yy, hyy⟩ : ∃ yy, yy = y * (f + t) := ⟨_, rfl⟩
      have w2 : IntKind.i64.wrap (y * (f + t)) = y * (f + t) := IntWalk.i64_in _ (by omega)
      have w3 : IntKind.i64.wrap (s + y * (f + t)) = s + y * (f + t) := IntWalk.i64_in _ (by omega)
      clear hmul hyy
      clear hj hst hsu hgd hjb hjl
      go_wp2_with fail
      refine ⟨⟨k + 1, by omega, by go_num, by rw [HSU.out], by rw [HSU.out], trivial⟩, by simp [intOf]; omega⟩
    · obtain rfl : k = n := by omega
      have HT := Lib.hid (fold_take_le (worS l) (0, 0) q (n := k) (by rw [HQL.out]; exact Nat.le_refl _))
      go_wp2_with fail
      go_ret
      exact ⟨by rw [HT.out]; rfl, rfl⟩

theorem ent_L1 : Ent Try.prog 52 := enters_of Try.func52 (by kernel_rfl) rfl
set_option maxRecDepth 100000 in
set_option maxHeartbeats 1000000 in
theorem queue_L1 (n : Nat) (hn : n ≤ 7) (q : List Nat) (L A : Option Addr) (c ca S : Nat) (l : List Jb) (w : World) (hql : q.length = n) (hqb : ∀ i ∈ q, i < n) (hL : Els w w.heap.size 1 icell L (intsOf q)) (hS : Blk w S 22 #[.slice A n ca])
    (hA : Els w w.heap.size 4 Jb.cells A l) (hal : l.length = n) (ha : l.any (badJ Jb.x) = false) :
    Calls Try.prog 52 #[.slice L n c, .pointer (some ⟨S, 0, none⟩)] w fun e w' => e = .returned (.int .i64 ((q.foldl (latS l) (0, -1048576)).2)) ∧ w' = w := by
  have c0 := hS.cell 0
  have HBD := Lib.hid (lat_bound ha q)
  have HA := Lib.hid hA
  have HL := Lib.hid hL
  have HAL := Lib.hid hal
  have HQL := Lib.hid hql
  have HQB := Lib.hid hqb
  have HIN := Lib.hid (jAt_in (g := Jb.x) rfl ha)
  clear hS hA hL hal hql hqb ha
  go_enter Try.func52, Try.ntmps52
  go_wp2_with fail
  go_loopw [10, 4, 5] (fun s11 s5 s6 wr => ∃ k : Nat, k ≤ n ∧ s11 = .int .i64 k ∧ s5 = .int .i64 ((q.take k).foldl (latS l) (0, -1048576)).1 ∧ s6 = .int .i64 ((q.take k).foldl (latS l) (0, -1048576)).2 ∧ wr = w) (fun s11 _ _ _ => n - (intOf s11).toNat)
  case atStart => exact ⟨0, by omega, rfl, by simp, by simp, rfl⟩
  case round =>
    obtain ⟨k, hk, rfl, rfl, rfl, rfl⟩ := hrel
    obtain ⟨b1, b2, b3, b4⟩ := HBD.out k
    by_cases hlt : k < n
    · have hkl : k < q.length := by rw [HQL.out]; exact hlt
      have hsu := fold_take_succ (latS l) (0, -1048576) q hkl
      have hjn := HQB.out q[k] (List.getElem_mem hkl)
      obtain ⟨bl, ol, rfl, _, g0⟩ := HL.out.at1 (k := k) (by rw [intsOf, List.length_map]; exact hkl)
      rw [show (intsOf q)[k]'(by rw [intsOf, List.length_map]; exact hkl) = ((q[k] : Nat) : Int) by simp [intsOf]] at g0
      obtain ⟨j, hj⟩ : ∃ j, j = q[k] := ⟨_, rfl⟩
      rw [← hj] at hsu hjn g0
      have hjl : j < l.length := by rw [HAL.out]; exact hjn
      obtain ⟨ba, oa, rfl, _, g1, g2, g3, g4⟩ := HA.out.at4 (k := j) hjl
      have hgd : l[j] = jAt l j := (getD_at l j hjl _).symm
      rw [hgd] at g1 g2 g3 g4
      obtain ⟨⟨ht1, ht2⟩, hy1, hy2⟩ := HIN.out j
      obtain ⟨st, hst⟩ : ∃ st, st = (q.take k).foldl (latS l) (0, -1048576) := ⟨_, rfl⟩
      rw [← hst] at hsu b1 b2 b3 b4 ⊢
      have HSU : Hid ((q.take (k + 1)).foldl (latS l) (0, -1048576) = (st.1 + (jAt l j).t, max st.2 (st.1 + (jAt l j).t - (jAt l j).x))) := Lib.hid hsu
      obtain ⟨jb, hjb⟩ : ∃ jb, jb = jAt l j := ⟨_, rfl⟩
      rw [← hjb] at g1 g2 g3 g4 ht1 ht2 hy1 hy2 HSU
      obtain ⟨f, s⟩ := st
      obtain ⟨t, sl, x, y⟩ := jb
      simp only at b1 b2 b3 b4 HSU g1 g2 g3 g4 ht1 ht2 hy1 hy2 ⊢
      have w1 : IntKind.i64.wrap (f + t) = f + t := IntWalk.i64_in _ (by omega)
      have w2 : IntKind.i64.wrap (f + t - x) = f + t - x := IntWalk.i64_in _ (by omega)
      have hmx : (if s < f + t - x then f + t - x else s) = max s (f + t - x) := by rw [Int.max_def]; split <;> split <;> omega
      clear hj hst hsu hgd hjb hjl
      go_wp2_with fail
      refine ⟨⟨k + 1, by omega, by go_num, by rw [HSU.out], by rw [HSU.out], trivial⟩, by simp [intOf]; omega⟩
    · obtain rfl : k = n := by omega
      have HT := Lib.hid (fold_take_le (latS l) (0, -1048576) q (n := k) (by rw [HQL.out]; exact Nat.le_refl _))
      go_wp2_with fail
      go_ret
      exact ⟨by rw [HT.out]; rfl, rfl⟩
end Go.Proofs.Ytpinhmhempbmoaa
