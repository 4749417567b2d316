/- The law QueueTwos: both tell the same. Conditions: the lists read so. -/
import Derived.Test.YtpinhmhempbmoaaTwoA
import Derived.Test.YtpinhmhempbmoaaTwoB
import Derived.Test.YtpinhmhempbmoaaOrdV
import Derived.Test.YtpinhmhempbmoaaEq
namespace Go.Proofs.Ytpinhmhempbmoaa
open Go.RowKit

theorem twoCheck_ok {a b : List Int} (h : twoCheck a b = 0) : a.length ≤ 7 ∧ a.length = b.length ∧ a.any outB = false ∧ b.any outB = false := by
  unfold twoCheck at h
  split at h
  · cases h
  · split at h
    · cases h
    · split at h
      · cases h
      · rename_i h0 h1 h2
        have h1' : a.length = b.length := by omega
        rw [Bool.or_eq_true, not_or] at h2
        exact ⟨by omega, h1', by simpa using h2.1, by simpa using h2.2⟩
theorem twoCheck_ne (a b : List Int) : twoCheck a b = 0 ∨ ((twoCheck a b == 0) = false) := by
  by_cases h : twoCheck a b = 0
  · exact .inl h
  · exact .inr (by simpa using h)

set_option maxRecDepth 100000 in
set_option maxHeartbeats 2000000 in
theorem law_QueueTwos (n m : Nat) (A B : Option Addr) (ca cb : Nat) (a b : List Int) (w : World) (hA : Els w w.heap.size 1 icell A a) (hB : Els w w.heap.size 1 icell B b) (hal : a.length = n) (hbl : b.length = m) (hn : n ≤ maxLen) (hm : m ≤ maxLen) :
    Calls Try.prog 4 #[.slice A n ca, .slice B m cb] w fun e w' => e = .returned (.bool true) ∧ Below w.heap.size w w' := by
  have HQ := Lib.hid (queue_Two n m A B ca cb a b w hA hB hal hbl hn hm)
  have HA := Lib.hid hA
  have HB := Lib.hid hB
  have HAL := Lib.hid hal
  have HBL := Lib.hid hbl
  have HN := Lib.hid hn
  have HM := Lib.hid hm
  unfold maxLen at hn hm
  clear hA hB hal hbl
  go_enter Try.func4, Try.ntmps4
  go_wp2_with fail
  refine HQ.out.mono ?_
  clear HQ
  rintro e w1 ⟨hb1, hs⟩
  have hA1 := (HA.out.below hb1).more hb1.size
  have hB1 := (HB.out.below hb1).more hb1.size
  have HC := Lib.hid (ref_TwoCheck n m A B ca cb a b w1 hA1 hB1 HAL.out HBL.out HN.out HM.out)
  have HA1 := Lib.hid hA1
  have HB1 := Lib.hid hB1
  have HW1 := Lib.hid hb1
  clear HA HB hA1 hB1 hb1
  unfold TwoSaid at hs
  obtain ⟨tc, htc⟩ : ∃ tc, tc = twoCheck a b := ⟨_, rfl⟩
  rw [← htc] at hs HC
  by_cases h0 : tc = 0
  · subst h0
    rw [if_pos rfl] at hs
    obtain ⟨A', cap, q, x, rfl, hbf, hels⟩ := hs
    obtain ⟨k7, kab, hao, hbo⟩ := twoCheck_ok htc.symm
    have k7' : n ≤ 7 := by rw [← HAL.out]; exact k7
    have hmn : m = n := by rw [← HBL.out, ← HAL.out]; exact kab.symm
    subst hmn
    have HO := Lib.hid (ref_Orders m k7' m [] none 0 0 w1 rfl (by omega) (Own.nil _ _ _ (fun _ => rfl)))
    have HBF := Lib.hid hbf
    have HELS := Lib.hid hels
    have HAO := Lib.hid hao
    have HBO := Lib.hid hbo
    have hpw := pow8 (f := m) (by omega)
    have hpl := perms_len (n := m) (by omega) m []
    clear hbf hels hao hbo htc kab k7
    go_wp2_with fail
    refine HC.out.mono ?_
    clear HC
    rintro e w1' ⟨rfl, rfl⟩
    go_wp2_with fail
    refine HO.out.mono ?_
    clear HO
    rintro e w2 ⟨A2, k2, c2, P, rfl, hk2, hb2, ho2, hl2, hm2⟩
    have hlen : k2 = (permsF m m []).length := by rw [hk2]; have := congrArg List.length hm2; simpa using this
    have hR := fun q hq => (perms_ok (n := m) m [] (by simp) (by simp) q hq)
    have hBB : Hid (bestF (twoE (fun j => a.getD j 0) (fun j => b.getD j 0)) (permsF m m []) = some (q, x)) := HBF
    obtain ⟨R, hRe⟩ : ∃ R, R = permsF m m [] := ⟨_, rfl⟩
    rw [← hRe] at hlen hR hpl hBB hm2
    have HOA := Lib.hid (fun k hk => orders_at (n := m) ho2 hl2 hm2 (fun q hq => (hR q hq).1) (k := k) hk)
    have HR := Lib.hid hR
    have HLEN := Lib.hid hlen
    have HA2 := Lib.hid ((HA1.out.below hb2).more hb2.size)
    have HB2 := Lib.hid ((HB1.out.below hb2).more hb2.size)
    have HX2 := Lib.hid (HELS.out.below hb2)
    have HW2 := Lib.hid (HW1.out.trans (hb2.mono HW1.out.size))
    have hk2' : k2 ≤ 2097152 := by omega
    clear ho2 hl2 hm2 hk2 hb2 hR hlen hpl hpw hRe HBF HELS
    go_wp2_with fail
    go_loopw [42, 9, 10] (fun s42 s9 s10 wr => ∃ k : Nat, k ≤ k2 ∧ s42 = .int .i64 k ∧ wr = w2 ∧ BestV (twoE (fun j => a.getD j 0) (fun j => b.getD j 0)) m (R.take k) s9 s10 w2) (fun s42 _ _ _ => k2 - (intOf s42).toNat)
    case atStart => exact ⟨0, by omega, rfl, rfl, BestV.nil _ _ _⟩
    case round =>
      obtain ⟨k, hk, rfl, rfl, hbest⟩ := hrel
      by_cases hlt : k < k2
      · have hkR : k < R.length := by rw [← HLEN.out]; exact hlt
        obtain ⟨bl, ol, L, cl, rfl, g0, hL⟩ := HOA.out k hkR
        have hsn := bestF_snoc (twoE (fun j => a.getD j 0) (fun j => b.getD j 0)) (R.take k) R[k]
        rw [← take_snoc R hkR] at hsn
        obtain ⟨hr1, hr2⟩ := HR.out R[k] (List.getElem_mem hkR)
        obtain ⟨r, hr⟩ : ∃ r, r = R[k] := ⟨_, rfl⟩
        rw [← hr] at hsn hr1 hr2 hL
        have HTE := Lib.hid (ref_TwoEnd m m k7' r L A B cl ca cb a b wr hr1 k7' hr2 hL HA2.out HB2.out HAL.out HBL.out HAO.out HBO.out)
        obtain ⟨z, hz⟩ : ∃ z, z = twoE (fun j => a.getD j 0) (fun j => b.getD j 0) r := ⟨_, rfl⟩
        rw [← hz] at HTE
        have HZ := Lib.hid hz
        have HLS := Lib.hid hL
        have HSN := Lib.hid hsn
        clear hr hr1 hr2 hL hz hsn
        rcases hbest.cases with ⟨hnil, hbn, rfl, rfl⟩ | ⟨q', y, A9, c9, hne, hbs, rfl, rfl, he9⟩
        · have hk0 : k = 0 := by
            rcases Nat.eq_zero_or_pos k with h | h
            · exact h
            · have := congrArg List.length hnil
              rw [List.length_take, List.length_nil] at this
              omega
          have hk1 : ((k : Int) == 0) = true := by simp; omega
          clear hk0
          have HST : Hid (bestF (twoE (fun j => a.getD j 0) (fun j => b.getD j 0)) (R.take (k + 1)) = some (r, z)) := Lib.hid (by rw [HSN.out, hbn, HZ.out]; rfl)
          clear hnil hbn hbest
          go_wp2_with fail
          refine HTE.out.mono ?_
          clear HTE
          rintro e w' ⟨rfl, rfl⟩
          go_wp2_with fail
          refine ⟨⟨k + 1, by omega, by go_num, trivial, BestV.mk HST.out HLS.out⟩, by simp [intOf]; omega⟩
        · have hk0 : ((k : Int) == 0) = false := by
            have : k ≠ 0 := fun h => hne (by rw [h]; rfl)
            simp; omega
          by_cases hzy : z < y
          · have HST : Hid (bestF (twoE (fun j => a.getD j 0) (fun j => b.getD j 0)) (R.take (k + 1)) = some (r, z)) := Lib.hid (by rw [HSN.out, hbs]; unfold bestStep; rw [← HZ.out]; exact if_pos hzy)
            clear hne hbs hbest he9
            go_wp2_with fail
            refine HTE.out.mono ?_
            clear HTE
            rintro e w' ⟨rfl, rfl⟩
            go_wp2_with fail
            refine ⟨⟨k + 1, by omega, by go_num, trivial, BestV.mk HST.out HLS.out⟩, by simp [intOf]; omega⟩
          · have HST : Hid (bestF (twoE (fun j => a.getD j 0) (fun j => b.getD j 0)) (R.take (k + 1)) = some (q', y)) := Lib.hid (by rw [HSN.out, hbs]; unfold bestStep; rw [← HZ.out]; exact if_neg hzy)
            have HE9 := Lib.hid he9
            clear hne hbs hbest he9
            go_wp2_with fail
            refine HTE.out.mono ?_
            clear HTE
            rintro e w' ⟨rfl, rfl⟩
            go_wp2_with fail
            refine ⟨⟨k + 1, by omega, by go_num, trivial, BestV.mk HST.out HE9.out⟩, by simp [intOf]; omega⟩
      · obtain rfl : k = k2 := by omega
        rw [List.take_of_length_le (by rw [HLEN.out]; exact Nat.le_refl _)] at hbest
        rcases hbest.cases with ⟨hnil, hbn, rfl, rfl⟩ | ⟨q', y, A9, c9, hne, hbs, rfl, rfl, he9⟩
        · rw [hBB.out] at hbn
          cases hbn
        · have hbs' := hbs
          rw [hBB.out] at hbs'
          obtain ⟨rfl, rfl⟩ : q = q' ∧ x = y := by simpa using hbs'
          have hql : (intsOf q).length = m := by
            rw [intsOf, List.length_map]
            have : q ∈ R := bestF_mem _ hbs
            exact (HR.out q this).1
          have HI := Lib.hid (Ints_same A' A9 m cap c9 (intsOf q) _ _ wr hql HN.out HX2.out he9)
          clear hbest hne hbs hbs' hql he9
          go_wp2_with fail
          refine HI.out.mono ?_
          clear HI
          rintro e w' ⟨rfl, md, rfl⟩
          go_wp2_with fail
          go_ret
          exact ⟨rfl, below_drewN HW2.out _⟩
  · rw [if_neg h0] at hs
    subst hs
    have h1 : (tc == 0) = false := by simpa using h0
    clear htc
    go_wp2_with fail
    refine HC.out.mono ?_
    clear HC
    rintro e w1' ⟨rfl, rfl⟩
    go_wp2_with fail
    go_ret
    exact ⟨rfl, HW1.out⟩
theorem QueueTwos_row (a b : Sls Int) (w : World) (ga : a.Good w w.heap.size 1 (fun n : Int => [.int .i64 n]) OkI) (gb : b.Good w w.heap.size 1 (fun n : Int => [.int .i64 n]) OkI) :
    Calls Try.prog 4 #[a.val, b.val] w fun e w' => e = .returned (.bool true) ∧ Below w.heap.size w w' :=
  law_QueueTwos _ _ a.A b.A a.c b.c a.l b.l w ga.2.2.1 gb.2.2.1 rfl rfl ga.1 gb.1
end Go.Proofs.Ytpinhmhempbmoaa
