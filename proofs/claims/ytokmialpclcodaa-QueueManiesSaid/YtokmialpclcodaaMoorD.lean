/- Many: the program keeps as many as can be. Conditions: the jobs read so. -/
import Derived.Test.YtokmialpclcodaaMoorB
import Derived.Test.YtokmialpclcodaaMoorC
namespace Go.Proofs.Ytokmialpclcodaa
open Go.RowKit Go.Shelf

theorem mj_in {l : List Jb} (hok : l.any (badJ Jb.x) = false) : ∀ K : List Mj, K.Sublist (jobsS l) → 0 ≤ tsum K ∧ tsum K ≤ 1048576 * (K.length : Int)
  | [], _ => ⟨Int.le_refl _, by simp [tsum]⟩
  | j :: K, h => by
    have h1 := mj_in hok K (List.Sublist.trans (List.sublist_cons_self j K) h)
    obtain ⟨a, _, ha⟩ := List.mem_map.1 (h.subset (List.mem_cons_self ..))
    have h2 := (jAt_in (g := Jb.x) rfl hok a.toNat).1
    have h3 : j.1 = (jAt l a.toNat).t := by rw [← ha]; rfl
    have h4 : tsum (j :: K) = j.1 + tsum K := by unfold tsum; simp
    rw [h4, h3, List.length_cons]
    push_cast
    omega
theorem moor_in {l : List Jb} (hok : l.any (badJ Jb.x) = false) {k : Nat} {K : List Mj} (h : Moor ((jobsS l).take k) K) : 0 ≤ tsum K ∧ tsum K ≤ 1048576 * (K.length : Int) ∧ K.length ≤ l.length := by
  have hs := h.sub.trans (List.take_sublist _ _)
  have h1 := mj_in hok K hs
  have h2 := hs.length_le
  rw [jobsS_length] at h2
  exact ⟨h1.1, h1.2, h2⟩
def ManySaid (l : List Jb) (w w' : World) (e : Ending) : Prop :=
  Below w.heap.size w w' ∧ ((queCheck Jb.x l = 0 ∧ ∃ K, Moor (jobsS l) K ∧ e = .returned (.tuple #[.int .i64 (K.length : Int), .int .i64 0])) ∨ (queCheck Jb.x l ≠ 0 ∧ e = .returned (.tuple #[.int .i64 0, .int .i64 (queCheck Jb.x l)])))
set_option maxRecDepth 100000 in
set_option maxHeartbeats 1000000 in
theorem queue_Many (n : Nat) (A : Option Addr) (ca : Nat) (l : List Jb) (w : World) (hA : Els w w.heap.size 4 Jb.cells A l) (hal : l.length = n) (hn : n ≤ maxLen) :
    Calls Try.prog 9 #[.slice A n ca] w fun e w' => ManySaid l w w' e := by
  have HQ := Lib.hid (queue_wrong 33 ent_due Jb.x queue_due n A ca l w hal hn hA)
  have HA := Lib.hid hA
  have HAL := Lib.hid hal
  clear hA hal
  go_enter Try.func9, Try.ntmps9
  go_wp2_with fail
  refine HQ.out.mono ?_
  clear HQ
  rintro e v1 ⟨rfl, hb1⟩
  have HB1 := Lib.hid hb1
  have hz1 := hb1.size
  clear hb1
  obtain ⟨tc, htc⟩ : ∃ tc, tc = queCheck Jb.x l := ⟨_, rfl⟩
  rw [← htc]
  have HTC := Lib.hid htc
  by_cases h0 : tc = 0
  · subst h0
    obtain ⟨k7, hok⟩ := que_ok htc.symm
    rw [HAL.out] at k7
    have HOK := Lib.hid hok
    have HC := Lib.hid (Clone_jobs A n ca l v1 HAL.out (by omega) ((HA.out.below HB1.out).more hz1))
    clear hok htc
    go_wp2_with fail
    refine HC.out.mono ?_
    clear HC
    rintro e v2 ⟨A1, cap1, rfl, hb2, hown⟩
    have hz2 := hb2.size
    have HB2 := Lib.hid (HB1.out.trans (hb2.mono hz1))
    have HSO := Lib.hid (sort_jobs l A1 n cap1 v1.heap.size v2 HAL.out (by omega) HOK.out hown hz2)
    clear hb2 hown
    go_wp2_with fail
    refine HSO.out.mono ?_
    clear HSO
    rintro e v3 ⟨⟨v, rfl⟩, hb3, hown⟩
    have HB3 := Lib.hid (HB2.out.trans (hb3.mono hz1))
    have hz3 := hb3.size
    have HE := Lib.hid hown.els
    have HK0 : Hid (Moor ((jobsS l).take 0) []) := Lib.hid Moor.start
    clear hb3 hown
    go_wp2_with fail
    go_loopw [23, 6, 7] (fun s23 s6 s7 wr => ∃ (k : Nat) (K : List Mj) (A2 : Option Addr) (c2 : Nat), k ≤ n ∧ s23 = .int .i64 k ∧ s6 = .slice A2 K.length c2 ∧ s7 = .int .i64 (tsum K) ∧ Moor ((jobsS l).take k) K ∧ Below v3.heap.size v3 wr ∧ Own wr v3.heap.size 2 1 icell A2 c2 (K.map (·.1))) (fun s23 _ _ _ => n - (intOf s23).toNat)
    case atStart => exact ⟨0, [], none, 0, by omega, rfl, rfl, rfl, HK0.out, Below.refl _ _, Own.nil _ _ _ (fun _ => rfl)⟩
    case round =>
      clear HK0
      rename World => wr
      obtain ⟨k, K, A2, c2, hk, rfl, rfl, rfl, hmo, hb, hown⟩ := hrel
      have hz := hb.size
      have hmi := moor_in HOK.out hmo
      rw [HAL.out] at hmi
      have HMO := Lib.hid hmo
      have HB := Lib.hid hb
      have HO := Lib.hid hown
      obtain ⟨q, hq⟩ : ∃ q, q = K.length := ⟨_, rfl⟩
      obtain ⟨now, hnow⟩ : ∃ now, now = tsum K := ⟨_, rfl⟩
      rw [← hq, ← hnow] at hmi ⊢
      have HQ := Lib.hid hq
      have HNOW := Lib.hid hnow
      clear hmo hb hown hq hnow
      by_cases hlt : k < n
      · have hkl : k < ((ordJ l).map (pj l)).length := by rw [List.length_map, ordJ_length, HAL.out]; exact hlt
        obtain ⟨b, off, rfl, hbb, g0, g1, g2, g3⟩ := (HE.out.below HB.out).at4 (f := fun a : Jb => .int .i64 a.t) (g := fun a : Jb => a.s.val) (p := fun a : Jb => .int .i64 a.x) (q := fun a : Jb => .int .i64 a.y) hkl
        have hjk : ((ordJ l).map (pj l))[k] = pj l ((ordJ l).getD k 0) := by rw [List.getElem_map, ← getD_at (ordJ l) k (by rw [ordJ_length, HAL.out]; exact hlt)]
        rw [hjk] at g0 g1 g2 g3
        obtain ⟨j, hj⟩ : ∃ j, j = pj l ((ordJ l).getD k 0) := ⟨_, rfl⟩
        have hmj : (j.t, j.x) = mjOf l ((ordJ l).getD k 0) := by rw [hj]; rfl
        have hjin := jAt_in (g := Jb.x) rfl HOK.out ((ordJ l).getD k 0).toNat
        rw [show jAt l ((ordJ l).getD k 0).toNat = j from hj.symm] at hjin
        rw [← hj] at g0 g1 g2 g3
        have HMJ := Lib.hid hmj
        have hlk : k < l.length := by rw [HAL.out]; exact hlt
        have HLK := Lib.hid hlk
        have hbx := Blk.new wr 77 #[.int .i64 j.t, j.s.val, .int .i64 j.x, .int .i64 j.y]
        have HBX := Lib.hid hbx
        have d0 := hbx.cell 0
        have HO1 := Lib.hid (HO.out.alloc (.cells #[.int .i64 j.t, j.s.val, .int .i64 j.x, .int .i64 j.y] 77))
        have HB1 := Lib.hid (HB.out.alloc hz (.cells #[.int .i64 j.t, j.s.val, .int .i64 j.x, .int .i64 j.y] 77))
        have hKL : (K.map (·.1)).length = q := by rw [List.length_map, HQ.out]
        have HKL := Lib.hid hKL
        have hne : blkOf A2 ≠ some wr.heap.size := fun h => by have := (HO.out.lt _ h).2; omega
        have HNE := Lib.hid hne
        have hrow : ∀ g, blkOf A2 = some g → v3.heap.size ≤ g := fun g hg => (HO.out.lt g hg).1
        have HROW := Lib.hid hrow
        clear hjk hj hmj hbx hlk hKL HB HO hne hrow
        by_cases hlate : j.x < now + j.t
        · have hd : decide (j.x < now + j.t) = true := decide_eq_true hlate
          have HLATE := Lib.hid hlate
          clear hlate
          go_wp2_with (at_builtin; go_loud (refine wpList_push rfl _ _ _ rfl v3.heap.size 1 2 (.int .i64 0) 8 Try.underlying46 (by kernel_rfl) rfl (by omega) icell (wr.alloc (.cells #[.int .i64 j.t, j.s.val, .int .i64 j.x, .int .i64 j.y] 77)) #[.int .i64 j.t] A2 q c2 (K.map (·.1)) HKL.out rfl HO1.out 1 [j.t] rfl rfl (wr.heap.size + 1) rfl (by rw [size_alloc']) (by simp [Value.oneCell']) (by unfold maxLen; omega) (by omega) (by omega) ?_; intro A3 c3 w4 hown4 hgrow hloc; have hG4 := (HBX.out.alloc (.cells #[.int .i64 j.t] 2)).grown hgrow (fun h => HNE.out h.symm); have k2 := hG4.cell 0; have k3 := hG4.cell 2))
          have hb4 := (HB1.out.alloc (by rw [size_alloc']; omega) (.cells #[.int .i64 j.t] 2)).grown hgrow (by rw [size_alloc', size_alloc']; omega) (fun g hg => HROW.out g hg)
          have HB4 := Lib.hid hb4
          have HO4 := Lib.hid hown4
          obtain ⟨L, hL⟩ : ∃ L, L = K.map (·.1) ++ [j.t] := ⟨_, rfl⟩
          rw [← hL] at HO4
          have hLK : L = (K ++ [(j.t, j.x)]).map (·.1) := by rw [hL, List.map_append]; rfl
          have hLl : L.length = q + 1 := by rw [hL, List.length_append, HKL.out]; rfl
          have HMX := Lib.hid (Max_longs A3 (q + 1) c3 L w4.heap.size w4 hLl (by omega) (by omega) HO4.out.els)
          rw [Nat.add_sub_cancel] at HMX
          obtain ⟨x, hx⟩ : ∃ x, x = maxTo L q := ⟨_, rfl⟩
          rw [← hx] at HMX
          have hany : L.any (fun y => x == y) = true := by
            obtain ⟨i, hi, he⟩ := maxTo_is L q
            rw [List.any_eq_true]
            refine ⟨L[i]'(by omega), List.getElem_mem _, ?_⟩
            rw [beq_iff_eq, hx, he, getD_at L i (by omega)]
          obtain ⟨p, hp, hix, hpk, -⟩ := idxF_some hany
          have hpx : L.getD p 0 = x := by
            rw [getD_at L p hp]
            exact (show x = L[p] by simpa using hpk).symm
          have hxin : 0 ≤ x ∧ x ≤ now + j.t := by
            have h5 : ∀ y ∈ (K ++ [(j.t, j.x)]), 0 ≤ y.1 := fun y hy => by
              rcases List.mem_append.1 hy with h | h
              · exact jobsS_nn HOK.out y (List.mem_of_mem_take (HMO.out.sub.subset h))
              · rw [List.mem_singleton.1 h]; exact hjin.1.1
            have h6 : ∀ (Z : List Mj), (∀ y ∈ Z, 0 ≤ y.1) → ∀ y ∈ Z, y.1 ≤ tsum Z ∧ 0 ≤ tsum Z := fun Z => by
              induction Z with
              | nil => exact fun _ y hy => by cases hy
              | cons a Z ih =>
                intro h y hy
                have e : tsum (a :: Z) = a.1 + tsum Z := by unfold tsum; simp
                have ha := h a (by simp)
                have hz : 0 ≤ tsum Z := by
                  cases Z with
                  | nil => exact Int.le_refl _
                  | cons b Z' => exact (ih (fun y hy => h y (by simp [hy])) b (by simp)).2
                rw [e]
                rcases List.mem_cons.1 hy with rfl | hy
                · omega
                · have := (ih (fun y hy => h y (by simp [hy])) y hy).1
                  omega
            have h7 : x ∈ L := by rw [← hpx, getD_at L p hp]; exact List.getElem_mem hp
            rw [hLK] at h7
            obtain ⟨y, hy, hyx⟩ := List.mem_map.1 h7
            have h8 := (h6 _ h5 y hy).1
            rw [tsum_snoc, ← HNOW.out] at h8
            have h9 := h5 y hy
            rw [← hyx]
            exact ⟨h9, h8⟩
          obtain ⟨K', hK1, hK2, hK3⟩ := moor_late_at HOK.out HLK.out HMO.out HMJ.out (by rw [← HNOW.out]; exact HLATE.out) (p := p) (by rw [← hLK]; exact hp) (by
            rw [← hLK]
            intro y hy
            rw [hpx, hx]
            obtain ⟨i, hi, rfl⟩ := List.mem_iff_getElem.1 hy
            rw [← getD_at L i hi 0]
            exact maxTo_ge L q i (by omega))
          rw [← hLK] at hK2 hK3
          rw [hpx, ← HNOW.out] at hK3
          have hK4 : K'.length = q := by
            have := congrArg List.length hK2
            rw [List.length_map, List.length_append, List.length_take, List.length_drop, hLl] at this
            omega
          have HIX := Lib.hid (Index_longs x A3 (q + 1) c3 L w4.heap.size w4 hLl (by unfold maxLen; omega) HO4.out.els)
          rw [hix] at HIX
          have hpq : p < q + 1 := by omega
          have HDL := Lib.hid (Delete_long A3 (q + 1) v3.heap.size c3 p ((p : Int) + 1) L w4 hLl hpq (by push_cast; rfl) (by omega) HO4.out)
          rw [← hK2, Nat.add_sub_cancel] at HDL
          have hrow4 : ∀ g, blkOf A3 = some g → v3.heap.size ≤ g := fun g hg => (HO4.out.lt g hg).1
          have HROW4 := Lib.hid hrow4
          have HK1 := Lib.hid hK1
          have HK3 := Lib.hid hK3
          have HK4 := Lib.hid hK4
          have hz4 := hb4.size
          clear hb4 hown4 hgrow hloc hG4 k2 k3 hL hLK hLl hx hany hp hix hpk hpx hK1 hK2 hK3 hK4 hrow4
          refine HMX.out.mono ?_
          clear HMX
          rintro e w' ⟨rfl, rfl⟩
          go_wp2_with fail
          refine HIX.out.mono ?_
          clear HIX
          rintro e w' ⟨rfl, rfl⟩
          go_wp2_with fail
          refine HDL.out.mono ?_
          clear HDL
          rintro e w5 ⟨rfl, hown5, hgrow5⟩
          have HO5 := Lib.hid hown5
          have HB5 := Lib.hid (HB4.out.grown hgrow5 hz4 HROW4.out)
          clear hown5 hgrow5
          go_wp2_with fail
          go_roundw
          case rel => exact ⟨k + 1, K', A3, c3, by omega, by go_num, by rw [HK4.out], by rw [HK3.out], HK1.out, HB5.out, HO5.out⟩
          case measure => simp [intOf]; omega
        · have hd : decide (j.x < now + j.t) = false := decide_eq_false hlate
          have HK1 := Lib.hid (moor_keep_at HLK.out HMO.out HMJ.out (by rw [← HNOW.out]; exact hlate))
          clear hlate
          go_wp2_with (at_builtin; go_loud (refine wpList_push rfl _ _ _ rfl v3.heap.size 1 2 (.int .i64 0) 8 Try.underlying46 (by kernel_rfl) rfl (by omega) icell (wr.alloc (.cells #[.int .i64 j.t, j.s.val, .int .i64 j.x, .int .i64 j.y] 77)) #[.int .i64 j.t] A2 q c2 (K.map (·.1)) HKL.out rfl HO1.out 1 [j.t] rfl rfl (wr.heap.size + 1) rfl (by rw [size_alloc']) (by simp [Value.oneCell']) (by unfold maxLen; omega) (by omega) (by omega) ?_; intro A3 c3 w4 hown4 hgrow hloc; have hG4 := (HBX.out.alloc (.cells #[.int .i64 j.t] 2)).grown hgrow (fun h => HNE.out h.symm); have k2 := hG4.cell 0; have k3 := hG4.cell 2))
          have HB4 := Lib.hid ((HB1.out.alloc (by rw [size_alloc']; omega) (.cells #[.int .i64 j.t] 2)).grown hgrow (by rw [size_alloc', size_alloc']; omega) (fun g hg => HROW.out g hg))
          have HO4 := Lib.hid hown4
          clear hown4 hgrow hloc hG4 k2 k3
          go_roundw
          case rel => exact ⟨k + 1, K ++ [(j.t, j.x)], A3, c3, by omega, by go_num, by rw [List.length_append, ← HQ.out]; rfl, by rw [tsum_snoc, ← HNOW.out], HK1.out, HB4.out, by rw [List.map_append]; exact HO4.out⟩
          case measure => simp [intOf]; omega
      · obtain rfl : k = n := by omega
        have hfin : Moor (jobsS l) K := by
          have := HMO.out
          rwa [List.take_of_length_le (by rw [jobsS_length, HAL.out]; exact Nat.le_refl _)] at this
        have HF := Lib.hid hfin
        have HBF := Lib.hid (HB3.out.trans (HB.out.mono (Nat.le_trans hz1 (Nat.le_trans hz2 hz3))))
        clear hfin
        go_wp2_with fail
        refine bodyPost_ret (v := .tuple #[.int .i64 (q : Int), .int .i64 0]) (by simp [results, Try.results9, go_sem]) rfl ?_
        exact ⟨HBF.out, .inl ⟨HTC.out.symm, K, HF.out, by rw [HQ.out]⟩⟩
  · have h1 : (tc != 0) = true := by simpa using h0
    have H0 := Lib.hid h0
    clear htc h0
    go_wp2_with fail
    refine bodyPost_ret (v := .tuple #[.int .i64 0, .int .i64 tc]) (by simp [results, Try.results9, go_sem]) rfl ?_
    exact ⟨HB1.out, .inr ⟨by rw [← HTC.out]; exact H0.out, by rw [← HTC.out]⟩⟩
end Go.Proofs.Ytokmialpclcodaa
