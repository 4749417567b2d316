/- All pairings that hold: the program, and the reference from none on. Conditions: the wishes are good. -/
import Derived.Test.YtodbhgbgeiailaaAllsD
import Derived.Test.YtodbhgbgeiailaaRepeat
import Derived.WideLaws
namespace Go.Proofs.Ytodbhgbgeiailaa
open Go.RowKit

theorem run_store_func {P : Program} {w : World} {a : Addr} {m : Mode} (f : Fn) (x c : Array Value) : (store a (.func f x c) m).run P w = stored P w a (.func f x c) m := run_store P w a _ m rfl
attribute [local go_sem] run_store_func

set_option maxRecDepth 100000 in
set_option maxHeartbeats 1000000 in
theorem wish_All_bad (AL AR : Option Addr) (nL cL nR cR : Nat) (L R : List (Sls Int)) (w : World) (hL : L.length = nL) (hR : R.length = nR) (hnL : nL ≤ maxLen) (hnR : nR ≤ maxLen) (hwi : WishIn w w.heap.size AL AR L R) (he : wishCheck L R ≠ 0) :
    Calls Try.prog 41 #[.agg #[.slice AL nL cL, .slice AR nR cR]] w fun e w' => e = .returned (.tuple #[.slice none 0 0, .int .i64 (wishCheck L R)]) ∧ Below w.heap.size w w' := by
  have hb0 := (Below.refl w.heap.size w).alloc (Nat.le_refl _) (.cells #[.slice AL nL cL, .slice AR nR cR] 38)
  have hw1 := (hwi.below hb0).more (show w.heap.size ≤ (w.alloc (.cells #[.slice AL nL cL, .slice AR nR cR] 38)).heap.size by rw [size_alloc']; omega)
  have HE := Lib.hid (wish_Check AL AR nL cL nR cR L R _ hL hR hnL hnR hw1.l hw1.gl hw1.r hw1.gr)
  have HB0 := Lib.hid hb0
  have h1 : (wishCheck L R != 0) = true := by simpa using he
  generalize wishCheck L R = x at HE h1
  clear hL hR hnL hnR hwi he hb0 hw1
  go_enter Try.func41, Try.ntmps41
  go_wp2_with fail
  refine HE.out.mono ?_
  clear HE
  rintro e v1 ⟨rfl, hb1⟩
  rw [size_alloc'] at hb1
  have HB1 := Lib.hid (HB0.out.trans (hb1.mono (by omega)))
  clear hb1 HB0
  go_wp2_with fail
  go_ret2
  exact ⟨rfl, HB1.out⟩
set_option maxRecDepth 100000 in
set_option maxHeartbeats 1000000 in
theorem wish_All (AL AR : Option Addr) (n cL cR : Nat) (L R : List (Sls Int)) (w : World) (hL : GoodL n L) (hR : GoodL n R) (hwi : WishIn w w.heap.size AL AR L R) (he : wishCheck L R = 0) :
    Calls Try.prog 41 #[.agg #[.slice AL n cL, .slice AR n cR]] w fun e w' => ∃ A' cap sls, e = .returned (.tuple #[.slice A' sls.length cap, .int .i64 0]) ∧ Below w.heap.size w w' ∧ Els w' w'.heap.size 1 rcell A' sls ∧ (∀ s ∈ sls, RowI w' s) ∧ sls.map (fun s => s.l) = refA L R n n [] := by
  have hn8 := hL.n8
  obtain ⟨S, hS⟩ : ∃ S, S = w.heap.size := ⟨_, rfl⟩
  have hb0 := (Below.refl w.heap.size w).alloc (Nat.le_refl _) (.cells #[.slice AL n cL, .slice AR n cR] 38)
  have hk0 := Blk.new w 38 #[.slice AL n cL, .slice AR n cR]
  have hw1 := (hwi.below hb0).more (show w.heap.size ≤ (w.alloc (.cells #[.slice AL n cL, .slice AR n cR] 38)).heap.size by rw [size_alloc']; omega)
  have hchk := wish_Check AL AR n cL n cR L R _ hL.len hR.len (by unfold maxLen; omega) (by unfold maxLen; omega) hw1.l hw1.gl hw1.r hw1.gr
  rw [he] at hchk
  have HE := Lib.hid hchk
  have c0 := hk0.cell 0
  have c1 := hk0.cell 1
  obtain ⟨W1, hW1⟩ : ∃ W1, W1 = w.alloc (.cells #[.slice AL n cL, .slice AR n cR] 38) := ⟨_, rfl⟩
  rw [← hW1, ← hS] at hb0 hk0
  have hz1 : W1.heap.size = S + 1 := by rw [hW1, size_alloc', hS]
  rw [← hS] at hwi
  have HB0 := Lib.hid hb0
  have HK0 := Lib.hid hk0
  have HW1 := Lib.hid hW1
  have HS := Lib.hid hS
  have HWI := Lib.hid hwi
  clear hchk hb0 hk0 hw1 hW1 hS hwi he
  go_enter Try.func41, Try.ntmps41
  go_wp2_with fail
  refine HE.out.mono ?_
  clear HE
  rintro e v1 ⟨rfl, hb1⟩
  rw [size_alloc', ← HW1.out, ← HS.out] at hb1
  have hk1 := HK0.out.below hb1 (by omega)
  have hbS := HB0.out.trans (hb1.mono (by omega))
  have hzv := hb1.size
  obtain ⟨Z, hZ⟩ : ∃ Z, Z = v1.heap.size := ⟨_, rfl⟩
  obtain ⟨V, hV⟩ : ∃ V, V = ((v1.alloc (.cells #[.int .i64 n] 3)).alloc (.cells #[.slice none 0 0] 36)).alloc (.cells #[.int .i64 (-1)] 3) := ⟨_, rfl⟩
  have kn := ((Blk.new v1 3 #[.int .i64 n]).alloc (.cells #[.slice none 0 0] 36)).alloc (.cells #[.int .i64 (-1)] 3)
  have ka := (Blk.new (v1.alloc (.cells #[.int .i64 n] 3)) 36 #[.slice none 0 0]).alloc (.cells #[.int .i64 (-1)] 3)
  have k1 := Blk.new ((v1.alloc (.cells #[.int .i64 n] 3)).alloc (.cells #[.slice none 0 0] 36)) 3 #[.int .i64 (-1)]
  simp only [size_alloc', ← hZ] at ka k1
  rw [← hZ] at kn
  rw [← hV] at kn ka k1
  have hzV : V.heap.size = Z + 1 + 1 + 1 := by rw [hV, hZ]; simp only [size_alloc']
  have hbV : Below Z v1 V := by
    rw [hV, hZ]
    refine (((Below.refl _ v1).alloc (Nat.le_refl _) _).alloc ?_ _).alloc ?_ _ <;> simp only [size_alloc'] <;> omega
  have hSZ : S < Z := by omega
  have kw := hk1.below hbV hSZ
  have hbSV : Below S w V := hbS.trans (hbV.mono (by omega))
  have HREP := Lib.hid (Repeat_ints (-1) (some ⟨Z + 1 + 1, 0, none⟩) 1 n V.heap.size V (by omega) (els_of_blk k1 1 icell (fun _ => rfl) [-1] rfl))
  have d0 := hk1.cell 0
  have cn := kn.cell 0
  have HV := Lib.hid hV
  have HZ := Lib.hid hZ
  have HKN := Lib.hid kn
  have HKA := Lib.hid ka
  have HKW := Lib.hid kw
  have HBSV := Lib.hid hbSV
  rw [hV] at cn
  clear kn ka k1 hbV kw hbSV hb1 hk1 hbS hV hZ HB0 HK0 c0 c1
  rw [← HS.out]
  go_wp2_with fail
  rw [← HV.out, ← HZ.out]
  refine HREP.out.mono ?_
  clear HREP
  rintro e v2 ⟨rfl, hb2, how2⟩
  have HKN2 := Lib.hid (HKN.out.below hb2 HKN.out.lt)
  have HKA2 := Lib.hid (HKA.out.below hb2 HKA.out.lt)
  have HKW2 := Lib.hid (HKW.out.below hb2 HKW.out.lt)
  have HB2 := Lib.hid (HBSV.out.trans (hb2.mono (by omega)))
  have hz2 := hb2.size
  obtain ⟨gl, hgl⟩ : ∃ gl, gl = V.heap.size := ⟨_, rfl⟩
  have hgv : gl < v2.heap.size := by
    rw [hgl]
    exact (how2.lt V.heap.size rfl).2
  have HOW2 := Lib.hid (GlB.of_own how2)
  have HGL := Lib.hid hgl
  rw [← hgl] at HOW2 ⊢
  clear hb2 how2 hgl d0 cn
  obtain ⟨Y, hY⟩ : ∃ Y, Y = v2.heap.size := ⟨_, rfl⟩
  have HY := Lib.hid hY
  have ko0 := Blk.new (v2.alloc (.cells #[.slice (some ⟨gl, 0, none⟩) n n] 39)) 101 #[.nilFunc]
  rw [size_alloc'] at ko0
  have co := ko0.cell 0
  have cf := ko0.frozen 0
  have HKO := Lib.hid ko0
  clear hY ko0
  go_wp2_with fail
  rw [← HY.out]
  clear co cf HKO
  obtain ⟨W5, hW5⟩ : ∃ W5, W5 = (v2.alloc (.cells #[.slice (some ⟨gl, 0, none⟩) n n] 39)).alloc (.cells #[.func (.func 70) #[] #[.pointer (some ⟨Z, 0, none⟩), .pointer (some ⟨S, 0, none⟩), .pointer (some ⟨Y, 0, none⟩), .pointer (some ⟨Z + 1, 0, none⟩), .pointer (some ⟨Y + 1, 0, none⟩)]] 101) := ⟨_, rfl⟩
  have hYZ : Z + 3 ≤ gl := by rw [HGL.out, hzV]; exact Nat.le_refl _
  have hgY : gl < Y := by rw [HY.out]; exact hgv
  have hzW5 : W5.heap.size = Y + 2 := by rw [hW5, HY.out]; simp only [size_alloc']
  have hb25 : Below Y v2 W5 := by
    rw [hW5, HY.out]
    exact ((Below.refl _ v2).alloc (Nat.le_refl _) _).alloc (by rw [size_alloc']; omega) _
  have kl5 : Blk W5 Y 39 #[.slice (some ⟨gl, 0, none⟩) n n] := by
    have := (Blk.new v2 39 #[.slice (some ⟨gl, 0, none⟩) n n]).alloc (.cells #[.func (.func 70) #[] #[.pointer (some ⟨Z, 0, none⟩), .pointer (some ⟨S, 0, none⟩), .pointer (some ⟨Y, 0, none⟩), .pointer (some ⟨Z + 1, 0, none⟩), .pointer (some ⟨Y + 1, 0, none⟩)]] 101)
    rw [← hW5, ← HY.out] at this
    exact this
  have ko5 : Blk W5 (Y + 1) 101 #[.func (.func 70) #[] #[.pointer (some ⟨Z, 0, none⟩), .pointer (some ⟨S, 0, none⟩), .pointer (some ⟨Y, 0, none⟩), .pointer (some ⟨Z + 1, 0, none⟩), .pointer (some ⟨Y + 1, 0, none⟩)]] := by
    have := Blk.new (v2.alloc (.cells #[.slice (some ⟨gl, 0, none⟩) n n] 39)) 101 #[.func (.func 70) #[] #[.pointer (some ⟨Z, 0, none⟩), .pointer (some ⟨S, 0, none⟩), .pointer (some ⟨Y, 0, none⟩), .pointer (some ⟨Z + 1, 0, none⟩), .pointer (some ⟨Y + 1, 0, none⟩)]]
    rw [size_alloc', ← hW5, ← HY.out] at this
    exact this
  have had : AllAd S (Y + 2) Z S Y gl (Z + 1) (Y + 1) := ⟨by omega, Nat.le_refl _, by omega, by omega, by omega, by omega, by omega, by omega, by omega, by omega, by omega, by omega, by omega⟩
  have hbw5 : Below S w W5 := HB2.out.trans (hb25.mono (by omega))
  have hst : AllSt W5 (Y + 2) Z S Y gl (Z + 1) (Y + 1) n n cL cR AL AR ([] ++ List.replicate n (-1)) none 0 [] :=
    ⟨HKN2.out.below hb25 (by omega), HKW2.out.below hb25 (by omega), kl5, HKA2.out.below hb25 (by omega), ko5, by rw [List.nil_append]; exact HOW2.out.below hb25 hgY, Own.nil _ _ _ (fun _ => rfl), fun s hs => by cases hs⟩
  have hcall := alls_on (Y + 2) Z S Y gl (Z + 1) (Y + 1) n n cL cR S AL AR L R hL hR had n [] 0 w0 W5 none 0 [] rfl (by omega) (fun y hy => by cases hy) (fun j _ => by rw [b_0]; rfl) (by omega) (HWI.out.below hbw5) hst (by rw [List.length_nil, Nat.zero_add]; exact pow_le9 hn8 hn8)
  rw [← hW5]
  have hs0 : sN w0 = 0 := rfl
  rw [hs0] at hcall
  have HCALL := Lib.hid hcall
  have HBW5 := Lib.hid hbw5
  clear hst hcall hbw5 ko5 kl5 hb25 hW5 had hs0
  refine HCALL.out.mono ?_
  clear HCALL
  rintro e W8 ⟨⟨v8, rfl⟩, hb8, A8, cap8, sls8, hst8, hmap8⟩
  rw [List.nil_append, List.nil_append] at hst8
  have HST8 := Lib.hid hst8
  have HB8 := Lib.hid (HBW5.out.trans hb8)
  obtain ⟨q8, hq8⟩ : ∃ q8, q8 = sls8.length := ⟨_, rfl⟩
  have ca := hst8.ka
  rw [← hq8] at ca
  have ca0 := ca.cell 0
  have HQ8 := Lib.hid hq8
  have HM8 := Lib.hid hmap8
  clear hst8 hb8 ca hq8 hmap8
  go_wp2_with fail
  go_ret2
  exact ⟨A8, cap8, sls8, by rw [← HQ8.out]; rfl, by rw [← HS.out]; exact HB8.out, HST8.out.own.els, fun s hs => (HST8.out.rows s hs).1, by rw [HM8.out, prg_ref hL hR n [] (by simp)]⟩
set_option maxRecDepth 100000 in
theorem ref_AllPairings (AL AR : Option Addr) (n cL cR : Nat) (L R : List (Sls Int)) (w : World) (hL : GoodL n L) (hR : GoodL n R) (hwi : WishIn w w.heap.size AL AR L R) :
    Calls Try.prog 43 #[.agg #[.slice AL n cL, .slice AR n cR]] w fun e w' => ∃ A' cap sls, e = .returned (.slice A' sls.length cap) ∧ Below w.heap.size w w' ∧ Els w' w'.heap.size 1 rcell A' sls ∧ (∀ s ∈ sls, RowI w' s) ∧ sls.map (fun s => s.l) = refA L R n n [] := by
  have hb0 := (Below.refl w.heap.size w).alloc (Nat.le_refl _) (.cells #[.slice AL n cL, .slice AR n cR] 38)
  have HC := Lib.hid (ref_pairings n cL cR w.heap.size AL AR L R hL hR n [] none 0 0 (w.alloc (.cells #[.slice AL n cL, .slice AR n cR] 38)) rfl (by omega) (fun x hx => by cases hx) (hwi.below hb0) (by rw [size_alloc']; omega) (.inl rfl))
  have HB0 := Lib.hid hb0
  clear hb0 hwi
  go_enter Try.func43, Try.ntmps43
  go_wp2_with fail
  refine HC.out.mono ?_
  clear HC
  rintro e v1 ⟨A', cap, sls, rfl, hb1, h1, h2, h3⟩
  rw [size_alloc'] at hb1
  have HB1 := Lib.hid (HB0.out.trans (hb1.mono (by omega)))
  have H1 := Lib.hid h1
  have H2 := Lib.hid h2
  have H3 := Lib.hid h3
  clear hb1 h1 h2 h3 HB0
  go_wp2_with fail
  go_ret
  exact ⟨A', cap, sls, rfl, HB1.out, H1.out, H2.out, H3.out⟩
end Go.Proofs.Ytodbhgbgeiailaa
