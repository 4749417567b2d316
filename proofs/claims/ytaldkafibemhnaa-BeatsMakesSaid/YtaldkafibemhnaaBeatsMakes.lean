/- Players that have given scores: the statement's walk. Conditions: none. -/
import Derived.Test.YtaldkafibemhnaaMakeA
import Derived.Test.YtaldkafibemhnaaEq
import Derived.Test.YtaldkafibemhnaaOpen
namespace Go.Proofs.Ytaldkafibemhnaa
open Go.RowKit
attribute [local go_sem ↓] w_and w_or w_xor w_andNot w_and1 w_and255 w_xor1 w_or0 w_shl w_shl1 w_shr w_sub w_add w_sub1 w_add1
attribute [local go_sem] w_eq0 w_ne0 w_eq1 w_eq w_ne

def makeCode (sc : List Int) : Int := if 6 < sc.length then 1 else if (solve sc sc.length []).isSome then 0 else 5
def makeAns (sc : List Int) : List (BitVec 32) := if 6 < sc.length then [] else (solve sc sc.length []).getD []
set_option maxRecDepth 100000 in
set_option maxHeartbeats 1000000 in
theorem beats_Make (sc : List Int) (A : Option Addr) (n c : Nat) (hsc : sc.length = n) (hn : n ≤ maxLen) (w : World) (hr : Els w w.heap.size 1 scell A sc) :
    Calls Try.prog 32 #[.slice A n c] w fun e w' => ∃ A' k cap, e = .returned (.tuple #[.slice A' k cap, .int .i64 (makeCode sc)]) ∧ Below w.heap.size w w' ∧ Els w' w'.heap.size 1 pcell A' (makeAns sc) ∧ (makeAns sc).length = k := by
  unfold maxLen at hn
  have HSC := Lib.hid hsc
  by_cases h6 : 6 < n
  · have HC : Hid (makeCode sc = 1) := if_pos (by rw [hsc]; exact h6)
    have HA : Hid (makeAns sc = []) := if_pos (by rw [hsc]; exact h6)
    have HB := Lib.hid (((Below.refl w.heap.size w).alloc (Nat.le_refl _) (.cells #[.slice A n c] 44)).alloc (by rw [size_alloc']; omega) (.cells #[.int .i64 n] 3))
    clear hsc hr
    go_enter Try.func32, Try.ntmps32
    go_wp2_with fail
    refine bodyPost_ret (v := .tuple #[.slice none 0 0, .int .i64 1]) (by simp [results, Try.results32, go_sem]) rfl ?_
    exact ⟨none, 0, 0, by rw [HC.out], HB.out, by rw [HA.out]; exact Els.nil, by rw [HA.out]; rfl⟩
  · have HC : Hid (makeCode sc = if (solve sc n []).isSome then 0 else 5) := by
      show makeCode sc = _
      unfold makeCode
      rw [hsc, if_neg h6]
    have HA : Hid (makeAns sc = (solve sc n []).getD []) := by
      show makeAns sc = _
      unfold makeAns
      rw [hsc, if_neg h6]
    have HR := Lib.hid hr
    clear hsc hr
    go_enter Try.func32, Try.ntmps32
    go_wp2_with (at_make; go_loud (refine wpList_make1 rfl _ _ _ rfl (w.heap.size + 2) 66 4 (fun x => .int .u32 (wN x)) w0 Try.underlying33 (by kernel_rfl) rfl _ .i64 .i64 n rfl rfl (by omega) (by unfold maxLen; omega) (by rw [size_alloc', size_alloc']; omega) ?_; intro v1 hown1 hgrow1))
    have hS2 : ((w.alloc (.cells #[.slice A n c] 44)).alloc (.cells #[.int .i64 n] 3)).heap.size = w.heap.size + 2 := by rw [size_alloc', size_alloc']
    rw [hS2] at hown1
    obtain ⟨W2, hW2⟩ : ∃ W, W = ((w.alloc (.cells #[.slice A n c] 44)).alloc (.cells #[.int .i64 n] 3)) := ⟨_, rfl⟩
    have hb2 : Below w.heap.size w W2 := by
      rw [hW2]
      exact ((Below.refl w.heap.size w).alloc (Nat.le_refl _) _).alloc (by rw [size_alloc']; omega) _
    have hB0 : Blk W2 w.heap.size 44 #[.slice A n c] := by
      rw [hW2]
      exact (Blk.new w _ _).alloc _
    have hB1 : Blk W2 (w.heap.size + 1) 3 #[.int .i64 n] := by
      rw [hW2]
      have := Blk.new (w.alloc (.cells #[.slice A n c] 44)) 3 #[.int .i64 n]
      rwa [size_alloc'] at this
    rw [← hW2] at hgrow1 hS2
    have hb3 := hb2.grown hgrow1 (by omega) (fun g hg => by cases hg)
    have hB0' := hB0.grown hgrow1 (by simp)
    have hB1' := hB1.grown hgrow1 (by simp)
    have hlt1 := (hown1.lt (w.heap.size + 2) rfl).2
    clear hB0 hB1 hb2 hgrow1 hS2 hW2
    obtain ⟨T, hT⟩ : ∃ T, T = v1.heap.size := ⟨_, rfl⟩
    rw [← hT] at hlt1 ⊢
    obtain ⟨o3, ho3⟩ : ∃ o, o = Obj.cells #[Value.slice (some ⟨w.heap.size + 2, 0, none⟩) n n] 33 := ⟨_, rfl⟩
    obtain ⟨o4, ho4⟩ : ∃ o, o = Obj.cells #[Value.func (.func 57) #[] (onCaps w.heap.size T)] 68 := ⟨_, rfl⟩
    have hst : MakeSt ((v1.alloc o3).alloc o4) w.heap.size T n A c sc (List.replicate n w0) := by
      refine ⟨(hB0'.alloc _).alloc _, (hB1'.alloc _).alloc _, hlt1, ?_, ?_, (hown1.alloc _).alloc _, by simp, HR.out.below ((hb3.alloc hb3.size _).alloc (by rw [size_alloc']; have := hb3.size; omega) _)⟩
      · rw [ho3, hT]
        exact (Blk.new v1 _ _).alloc _
      · have := Blk.new (v1.alloc o3) 68 #[Value.func (.func 57) #[] (onCaps w.heap.size T)]
        rw [size_alloc', ← hT, ← ho4] at this
        exact this
    have hb4 : Below w.heap.size w ((v1.alloc o3).alloc o4) := (hb3.alloc hb3.size _).alloc (by rw [size_alloc']; have := hb3.size; omega) _
    have HON := Lib.hid (make_on w.heap.size T n A c sc HSC.out (by omega) n 0 _ _ (by omega) hst)
    rw [ho3, ho4] at HON hb4
    have HB4 := Lib.hid hb4
    clear hst hb4 ho3 ho4 hb3 hB0' hB1' hown1 hT hlt1 HR
    refine HON.out.mono ?_
    clear HON
    rintro e w5 ⟨rfl, hb5, ts, hst5, _, hu⟩
    have HB5 := Lib.hid (HB4.out.trans hb5)
    have HST := Lib.hid hst5
    have c3 := hst5.b3.cell 0
    have HU := Lib.hid hu
    clear hb5 hst5 hu HB4
    rw [List.take_zero] at HU ⊢
    rcases hsol : solve sc n [] with _ | u
    · have HSOL := Lib.hid hsol
      have hi0 : (none : Option (List (BitVec 32))).isSome = false := rfl
      rw [hi0]
      clear hsol
      go_wp2_with fail
      refine bodyPost_ret (v := .tuple #[.slice none 0 0, .int .i64 5]) (by simp [results, Try.results32, go_sem]) rfl ?_
      exact ⟨none, 0, 0, by rw [HC.out, HSOL.out]; rfl, HB5.out, by rw [HA.out, HSOL.out]; exact Els.nil, by rw [HA.out, HSOL.out]; rfl⟩
    · have HSOL := Lib.hid hsol
      have hi1 : (some u).isSome = true := rfl
      rw [hi1]
      clear hsol
      go_wp2_with fail
      refine bodyPost_ret (v := .tuple #[.slice (some ⟨w.heap.size + 2, 0, none⟩) n n, .int .i64 0]) (by simp [results, Try.results32, go_sem]) rfl ?_
      have htu := HU.out u HSOL.out
      refine ⟨some ⟨w.heap.size + 2, 0, none⟩, n, n, by rw [HC.out, HSOL.out]; rfl, HB5.out, ?_, ?_⟩
      · rw [HA.out, HSOL.out]
        show Els w5 w5.heap.size 1 pcell _ u
        rw [← htu]
        exact HST.out.own.els
      · rw [HA.out, HSOL.out]
        show u.length = n
        rw [← htu]
        exact HST.out.len
theorem makeCode_small {sc : List Int} {n : Nat} (h : sc.length = n) (h6 : ¬ 6 < n) : makeCode sc = if (solve sc n []).isSome then 0 else 5 := by
  unfold makeCode
  rw [h, if_neg h6]
theorem makeAns_small {sc : List Int} {n : Nat} (h : sc.length = n) (h6 : ¬ 6 < n) : makeAns sc = (solve sc n []).getD [] := by
  unfold makeAns
  rw [h, if_neg h6]
set_option maxRecDepth 100000 in
theorem BeatsMakes_row (C : Sls Int) (W : World) (hC : C.Good W W.heap.size 1 scell OkI) :
    Calls Try.prog 10 #[C.val] W fun e w' => e = .returned (.bool true) ∧ Below W.heap.size W w' := by
  obtain ⟨A, c, sc⟩ := C
  obtain ⟨hm, hc, hr, hg⟩ := hC
  obtain ⟨n, hn⟩ : ∃ n, sc.length = n := ⟨_, rfl⟩
  have HM := Lib.hid (beats_Make sc A n c hn (by rw [← hn]; exact hm) W hr)
  have HR := Lib.hid hr
  have hm' : n ≤ 9223372036854775807 := by rw [← hn]; unfold maxLen at hm; exact hm
  have HN := Lib.hid hn
  show Calls Try.prog 10 #[.slice A sc.length c] W _
  rw [hn]
  clear hc hg hr hm hn
  go_enter Try.func10, Try.ntmps10
  go_wp2_with fail
  refine HM.out.mono ?_
  clear HM
  rintro e v1 ⟨A1, k, cap, rfl, hb1, hels, hk⟩
  have HB1 := Lib.hid hb1
  have hsz := hb1.size
  have HE := Lib.hid hels
  have HK := Lib.hid hk
  by_cases h6 : 6 < n
  · have hc1 : makeCode sc = 1 := if_pos (by rw [HN.out]; exact h6)
    have hk0 : k = 0 := by
      rw [← hk]
      unfold makeAns
      rw [if_pos (by rw [HN.out]; exact h6)]
      rfl
    subst hk0
    rw [hc1]
    clear hc1 hb1 hels hk
    go_wp2_with fail
    go_ret
    exact ⟨rfl, HB1.out⟩
  · have HP := Lib.hid (ref_Played sc A n c HN.out (by omega) v1 ((HR.out.below hb1).more hsz))
    have HMC := Lib.hid (makeCode_small HN.out h6)
    have HMA := Lib.hid (makeAns_small HN.out h6)
    clear hb1 hels hk
    go_wp2_with fail
    refine HP.out.mono ?_
    clear HP
    rintro e v2 ⟨A2, k2, cap2, rfl, hb2, hels2, hk2⟩
    have HB2 := Lib.hid (HB1.out.trans (hb2.mono hsz))
    have HE1 := Lib.hid (HE.out.below hb2)
    have HE2 := Lib.hid hels2
    have HK2 := Lib.hid hk2
    clear hb2 hels2 hk2 HE
    rcases hsol : solve sc n [] with _ | u
    · have hi0 : (none : Option (List (BitVec 32))).isSome = false := rfl
      have hc1 : makeCode sc = 5 := by rw [HMC.out, hsol]; rfl
      have hk0 : k = 0 := by rw [← HK.out, HMA.out, hsol]; rfl
      subst hk0
      rw [hi0, hc1]
      clear hc1 hsol
      go_wp2_with fail
      go_ret
      exact ⟨rfl, HB2.out⟩
    · have hi1 : (some u).isSome = true := rfl
      have hul : u.length = n := by
        have := solve_length sc n [] u hsol
        simpa using this
      have hc1 : makeCode sc = 0 := by rw [HMC.out, hsol]; rfl
      have hkn : k = n := by rw [← HK.out, HMA.out, hsol]; exact hul
      have hkn2 : k2 = n := by rw [← HK2.out, hsol]; exact hul
      subst hkn
      subst hkn2
      have e1 : Els v2 v1.heap.size 1 pcell A1 u := by
        have := HE1.out
        rw [HMA.out, hsol] at this
        exact this
      have e2 : Els v2 v2.heap.size 1 pcell A2 u := by
        have := HE2.out
        rw [hsol] at this
        exact this
      have HW := Lib.hid (Words_same A1 A2 k2 cap cap2 u v1.heap.size v2.heap.size v2 hul (by unfold maxLen; omega) e1 e2)
      rw [hi1, hc1]
      clear hc1 hsol e1 e2 hul
      go_wp2_with fail
      refine HW.out.mono ?_
      clear HW
      rintro e v4 ⟨rfl, q, rfl⟩
      go_wp2_with fail
      go_ret
      exact ⟨rfl, below_drewN HB2.out q⟩
end Go.Proofs.Ytaldkafibemhnaa
