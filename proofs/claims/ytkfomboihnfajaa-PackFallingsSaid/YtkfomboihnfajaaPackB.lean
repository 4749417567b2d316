/- First fit: the reference's walk. Conditions: the sizes and the order read as lists. -/
import Derived.Test.YtkfomboihnfajaaPackA
import Derived.IntWalk
namespace Go.Proofs.Ytkfomboihnfajaa
open Go.RowKit

set_option maxRecDepth 100000 in
theorem ref_inBox (sz R : List Int) (j : Int) (A B : Option Addr) (n m c d : Nat) (BA BB : Nat) (w : World) (hn : sz.length = n) (hm : R.length = m) (hmn : m ≤ n) (h8 : n ≤ 8) (hb : ∀ i, 0 ≤ sz.getD i 0 ∧ sz.getD i 0 ≤ 1048576) (hr : Els w BA 1 zcell A sz) (hR : Els w BB 1 zcell B R) :
    Calls Try.prog 20 #[.slice A n c, .slice B m d, .int .i64 j] w fun e w' => e = .returned (.int .i64 (inB sz R j)) ∧ w = w' := by
  have HN := Lib.hid hn
  have HM := Lib.hid hm
  have HB := Lib.hid hb
  have HI : Hid (inB sz R j = inTo sz R j m) := by
    show inB sz R j = _
    unfold inB
    rw [hm]
  clear hn hm hb
  go_enter Try.func20, Try.ntmps20
  go_wp2_with fail
  go_loop [12, 7] (fun i v => ∃ k : Nat, k ≤ m ∧ i = .int .i64 k ∧ v = .int .i64 (inTo sz R j k)) (fun i _ => m - (intOf i).toNat)
  case atStart => exact ⟨0, by omega, rfl, rfl⟩
  case round =>
    obtain ⟨k, hk, rfl, rfl⟩ := hrel
    by_cases hlt : k < m
    · have hkR : k < R.length := by rw [HM.out]; exact hlt
      have hks : k < sz.length := by rw [HN.out]; omega
      obtain ⟨b, off, rfl, _, g0⟩ := hR.at1 hkR
      obtain ⟨b', off', rfl, _, g1⟩ := hr.at1 hks
      have e0 : R.getD k 0 = R[k] := getD_at R k hkR 0
      have e1 : sz.getD k 0 = sz[k] := getD_at sz k hks 0
      rw [← e0] at g0
      rw [← e1] at g1
      have hst : inTo sz R j (k + 1) = inTo sz R j k + if R.getD k 0 = j then sz.getD k 0 else 0 := rfl
      have hbd := inTo_bounds sz R j 1048576 HB.out k
      have hb1 := HB.out k
      generalize R.getD k 0 = r at g0 hst
      generalize sz.getD k 0 = s at g1 hst hb1
      generalize inTo sz R j k = z at hst hbd
      have HST := Lib.hid hst
      clear hst e0 e1
      by_cases hrj : r = j
      · have h1 : (r == j) = true := by simpa using hrj
        have HC := Lib.hid (HST.out.trans (by rw [if_pos hrj]))
        clear hrj
        go_wp2_with fail
        go_round
        case rel => exact ⟨k + 1, by omega, by go_num, by rw [HC.out]⟩
        case measure => simp [intOf]; omega
      · have h1 : (r == j) = false := by simpa using hrj
        have HC := Lib.hid (HST.out.trans (by rw [if_neg hrj]))
        clear hrj
        go_wp2_with fail
        go_round
        case rel => exact ⟨k + 1, by omega, by go_num, by rw [HC.out, Int.add_zero]⟩
        case measure => simp [intOf]; omega
    · obtain rfl : k = m := by omega
      go_wp2_with fail
      go_ret
      exact ⟨ret_i64 (by rw [HI.out]), rfl⟩

set_option maxRecDepth 100000 in
set_option maxHeartbeats 1000000 in
theorem ref_FirstFit (sz od : List Int) (room : Int) (A B : Option Addr) (n m c d : Nat) (w : World) (hn : sz.length = n) (hm : od.length = m) (h8 : n ≤ 8) (hm8 : m ≤ 8) (hroom : room ≤ 1048576) (hb : ∀ i, 0 ≤ sz.getD i 0 ∧ sz.getD i 0 ≤ room)
    (ho : ∀ k, k < m → 0 ≤ od.getD k 0 ∧ od.getD k 0 < n) (hr : Els w w.heap.size 1 zcell A sz) (hd : Els w w.heap.size 1 zcell B od) :
    Calls Try.prog 8 #[.slice A n c, .int .i64 room, .slice B m d] w fun e w' => ∃ A' cap, e = .returned (.slice A' n cap) ∧ Below w.heap.size w w' ∧ ∃ R, Own w' w.heap.size 3 1 zcell A' cap R ∧ R.length = n ∧ Fits sz room (List.replicate n (-1)) od R := by
  have HN := Lib.hid hn
  have HM := Lib.hid hm
  have HB := Lib.hid hb
  have HO := Lib.hid ho
  have HR := Lib.hid hr
  have HD := Lib.hid hd
  have hpos : 0 ≤ room := by have := hb 0; omega
  clear hn hm hb ho hr hd
  go_enter Try.func8, Try.ntmps8
  go_wp2_with fail
  go_loopw [13, 7] (fun i s wr => ∃ (k : Nat) (A1 : Option Addr) (cap : Nat), k ≤ n ∧ i = .int .i64 k ∧ s = .slice A1 k cap ∧ Below w.heap.size w wr ∧ Own wr w.heap.size 3 1 zcell A1 cap (List.replicate k (-1 : Int))) (fun i _ _ => n - (intOf i).toNat)
  case atStart => exact ⟨0, none, 0, by omega, rfl, rfl, Below.refl _ _, Own.nil _ _ _ (fun _ => rfl)⟩
  case round =>
    obtain ⟨k, A1, cap, hk, rfl, rfl, hbl, hown⟩ := hrel
    have hs4 := hbl.size
    have HOW := Lib.hid hown
    have HBL := Lib.hid hbl
    clear hown hbl
    by_cases hlt : k < n
    · go_wp2_with (at_builtin; go_loud (refine wpList_push rfl _ _ _ rfl w.heap.size 1 3 (.int .i64 0) 8 Try.underlying23 (by kernel_rfl) rfl (by omega) zcell wr #[.int .i64 (-1)] A1 k cap (List.replicate k (-1 : Int)) (List.length_replicate ..) rfl HOW.out 1 [(-1 : Int)] rfl rfl _ rfl rfl (by simp [Value.oneCell']) (by unfold maxLen; omega) (by omega) (by omega) ?_; intro A2 cap2 w4 hown2 hgrow hloc))
      go_roundw
      case rel => exact ⟨k + 1, A2, cap2, by omega, by go_num, rfl, (HBL.out.alloc hs4 _).grown hgrow (by rw [size_alloc']; omega) (fun g hg => (HOW.out.lt g hg).1), by rw [List.replicate_succ']; exact hown2⟩
      case measure => simp [intOf]; omega
    · obtain rfl : k = n := by omega
      go_wp2_with fail
      go_loopw [21] (fun i w2 => ∃ (q mb : Nat) (R : List Int), q ≤ m ∧ mb ≤ q ∧ i = .int .i64 q ∧ Below w.heap.size w w2 ∧ Own w2 w.heap.size 3 1 zcell A1 cap R ∧ Placed k mb R ∧ Fits sz room (List.replicate k (-1)) (od.take q) R) (fun i _ => m - (intOf i).toNat)
      case atStart => exact ⟨0, 0, List.replicate k (-1), by omega, by omega, rfl, HBL.out, HOW.out, ⟨by simp, fun i hi => by simp [List.getD_eq_getElem?_getD, hi], fun i hi => by simp [List.getD_eq_getElem?_getD, hi]⟩, .nil _⟩
      case round =>
        clear HBL HOW hs4
        rename World => w2
        obtain ⟨q, mb, R, hq, hmb, rfl, hb2, hown, hpl, hfits⟩ := hrel
        have HB2 := Lib.hid hb2
        have HOW := Lib.hid hown
        have HPL := Lib.hid hpl
        have HF := Lib.hid hfits
        have hsz2 := hb2.size
        clear hown hpl hfits hb2
        by_cases hlq : q < m
        · have hqo : q < od.length := by rw [HM.out]; exact hlq
          obtain ⟨b, off, rfl, _, g0⟩ := (HD.out.below HB2.out).at1 hqo
          have hoq := HO.out q hlq
          have eo : od.getD q 0 = od[q] := getD_at od q hqo 0
          obtain ⟨i, hi⟩ : ∃ i : Nat, od[q] = i := ⟨od[q].toNat, by rw [← eo]; omega⟩
          have htake : od.take (q + 1) = od.take q ++ [(i : Int)] := by rw [List.take_succ_eq_append_getElem hqo, hi]
          have hin : i < k := by rw [eo, hi] at hoq; omega
          rw [hi] at g0
          have his : i < sz.length := by rw [HN.out]; exact hin
          obtain ⟨b', off', rfl, _, g1⟩ := (HR.out.below HB2.out).at1 his
          have es : sz.getD i 0 = sz[i] := getD_at sz i his 0
          have hbi := HB.out i
          rw [← es] at g1
          obtain ⟨x, hx⟩ : ∃ x, x = sz.getD i 0 := ⟨_, rfl⟩
          rw [← hx] at g1 hbi
          have HX := Lib.hid hx
          have HT := Lib.hid htake
          have hbR : ∀ j, 0 ≤ sz.getD j 0 ∧ sz.getD j 0 ≤ 1048576 := fun j => by have := HB.out j; omega
          have HBR := Lib.hid hbR
          clear hoq eo hi htake es hx hbR
          go_wp2_with fail
          go_loopw [10] (fun v w3 => ∃ j p : Nat, j ≤ mb ∧ v = .int .i64 j ∧ w3 = w2.drewN p ∧ ∀ j', j' < j → room < inB sz R (j' : Nat) + x) (fun v _ => mb + 1 - (intOf v).toNat)
          case atStart => exact ⟨0, 0, by omega, rfl, rfl, fun j' hj => by omega⟩
          case round =>
            obtain ⟨j, p, hj, rfl, rfl, hbefore⟩ := hrel
            have hcall := ref_inBox sz R j (some ⟨b', off', none⟩) A1 k k c cap w.heap.size w2.heap.size
            have hbd : 0 ≤ inB sz R j ∧ inB sz R j ≤ 8388608 := by
              have := inTo_bounds sz R j 1048576 HBR.out R.length
              have h2 := HPL.out.len
              unfold inB
              omega
            have hempty : j = mb → inB sz R j = 0 := fun h => HPL.out.empty sz (by omega)
            have HCALL : Hid (∀ v : World, Els v w.heap.size 1 zcell (some ⟨b', off', none⟩) sz → Els v w2.heap.size 1 zcell A1 R → Calls Try.prog 20 #[.slice (some ⟨b', off', none⟩) k c, .slice A1 k cap, .int .i64 j] v fun e w' => e = .returned (.int .i64 (inB sz R j)) ∧ v = w') :=
              fun v h1 h2 => hcall v HN.out HPL.out.len (Nat.le_refl _) h8 HBR.out h1 h2
            obtain ⟨z, hz⟩ : ∃ z, z = inB sz R j := ⟨_, rfl⟩
            rw [← hz] at hbd hempty HCALL
            have HZ := Lib.hid hz
            have HBF := Lib.hid hbefore
            have HE1 : Hid (Els w2 w.heap.size 1 zcell (some ⟨b', off', none⟩) sz) := HR.out.below HB2.out
            have HE2 : Hid (Els w2 w2.heap.size 1 zcell A1 R) := HOW.out.els
            clear hcall hz hbefore
            by_cases hroomy : room < z + x
            · have hjm : j ≠ mb := fun h => by have := hempty h; omega
              have hw : IntKind.i64.wrap (z + x) = z + x := IntWalk.i64_in _ (by omega)
              clear hempty
              go_wp2_with fail
              go_quiet ((go_at_call 20; exact quietAL (HCALL.out _ HE1.out HE2.out)))
              clear hw
              go_wp2_with fail
              refine ⟨⟨j + 1, p + nq, by omega, by go_num, rfl, fun j' hj' => ?_⟩, by simp [intOf]; omega⟩
              by_cases hjj : j' = j
              · subst hjj
                rw [← HZ.out]
                exact hroomy
              · exact HBF.out j' (by omega)
            · have hw : IntKind.i64.wrap (z + x) = z + x := IntWalk.i64_in _ (by omega)
              have hiR : i < R.length := by rw [HPL.out.len]; exact hin
              obtain ⟨g, rfl, hgb, hgl, ca, fa⟩ := HOW.out.cell1 (f := fun x => .int .i64 x) (k := i) hiR
              have HG := Lib.hid hgb
              have hput := HOW.out.put1 (f := fun x => .int .i64 x) (k := i) (x := (j : Int)) hiR
              have HPUT := Lib.hid hput
              have hfit : IsFit sz R room (sz.getD i 0) j := by
                rw [← HX.out]
                exact ⟨by rw [← HZ.out]; omega, HBF.out⟩
              have hsn := HF.out.snoc i j hfit
              rw [← HT.out] at hsn
              have HSN := Lib.hid hsn
              have hps := HPL.out.set_ hin hj
              have HPS := Lib.hid hps
              clear hempty hput hfit hsn hps
              go_wp2_with fail
              go_quiet ((go_at_call 20; exact quietAL (HCALL.out _ HE1.out HE2.out)))
              clear hw
              go_wp2_with fail
              go_roundw
              case rel => exact ⟨q + 1, max mb (j + 1), R.set i j, by omega, by omega, by go_num, (below_drewN HB2.out _).setCell HG.out _, HPUT.out.drewN _, HPS.out, HSN.out⟩
              case measure => simp [intOf]; omega
        · obtain rfl : q = m := by omega
          have hall : od.take q = od := List.take_of_length_le (by rw [HM.out]; omega)
          have HF2 : Hid (Fits sz room (List.replicate k (-1)) od R) := by
            show Fits sz room (List.replicate k (-1)) od R
            have := HF.out
            rwa [hall] at this
          clear hall
          go_wp2_with fail
          go_ret
          exact ⟨_, _, rfl, HB2.out, R, HOW.out, HPL.out.len, HF2.out⟩
end Go.Proofs.Ytkfomboihnfajaa
