/- As many as can be done in time: the reference's walk. Conditions: the jobs read so; at most seven. -/
import Derived.Test.YtokmialpclcodaaMoorQ
import Derived.Test.YtokmialpclcodaaFalls
import Derived.Test.YtokmialpclcodaaCount
import Derived.Test.YtokmialpclcodaaOwn
import Derived.IntWalk
namespace Go.Proofs.Ytokmialpclcodaa
open Go.RowKit
attribute [local go_sem ↓] w_and w_or w_xor w_andNot w_and1 w_and255 w_xor1 w_or0 w_shl w_shl1 w_shr w_sub w_add w_sub1 w_add1
attribute [local go_sem] w_eq0 w_ne0 w_eq1 w_eq w_ne

theorem okTo_in {l : List Jb} (hok : l.any (badJ Jb.x) = false) (s : BitVec 32) : ∀ k : Nat, 0 ≤ (okTo l s k).1 ∧ (okTo l s k).1 ≤ 1048576 * (k : Int)
  | 0 => ⟨Int.le_refl _, by simp [okTo]⟩
  | k + 1 => by
    have ih := okTo_in hok s k
    have h := (jAt_in (g := Jb.x) rfl hok ((ordJ l).getD k 0).toNat).1
    have e : (mjOf l ((ordJ l).getD k 0)).1 = (jAt l ((ordJ l).getD k 0).toNat).t := rfl
    rw [okTo]
    split
    · simp only
      rw [e]
      push_cast
      omega
    · push_cast; omega
theorem bestTo_in (l : List Jb) : ∀ s, bestTo l s ≤ 32
  | 0 => Nat.zero_le _
  | s + 1 => by
    have := bestTo_in l s
    have h := popTo_le (nw s) 32
    rw [bestTo]
    split
    · exact h
    · exact this
set_option maxRecDepth 100000 in
set_option maxHeartbeats 1000000 in
theorem ref_OnTime (n : Nat) (A : Option Addr) (ca : Nat) (l : List Jb) (w : World) (hA : Els w w.heap.size 4 Jb.cells A l) (hal : l.length = n) (h7 : n ≤ 7) (hok : l.any (badJ Jb.x) = false) :
    Calls Try.prog 11 #[.slice A n ca] w fun e w' => e = .returned (.int .i64 (bestTo l (2 ^ n) : Nat)) ∧ Below w.heap.size w w' := by
  have HA := Lib.hid hA
  have HAL := Lib.hid hal
  have HOK := Lib.hid hok
  clear hA hal hok
  go_enter Try.func11, Try.ntmps11
  go_wp2_with fail
  go_loopw [15, 3] (fun s15 s3 wr => ∃ (k : Nat) (A2 : Option Addr) (c2 : Nat), k ≤ n ∧ s15 = .int .i64 k ∧ s3 = .slice A2 k c2 ∧ Below w.heap.size w wr ∧ Own wr w.heap.size 2 1 icell A2 c2 ((dueN l).take k)) (fun s15 _ _ => n - (intOf s15).toNat)
  case atStart => exact ⟨0, none, 0, by omega, rfl, rfl, Below.refl _ _, Own.nil _ _ _ (fun _ => rfl)⟩
  case round =>
    rename World => wr
    obtain ⟨k, A2, c2, hk, rfl, rfl, hb, hown⟩ := hrel
    have hz := hb.size
    have HB := Lib.hid hb
    have HO := Lib.hid hown
    clear hb hown
    by_cases hlt : k < n
    · have hkl : k < l.length := by rw [HAL.out]; exact hlt
      obtain ⟨b, off, rfl, hbb, g0, g1, g2, g3⟩ := (HA.out.below HB.out).at4 (f := fun a : Jb => .int .i64 a.t) (g := fun a : Jb => a.s.val) (p := fun a : Jb => .int .i64 a.x) (q := fun a : Jb => .int .i64 a.y) hkl
      have hjk : l[k] = jAt l k := by unfold jAt; rw [getD_at l k hkl]
      rw [hjk] at g0 g1 g2 g3
      have hjin := jAt_in (g := Jb.x) rfl HOK.out k
      obtain ⟨j, hj⟩ : ∃ j, j = jAt l k := ⟨_, rfl⟩
      rw [← hj] at g0 g1 g2 g3 hjin
      have hdk : (dueN l).take (k + 1) = (dueN l).take k ++ [-j.x] := by
        rw [List.take_succ_eq_append_getElem (by rw [dueN_length, HAL.out]; exact hlt)]
        congr 2
        unfold dueN
        simp only [List.getElem_map]
        rw [hj, hjk]
      have HDK := Lib.hid hdk
      have hkd : ((dueN l).take k).length = k := by rw [List.length_take, dueN_length, HAL.out]; omega
      have HKD := Lib.hid hkd
      have hbx := Blk.new wr 77 #[.int .i64 j.t, j.s.val, .int .i64 j.x, .int .i64 j.y]
      have d2 := hbx.cell 2
      have HO1 := Lib.hid (HO.out.alloc (.cells #[.int .i64 j.t, j.s.val, .int .i64 j.x, .int .i64 j.y] 77))
      have HB1 := Lib.hid (HB.out.alloc hz (.cells #[.int .i64 j.t, j.s.val, .int .i64 j.x, .int .i64 j.y] 77))
      have hrow : ∀ g, blkOf A2 = some g → w.heap.size ≤ g := fun g hg => (HO.out.lt g hg).1
      have HROW := Lib.hid hrow
      clear hjk hj hdk hkd hbx hrow HB HO
      go_wp2_with (at_builtin; go_loud (refine wpList_push rfl _ _ _ rfl w.heap.size 1 2 (.int .i64 0) 8 Try.underlying46 (by kernel_rfl) rfl (by omega) icell (wr.alloc (.cells #[.int .i64 j.t, j.s.val, .int .i64 j.x, .int .i64 j.y] 77)) #[.int .i64 (-j.x)] A2 k c2 ((dueN l).take k) HKD.out rfl HO1.out 1 [-j.x] rfl rfl (wr.heap.size + 1) rfl (by rw [size_alloc']) (by simp [Value.oneCell']) (by unfold maxLen; omega) (by omega) (by omega) ?_; intro A3 c3 w4 hown4 hgrow hloc))
      go_roundw
      case rel => exact ⟨k + 1, A3, c3, by omega, by go_num, rfl, (HB1.out.alloc (by rw [size_alloc']; omega) _).grown hgrow (by rw [size_alloc', size_alloc']; omega) HROW.out, by rw [HDK.out]; exact hown4⟩
      case measure => simp [intOf]; omega
    · obtain rfl : k = n := by omega
      have hall : (dueN l).take k = dueN l := List.take_of_length_le (by rw [dueN_length, HAL.out]; exact Nat.le_refl _)
      have hel := HO.out.els
      rw [hall] at hel
      have HFA := Lib.hid (ref_Falls (dueN l) A2 k c2 wr (by rw [dueN_length, HAL.out]) (by omega) hel)
      have HEL := Lib.hid hel
      clear hall hel HO
      go_wp2_with fail
      refine HFA.out.mono ?_
      clear HFA
      rintro e v2 ⟨A4, c4, rfl, hb2, hown⟩
      have hor : fallsTo (dueN l) k = ordJ l := by unfold ordJ; rw [HAL.out]
      rw [hor] at hown
      have HOR := Lib.hid hown.els
      have HBV := Lib.hid (HB.out.trans (hb2.mono hz))
      have hzv := HBV.out.size
      have hP := Nat.two_pow_pos k
      have hP2 : 2 ^ k ≤ 128 := Nat.pow_le_pow_right (n := 2) (by omega) (show k ≤ 7 from h7)
      obtain ⟨P, hPP⟩ : ∃ P, P = 2 ^ k := ⟨_, rfl⟩
      rw [← hPP] at hP hP2
      have hlim : wN (wShl w1 k) = (P : Int) := by
        have := wN_shl1 (n := k) (by omega)
        show ((wShl w1 k).toNat : Int) = P
        rw [this, hPP]
      have HLIM := Lib.hid hlim
      have HPP := Lib.hid hPP
      clear hb2 hown hor HEL HB hPP hlim
      go_wp2_with fail
      go_loopw [8, 7] (fun s8 s7 wr2 => ∃ s : Nat, s ≤ P ∧ s8 = .int .u32 (wN (nw s)) ∧ s7 = .int .i64 (bestTo l s : Nat) ∧ ∃ q, wr2 = v2.drewN q) (fun s8 _ _ => P - (intOf s8).toNat)
      case atStart => exact ⟨0, by omega, rfl, rfl, 0, rfl⟩
      case round =>
        rename World => wr2
        obtain ⟨s, hs, rfl, rfl, md, rfl⟩ := hrel
        have hws : wN (nw s) = s := wN_nw (by omega)
        have hbin := bestTo_in l s
        have HBS : Hid (bestTo l (s + 1) = if (okTo l (nw s) l.length).2 = true ∧ bestTo l s < pop (nw s) then pop (nw s) else bestTo l s) := Lib.hid rfl
        rw [HAL.out] at HBS
        by_cases hsP : s < P
        · have hlt' : wN (nw s) < wN (wShl w1 k) := by rw [hws, HLIM.out]; omega
          have hnext : wAdd (nw s) w1 = nw (s + 1) := nw_succ s
          have hws' : wN (nw (s + 1)) = ((s + 1 : Nat) : Int) := wN_nw (by omega)
          obtain ⟨x, hx⟩ : ∃ x, x = nw s := ⟨_, rfl⟩
          rw [← hx] at HBS hlt' hws hnext ⊢
          obtain ⟨bs, hbs⟩ : ∃ bs, bs = bestTo l s := ⟨_, rfl⟩
          rw [← hbs] at HBS hbin ⊢
          have HX := Lib.hid hx
          have HBSD := Lib.hid hbs
          have HNX := Lib.hid hnext
          clear hx hbs hws hnext
          go_wp2_with fail
          go_loop [38, 9, 10] (fun s38 s9 s10 => ∃ q : Nat, q ≤ k ∧ s38 = .int .i64 q ∧ s9 = .int .i64 (okTo l x q).1 ∧ s10 = .bool (okTo l x q).2) (fun s38 _ _ => k - (intOf s38).toNat)
          case atStart => exact ⟨0, by omega, rfl, rfl, rfl⟩
          case round =>
            obtain ⟨q, hq, rfl, rfl, rfl⟩ := hrel
            have hin := okTo_in HOK.out x q
            have HSU : Hid (okTo l x (q + 1) = if bitB x ((ordJ l).getD q 0) = true then ((okTo l x q).1 + (mjOf l ((ordJ l).getD q 0)).1, (okTo l x q).2 && decide ((okTo l x q).1 + (mjOf l ((ordJ l).getD q 0)).1 ≤ (mjOf l ((ordJ l).getD q 0)).2)) else okTo l x q) := Lib.hid rfl
            obtain ⟨⟨now, ok⟩, hst⟩ : ∃ st : Int × Bool, st = okTo l x q := ⟨_, rfl⟩
            rw [← hst] at HSU hin ⊢
            have HST := Lib.hid hst
            simp only at hin HSU ⊢
            clear hst
            by_cases hqk : q < k
            · have hqo : q < (ordJ l).length := by rw [ordJ_length, HAL.out]; exact hqk
              obtain ⟨b, off, hA4, _, o0⟩ := HOR.out.at1 (f := fun x : Int => .int .i64 x) hqo
              subst hA4
              have hmem := ((ordJ_all l).2 _).1 (List.getElem_mem hqo)
              rw [← getD_at (ordJ l) q hqo 0] at o0 hmem
              obtain ⟨a, ha⟩ := Int.eq_ofNat_of_zero_le hmem.1
              rw [ha] at o0 hmem HSU
              have hal2 : a < l.length := by omega
              have hak : a < k := by rw [← HAL.out]; exact hal2
              obtain ⟨ba, oa, hAA, _, g0, g1, g2, g3⟩ := ((HA.out.below HBV.out)).at4 (f := fun a : Jb => .int .i64 a.t) (g := fun a : Jb => a.s.val) (p := fun a : Jb => .int .i64 a.x) (q := fun a : Jb => .int .i64 a.y) hal2
              subst hAA
              have hja : l[a] = jAt l a := by unfold jAt; rw [getD_at l a hal2]
              rw [hja] at g0 g1 g2 g3
              have e1 : (mjOf l (a : Int)).1 = (jAt l a).t := rfl
              have e2 : (mjOf l (a : Int)).2 = (jAt l a).x := rfl
              rw [e1, e2] at HSU
              have hjin := jAt_in (g := Jb.x) rfl HOK.out a
              obtain ⟨j, hj⟩ : ∃ j, j = jAt l a := ⟨_, rfl⟩
              rw [← hj] at g0 g1 g2 g3 hjin HSU
              have HBI := Lib.hid (Bit_any x (a : Int) (v2.drewN md))
              obtain ⟨bt, hbt⟩ : ∃ bt, bt = bitB x (a : Int) := ⟨_, rfl⟩
              rw [← hbt] at HBI HSU
              clear hj ha hja hmem e1 e2 hal2 hqo hbt
              cases bt with
              | false =>
                have HS2 := Lib.hid (HSU.out.trans (if_neg (by simp)))
                go_wp2_with fail
                refine HBI.out.mono ?_
                clear HBI
                rintro e w' ⟨rfl, rfl⟩
                go_wp2_with fail
                go_round
                case rel => exact ⟨q + 1, by omega, by go_num, by rw [HS2.out], by rw [HS2.out]⟩
                case measure => simp [intOf]; omega
              | true =>
                have HS2 := Lib.hid (HSU.out.trans (if_pos rfl))
                cases ok with
                | false =>
                  go_wp2_with fail
                  refine HBI.out.mono ?_
                  clear HBI
                  rintro e w' ⟨rfl, rfl⟩
                  go_wp2_with fail
                  go_round
                  case rel => exact ⟨q + 1, by omega, by go_num, by rw [HS2.out], by rw [HS2.out]; rfl⟩
                  case measure => simp [intOf]; omega
                | true =>
                  go_wp2_with fail
                  refine HBI.out.mono ?_
                  clear HBI
                  rintro e w' ⟨rfl, rfl⟩
                  go_wp2_with fail
                  go_round
                  case rel => exact ⟨q + 1, by omega, by go_num, by rw [HS2.out], by rw [HS2.out]; rfl⟩
                  case measure => simp [intOf]; omega
            · obtain rfl : q = k := by omega
              have HSZ := Lib.hid (Size_any x (v2.drewN md))
              have hpop := popTo_le x 32
              obtain ⟨px, hpx⟩ : ∃ px, px = pop x := ⟨_, rfl⟩
              rw [show popTo x 32 = pop x from rfl, ← hpx] at hpop
              rw [← HST.out, ← hpx] at HBS
              rw [← hpx] at HSZ
              clear hpx
              cases ok with
              | false =>
                have HN : Hid (bestTo l (s + 1) = bs) := Lib.hid (HBS.out.trans (if_neg (fun h => by simpa using h.1)))
                go_wp2_with fail
                go_roundw
                case rel => exact ⟨s + 1, by omega, by rw [HX.out, nw_succ], by rw [HN.out], md, rfl⟩
                case measure => (show P - (wN (wAdd x w1)).toNat < P - (wN x).toNat; rw [HX.out, nw_succ, wN_nw (by omega), wN_nw (by omega)]; omega)
              | true =>
                by_cases hlt2 : bs < px
                · have HN : Hid (bestTo l (s + 1) = px) := Lib.hid (HBS.out.trans (if_pos ⟨rfl, hlt2⟩))
                  have hd : decide ((bs : Int) < (px : Int)) = true := decide_eq_true (by omega)
                  go_wp2_with fail
                  refine HSZ.out.mono ?_
                  rintro e w' ⟨rfl, rfl⟩
                  go_wp2_with fail
                  refine HSZ.out.mono ?_
                  rintro e w' ⟨rfl, rfl⟩
                  go_wp2_with fail
                  go_roundw
                  case rel => exact ⟨s + 1, by omega, by rw [HX.out, nw_succ], by rw [HN.out], md, rfl⟩
                  case measure => (show P - (wN (wAdd x w1)).toNat < P - (wN x).toNat; rw [HX.out, nw_succ, wN_nw (by omega), wN_nw (by omega)]; omega)
                · have HN : Hid (bestTo l (s + 1) = bs) := Lib.hid (HBS.out.trans (if_neg (fun h => hlt2 h.2)))
                  have hd : decide ((bs : Int) < (px : Int)) = false := decide_eq_false (by omega)
                  go_wp2_with fail
                  refine HSZ.out.mono ?_
                  rintro e w' ⟨rfl, rfl⟩
                  go_wp2_with fail
                  go_roundw
                  case rel => exact ⟨s + 1, by omega, by rw [HX.out, nw_succ], by rw [HN.out], md, rfl⟩
                  case measure => (show P - (wN (wAdd x w1)).toNat < P - (wN x).toNat; rw [HX.out, nw_succ, wN_nw (by omega), wN_nw (by omega)]; omega)
        · obtain rfl : s = P := by omega
          have hge : ¬ wN (nw s) < wN (wShl w1 k) := by rw [hws, HLIM.out]; omega
          go_wp2_with fail
          go_ret
          exact ⟨by rw [← HPP.out]; rfl, below_drewN HBV.out _⟩
end Go.Proofs.Ytokmialpclcodaa
