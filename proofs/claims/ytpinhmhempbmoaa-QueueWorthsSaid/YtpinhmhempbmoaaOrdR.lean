/- All orders: the reference's walk. Conditions: none. -/
import Derived.Test.YtpinhmhempbmoaaOrdP
import Derived.Test.YtpinhmhempbmoaaInts
import Derived.Test.YtpinhmhempbmoaaSnoc
import Derived.Test.YtpinhmhempbmoaaDiffer
import Derived.Test.YtpinhmhempbmoaaOpen
namespace Go.Proofs.Ytpinhmhempbmoaa
open Go.RowKit

theorem hasB_intsL (l : List Nat) (k : Nat) : hasB (intsOf l) (k : Int) = l.contains k := by
  unfold hasB intsOf
  rw [Bool.eq_iff_iff, List.any_map, List.any_eq_true, List.contains_iff_mem]
  constructor
  · rintro ⟨x, hx, he⟩
    have he' : k = x := by simp at he; omega
    rw [he']; exact hx
  · intro h
    exact ⟨k, h, by simp⟩
theorem bool_orL (b : Bool) : b = false ∨ b = true := by cases b <;> simp
abbrev slcell (s : Sls Int) : List Value := [s.val]
/-- Lists that lie in rows of their own. -/
def OwnL (w : World) (P : List (Sls Int)) : Prop := ∀ s ∈ P, Own w 0 3 1 icell s.A s.c s.l
theorem OwnL.below {w w' : World} {P : List (Sls Int)} (h : OwnL w P) (hb : Below w.heap.size w w') : OwnL w' P := fun s hs => (h s hs).below hb (Nat.le_refl _)
theorem OwnL.grown {w w' : World} {P Q : List (Sls Int)} {B cap : Nat} {A : Option Addr} (h : OwnL w P) (ho : Own w B 28 1 slcell A cap Q) (hg : w.grownBy w' (blkOf A)) : OwnL w' P := fun s hs => (h s hs).kept hg ((h s hs).apart ho (by decide))

set_option maxRecDepth 100000 in
set_option maxHeartbeats 1000000 in
theorem ref_Orders (n : Nat) (hn : n ≤ 7) : ∀ (f : Nat) (l : List Nat) (L : Option Addr) (m cl : Nat) (w : World), l.length = m → m + f = n → Own w 0 3 1 icell L cl (intsOf l) →
    Calls Try.prog 18 #[.int .i64 n, .slice L m cl] w fun e w' => ∃ (A' : Option Addr) (k cap : Nat) (P : List (Sls Int)), e = .returned (.slice A' k cap) ∧ k = P.length ∧ Below w.heap.size w w' ∧ Own w' w.heap.size 28 1 slcell A' cap P ∧ OwnL w' P ∧ P.map Sls.l = (permsF n f l).map intsOf := by
  intro f
  induction f with
  | zero =>
    intro l L m cl w hlm hmf hol
    obtain rfl : m = n := by omega
    have hlen : (intsOf l).length = m := by rw [intsOf, List.length_map, hlm]
    have HLEN := Lib.hid hlen
    have HOL := Lib.hid hol
    have hlit := Own.lit w w.heap.size 28 #[.slice L m cl] (c := 1) (f := slcell) (fun _ => rfl) [⟨L, cl, intsOf l⟩] 1 rfl (by show [Value.slice L m cl] = [Value.slice L (intsOf l).length cl]; rw [hlen]) (by unfold maxLen; omega) (Nat.le_refl _)
    have HLIT := Lib.hid hlit
    clear hlm hmf hol hlen hlit
    go_enter Try.func18, Try.ntmps18
    go_wp2_with fail
    go_ret
    exact ⟨_, _, _, [⟨L, cl, intsOf l⟩], rfl, rfl, (Below.refl _ _).alloc (Nat.le_refl _) _, HLIT.out, fun s hs => by
      rw [List.mem_singleton] at hs
      subst hs
      exact HOL.out.alloc _, rfl⟩
  | succ f ih =>
    intro l L m cl w hlm hmf hol
    have HIH := Lib.hid ih
    have HM := Lib.hid hlm
    have HOL := Lib.hid hol
    have hmn' : ((m : Int) == (n : Int)) = false := by simp; omega
    have hpw := pow8 (f := f) (by omega)
    clear ih hlm hol
    go_enter Try.func18, Try.ntmps18
    go_wp2_with fail
    go_loopw [6, 5] (fun s6 s5 wr => ∃ (k : Nat) (A5 : Option Addr) (q c5 : Nat) (P : List (Sls Int)), k ≤ n ∧ s6 = .int .i64 k ∧ s5 = .slice A5 q c5 ∧ P.length = q ∧ Below w.heap.size w wr ∧ Own wr w.heap.size 28 1 slcell A5 c5 P ∧ OwnL wr P ∧ P.map Sls.l = ((List.range k).flatMap (nextF n f l)).map intsOf) (fun s6 _ _ => n - (intOf s6).toNat)
    case atStart => exact ⟨0, none, 0, 0, [], by omega, rfl, rfl, rfl, Below.refl _ _, Own.nil _ _ _ (fun _ => rfl), fun s hs => (by cases hs), rfl⟩
    case round =>
      rename World => wr
      obtain ⟨k, A5, q, c5, P, hk, rfl, rfl, hP, hb, ho, hol, hmap⟩ := hrel
      have hz := hb.size
      have HB := Lib.hid hb
      have HO := Lib.hid ho
      have HOLP := Lib.hid hol
      have HMAP := Lib.hid hmap
      have HP := Lib.hid hP
      have hq : q ≤ n * 8 ^ f := by
        have h1 := flat_len (nextF n f l) (8 ^ f) (fun i => next_len (by omega) f l i) k
        have h2 := congrArg List.length hmap
        rw [List.length_map, List.length_map] at h2
        have h3 : k * 8 ^ f ≤ n * 8 ^ f := Nat.mul_le_mul_right _ hk
        omega
      have hq2 : q ≤ 14680064 := by
        have : n * 8 ^ f ≤ 7 * 2097152 := Nat.mul_le_mul hn hpw
        omega
      clear hb ho hol hmap hP hq
      by_cases hlt : k < n
      · have HHAS := Lib.hid (Has_any L m cl (intsOf l) (k : Int) wr.heap.size wr (by rw [intsOf, List.length_map]; exact HM.out) (by unfold maxLen; omega) ((HOL.out.els.below HB.out).more hz))
        rw [hasB_intsL] at HHAS
        have hnx : nextF n f l k = if l.contains k then [] else permsF n f (l ++ [k]) := rfl
        have HNX := Lib.hid hnx
        clear hnx
        rcases bool_orL (l.contains k) with hc | hc
        · rw [hc] at HHAS HNX
          clear hc
          go_wp2_with fail
          refine HHAS.out.mono ?_
          clear HHAS
          rintro e w' ⟨rfl, rfl⟩
          have HO0 := Lib.hid (Own.empty wr 3 1 icell (fun _ => rfl))
          have HR1 := Lib.hid ((HOL.out.els.below HB.out).below ((Below.refl w.heap.size wr).alloc hz (.cells #[] 3)))
          have HLI : Hid ((intsOf l).length = m) := Lib.hid (by rw [intsOf, List.length_map]; exact HM.out)
          go_wp2_with (first
            | (at_builtin; go_loud (refine wpList_append_els rfl (.tmp 24) (.tmp 25) _ rfl wr.heap.size 1 3 (.int .i64 0) 8 Try.underlying28 (by kernel_rfl) rfl (by omega) icell _ (some ⟨wr.heap.size, 0, none⟩) 0 0 [] rfl rfl HO0.out _ _ _ (intsOf l) HLI.out rfl w.heap.size HR1.out (one_flat (fun a u hu => by simp at hu; rw [hu]; rfl) _) (by unfold maxLen; omega) (by omega) (by rw [size_alloc']; exact Nat.le_succ _) ?_; intro A2 cap2 w5 hown2 hgrow2 hloc2))
            | (at_builtin; go_loud (refine wpList_push rfl (.tmp 26) (.tmp 28) _ rfl wr.heap.size 1 3 (.int .i64 0) 8 Try.underlying28 (by kernel_rfl) rfl (by omega) icell w5 #[.int .i64 k] A2 _ cap2 ([] ++ intsOf l) (by simpa using HLI.out) rfl hown2 1 [(k : Int)] rfl rfl _ rfl rfl (by simp [Value.oneCell']) (by unfold maxLen; omega) (by omega) (snoc_size rfl hgrow2) ?_; intro A3 cap3 w6 hown3 hgrow3 hloc3)))
          obtain ⟨b6, o6, z6⟩ := snoc_done rfl hown2 hgrow2 hown3 hgrow3
          have hb6 := HB.out.trans (b6.mono hz)
          have hz6 := hb6.size
          have he6 : intsOf l ++ [(k : Int)] = intsOf (l ++ [k]) := by simp [intsOf]
          rw [he6] at o6
          have HCL := Lib.hid (HIH.out (l ++ [k]) A3 (m + 1) cap3 w6 (by rw [List.length_append, HM.out]; rfl) (by omega) (o6.weaken (Nat.zero_le _)))
          have HB6 := Lib.hid hb6
          have HO6 := Lib.hid (HO.out.below b6 (Nat.le_refl _))
          have HL6 := Lib.hid (HOLP.out.below b6)
          clear hown2 hgrow2 hown3 hgrow3 hloc2 hloc3 b6 o6 hb6 he6
          first
            | (refine HCL.out.mono ?_)
            | (rw [show 0 + m + 1 = m + 1 by omega]; refine HCL.out.mono ?_)
          clear HCL
          rintro e w7 ⟨A7, k7, c7, P7, rfl, hk7, hb7, ho7, hl7, hm7⟩
          have HB7 := Lib.hid (HB6.out.trans (hb7.mono hz6))
          have HO7 := Lib.hid (HO6.out.below hb7 (Nat.le_refl _))
          have HL7 := Lib.hid (HL6.out.below hb7)
          have HX7 := Lib.hid ho7.els
          have HXL := Lib.hid hl7
          have HXM := Lib.hid hm7
          have HK7 := Lib.hid hk7
          have hz7 := hb7.size
          have hk7' : k7 ≤ 2097152 := by
            have h1 := perms_len (n := n) (by omega) f (l ++ [k])
            have h2 := congrArg List.length hm7
            rw [List.length_map, List.length_map] at h2
            omega
          have hz8 := HB7.out.size
          clear hb7 ho7 hl7 hm7 hk7
          go_wp2_with (at_builtin; go_loud (refine wpList_append_els rfl (.tmp 22) (.tmp 30) _ rfl w.heap.size 1 28 (.slice none 0 0) 24 Try.underlying38 (by kernel_rfl) rfl (by omega) slcell w7 A5 q c5 P HP.out rfl HO7.out A7 k7 c7 P7 HK7.out.symm rfl w7.heap.size HX7.out (one_flat (fun a u hu => by simp at hu; rw [hu]; rfl) _) (by unfold maxLen; omega) (by omega) hz8 ?_; intro A8 c8 w8 hown8 hgrow8 hloc8))
          have hb8 : Below w.heap.size w w8 := HB7.out.grown hgrow8 hz8 (fun g hg => (HO7.out.lt g hg).1)
          have hl8 : OwnL w8 (P ++ P7) := fun s hs => by
            rcases List.mem_append.1 hs with h | h
            · exact (HL7.out.grown HO7.out hgrow8) s h
            · exact (HXL.out.grown HO7.out hgrow8) s h
          go_roundw
          case rel => exact ⟨k + 1, A8, _, c8, P ++ P7, by omega, by go_num, rfl, by rw [List.length_append, HP.out, HK7.out], hb8, hown8, hl8, by rw [List.map_append, HMAP.out, HXM.out, flat_range_succ, List.map_append, HNX.out]; rfl⟩
          case measure => simp [intOf]; omega
        · rw [hc] at HHAS HNX
          clear hc
          go_wp2_with fail
          refine HHAS.out.mono ?_
          clear HHAS
          rintro e w' ⟨rfl, rfl⟩
          go_wp2_with fail
          go_roundw
          case rel => exact ⟨k + 1, A5, q, c5, P, by omega, by go_num, rfl, HP.out, HB.out, HO.out, HOLP.out, by rw [HMAP.out, flat_range_succ, HNX.out]; simp⟩
          case measure => simp [intOf]; omega
      · obtain rfl : k = n := by omega
        go_wp2_with fail
        go_ret
        exact ⟨A5, q, c5, P, rfl, HP.out.symm, HB.out, HO.out, HOLP.out, by rw [HMAP.out, permsF_succ]⟩
end Go.Proofs.Ytpinhmhempbmoaa
