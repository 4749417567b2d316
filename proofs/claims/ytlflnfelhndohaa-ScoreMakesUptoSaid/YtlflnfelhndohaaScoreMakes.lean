/- Making a graph out of degrees: the statement's walk. Conditions: at most 2^20 degrees, which read as a list. -/
import Derived.Test.YtlflnfelhndohaaHavF
import Derived.Test.YtlflnfelhndohaaHavB
import Derived.Test.YtlflnfelhndohaaEdgesEq
import Derived.Test.YtlflnfelhndohaaOpen
namespace Go.Proofs.Ytlflnfelhndohaa
open Go.RowKit Go.Shelf

set_option maxRecDepth 100000 in
set_option maxHeartbeats 1000000 in
theorem score_large (A : Option Addr) (n c : Nat) (w : World) (hn : 10 < n) :
    Calls Try.prog 22 #[.slice A n c] w fun e w' => e = .returned (.tuple #[.agg #[.int .i64 0, .slice none 0 0], .int .i64 1]) ∧ Below w.heap.size w w' := by
  have hb0 := (Below.refl w.heap.size w).alloc (Nat.le_refl _) (.cells #[.int .i64 0, .slice none 0 0] 24)
  have HB0 := Lib.hid hb0
  have hn10 : (10 : Int) < (n : Int) := by omega
  have hkg := Blk.new w 24 #[.int .i64 0, .slice none 0 0]
  have f0 := hkg.frozen 0
  have f1 := hkg.frozen 1
  have c0 := hkg.cell 0
  have c1 := hkg.cell 1
  clear hb0
  go_enter Try.func22, Try.ntmps22
  go_wp2_with fail
  refine bodyPost_ret (v := .tuple #[.agg #[.int .i64 0, .slice none 0 0], .int .i64 1]) (by simp [results, Try.results22, go_sem]) rfl ?_
  exact ⟨rfl, HB0.out⟩
theorem ref_shape {sc : List Int} {n : Nat} {e : Ending} {w' : World} (h : RefIs sc n e w') : ∃ (N : Int) (Ar : Option Addr) (k c : Nat) (b : Bool), e = .returned (.tuple #[.agg #[.int .i64 N, .slice Ar k c], .bool b]) := by
  by_cases hb : ∃ k, k < n ∧ badD n (sc.getD k 0) = true
  · exact ⟨0, none, 0, 0, false, h.1 (.inl hb)⟩
  · cases hr : refH n ((lsum sc).toNat + n + 1) sc with
    | none => exact ⟨0, none, 0, 0, false, h.1 (.inr hr)⟩
    | some E =>
      obtain ⟨Ae, cap, he, _⟩ := h.2 E (fun k hk => by
        cases hd : badD n (sc.getD k 0) with
        | false => rfl
        | true => exact absurd ⟨k, hk, hd⟩ hb) hr
      exact ⟨n, Ae, E.length, cap, true, he⟩
set_option maxRecDepth 100000 in
set_option maxHeartbeats 1000000 in
theorem law_ScoreMakes (sc : List Int) (A : Option Addr) (n c : Nat) (w : World) (hl : sc.length = n) (hn : n ≤ 1048576) (hr : Els w w.heap.size 1 icell A sc) :
    Calls Try.prog 6 #[.slice A n c] w fun e w' => e = .returned (.bool true) ∧ Below w.heap.size w w' := by
  have HL := Lib.hid hl
  have HR := Lib.hid hr
  clear hl hr
  by_cases h10 : 10 < n
  · have hn10 : (10 : Int) < (n : Int) := by omega
    have HSM := Lib.hid (score_large A n c w h10)
    clear h10
    go_enter Try.func6, Try.ntmps6
    go_wp2_with fail
    refine HSM.out.mono ?_
    clear HSM
    rintro e v1 ⟨rfl, hb1⟩
    have hz1 := hb1.size
    have hb2 := hb1.alloc hz1 (.cells #[.int .i64 0, .slice none 0 0] 24)
    have hk2 := Blk.new v1 24 #[.int .i64 0, .slice none 0 0]
    have HRM := Lib.hid (ref_Make sc A n c _ HL.out hn ((HR.out.below hb2).more hb2.size))
    have HB2 := Lib.hid hb2
    have HK2 := Lib.hid hk2
    clear hb1 hb2 hk2
    go_wp2_with fail
    refine HRM.out.mono ?_
    clear HRM
    rintro e v3 ⟨hri, hb3⟩
    obtain ⟨N, Ar, k, cr, b, rfl⟩ := ref_shape hri
    have hb4 := HB2.out.trans (hb3.mono (by rw [size_alloc']; omega))
    have hk4 := (HK2.out.below hb3 HK2.out.lt).alloc (.cells #[.int .i64 N, .slice Ar k cr] 24)
    have HB4 := Lib.hid (hb4.alloc hb4.size (.cells #[.int .i64 N, .slice Ar k cr] 24))
    have c0 := hk4.cell 0
    have c1 := hk4.cell 1
    clear hri hb3 hb4 hk4 HB2 HK2
    go_wp2_with fail
    go_ret
    exact ⟨rfl, HB4.out⟩
  · have hn10 : ¬ (10 : Int) < (n : Int) := by omega
    have HSM := Lib.hid (score_Make sc A n c w HL.out (by omega) HR.out)
    go_enter Try.func6, Try.ntmps6
    go_wp2_with fail
    refine HSM.out.mono ?_
    clear HSM
    rintro e v1 ⟨hmi, hb1⟩
    have hz1 := hb1.size
    have hbad : ((∃ k, k < n ∧ badD n (sc.getD k 0) = true) ∨ hkF (n + 1) (nodesTo sc n) = none) ∨ ((∀ k, k < n → badD n (sc.getD k 0) = false) ∧ ∃ E, hkF (n + 1) (nodesTo sc n) = some E) := by
      by_cases hb : ∃ k, k < n ∧ badD n (sc.getD k 0) = true
      · exact .inl (.inl hb)
      · have hg : ∀ k, k < n → badD n (sc.getD k 0) = false := fun k hk => by
          cases hd : badD n (sc.getD k 0) with
          | false => rfl
          | true => exact absurd ⟨k, hk, hd⟩ hb
        cases hh : hkF (n + 1) (nodesTo sc n) with
        | none => exact .inl (.inr rfl)
        | some E => exact .inr ⟨hg, E, rfl⟩
    rcases hbad with hbad | ⟨hg, E, hE⟩
    · have he := hmi.1 hbad
      subst he
      have hbad2 : (∃ k, k < n ∧ badD n (sc.getD k 0) = true) ∨ refH n ((lsum sc).toNat + n + 1) sc = none := by
        rcases hbad with hb | hb
        · exact .inl hb
        · by_cases hb2 : ∃ k, k < n ∧ badD n (sc.getD k 0) = true
          · exact .inl hb2
          · have hg : ∀ k, k < n → badD n (sc.getD k 0) = false := fun k hk => by
              cases hd : badD n (sc.getD k 0) with
              | false => rfl
              | true => exact absurd ⟨k, hk, hd⟩ hb2
            exact .inr (by rw [ways_same HL.out (by omega) hg]; exact hb)
      have hb2 := hb1.alloc hz1 (.cells #[.int .i64 0, .slice none 0 0] 24)
      have hk2 := Blk.new v1 24 #[.int .i64 0, .slice none 0 0]
      have HRM := Lib.hid (ref_Make sc A n c _ HL.out hn ((HR.out.below hb2).more hb2.size))
      have HB2 := Lib.hid hb2
      have HK2 := Lib.hid hk2
      have HBAD := Lib.hid hbad2
      clear hb1 hb2 hk2 hbad hbad2 hmi
      go_wp2_with fail
      refine HRM.out.mono ?_
      clear HRM
      rintro e v3 ⟨hri, hb3⟩
      obtain rfl := hri.1 HBAD.out
      have hb4 := HB2.out.trans (hb3.mono (by rw [size_alloc']; omega))
      have hk4 := (HK2.out.below hb3 HK2.out.lt).alloc (.cells #[.int .i64 0, .slice none 0 0] 24)
      have HB4 := Lib.hid (hb4.alloc hb4.size (.cells #[.int .i64 0, .slice none 0 0] 24))
      have c0 := hk4.cell 0
      have c1 := hk4.cell 1
      clear hri hb3 hb4 hk4 HB2 HK2 HBAD
      go_wp2_with fail
      go_ret
      exact ⟨rfl, HB4.out⟩
    · obtain ⟨Ae, cap, rfl, hEl, hels⟩ := hmi.2 E hg hE
      have hE2 : refH n ((lsum sc).toNat + n + 1) sc = some E := by rw [ways_same HL.out (by omega) hg]; exact hE
      have hb2 := hb1.alloc hz1 (.cells #[.int .i64 n, .slice Ae E.length cap] 24)
      have hk2 := Blk.new v1 24 #[.int .i64 n, .slice Ae E.length cap]
      have HRM := Lib.hid (ref_Make sc A n c _ HL.out hn ((HR.out.below hb2).more hb2.size))
      have HEL := Lib.hid (hels.alloc (Nat.le_refl _) (.cells #[.int .i64 n, .slice Ae E.length cap] 24))
      have HB2 := Lib.hid hb2
      have HK2 := Lib.hid hk2
      have HG := Lib.hid hg
      have HE2 := Lib.hid hE2
      clear hb1 hb2 hk2 hg hE hE2 hels hmi
      go_wp2_with fail
      refine HRM.out.mono ?_
      clear HRM
      rintro e v3 ⟨hri, hb3⟩
      obtain ⟨Ar, cr, rfl, hels3⟩ := hri.2 E HG.out HE2.out
      have hb4 := HB2.out.trans (hb3.mono (by rw [size_alloc']; omega))
      have hb34 := (Below.refl v3.heap.size v3).alloc (Nat.le_refl _) (.cells #[.int .i64 n, .slice Ar E.length cr] 24)
      have hk4 := (HK2.out.below hb3 HK2.out.lt).alloc (.cells #[.int .i64 n, .slice Ar E.length cr] 24)
      have hh4 := Blk.new v3 24 #[.int .i64 n, .slice Ar E.length cr]
      have HB4 := Lib.hid (hb4.alloc hb4.size (.cells #[.int .i64 n, .slice Ar E.length cr] 24))
      have HES := Lib.hid (Edges_same Ae Ar E.length cap cr (edE E) v1.heap.size v3.heap.size (v3.alloc (.cells #[.int .i64 n, .slice Ar E.length cr] 24)) (edE_len E) hEl ((HEL.out.below (hb3.mono (by rw [size_alloc']; omega))).below (hb34.mono (by have := hb3.size; rw [size_alloc'] at this; omega))) (hels3.below hb34))
      have c0 := hk4.cell 0
      have c1 := hk4.cell 1
      have d0 := hh4.cell 0
      have d1 := hh4.cell 1
      clear hri hb3 hb4 hk4 hh4 hb34 hels3 HB2 HK2 HEL HG HE2
      go_wp2_with fail
      refine HES.out.mono ?_
      clear HES
      rintro e v5 ⟨rfl, q, rfl⟩
      go_wp2_with fail
      go_ret
      exact ⟨rfl, below_drewN HB4.out q⟩
theorem ScoreMakes_row (s : Sls Int) (w : World) (h : s.Good w w.heap.size 1 (fun n => [.int .i64 n]) OkI) (hn : s.l.length ≤ 1048576) :
    Calls Try.prog 6 #[s.val] w fun e w' => e = .returned (.bool true) ∧ Below w.heap.size w w' :=
  law_ScoreMakes s.l s.A s.l.length s.c w rfl hn h.2.2.1
end Go.Proofs.Ytlflnfelhndohaa
