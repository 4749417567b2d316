/- May there be a graph with such degrees: the statement's walk. Conditions: the degrees read as a list. -/
import Derived.Test.YtlflnfelhndohaaErdA
import Derived.Test.YtlflnfelhndohaaHavB
import Derived.Test.YtlflnfelhndohaaOpen
namespace Go.Proofs.Ytlflnfelhndohaa
open Go.RowKit Go.Shelf

theorem nodes_d {sc : List Int} {n : Nat} (hl : sc.length = n) : (nodesTo sc n).map Nd.d = sc := by
  unfold nodesTo
  rw [List.map_map]
  refine List.ext_getElem (by simp [hl]) fun i h1 h2 => ?_
  rw [List.getElem_map, List.getElem_range]
  show sc.getD i 0 = sc[i]
  rw [getD_at sc i h2]
/-- The sums tell what the reference does. -/
theorem may_ref {sc : List Int} {n : Nat} (hl : sc.length = n) (hn : n ≤ 10) {e : Ending} {w' : World} (h : RefIs sc n e w') : ∃ (N : Int) (Ar : Option Addr) (k c : Nat) (b : Bool), e = .returned (.tuple #[.agg #[.int .i64 N, .slice Ar k c], .bool b]) ∧ (b = true ↔ MayP sc n) := by
  by_cases hb : ∃ k, k < n ∧ badD n (sc.getD k 0) = true
  · refine ⟨0, none, 0, 0, false, h.1 (.inl hb), fun h => (by cases h), fun hm => ?_⟩
    obtain ⟨k, hk, hbad⟩ := hb
    have := hm.1 (sc.getD k 0) (by rw [getD_at sc k (by omega)]; exact List.getElem_mem _)
    unfold badD at hbad
    have := of_decide_eq_true hbad
    omega
  · have hg : ∀ k, k < n → badD n (sc.getD k 0) = false := fun k hk => by
      cases hd : badD n (sc.getD k 0) with
      | false => rfl
      | true => exact absurd ⟨k, hk, hd⟩ hb
    have hin : ∀ x ∈ sc, 0 ≤ x ∧ x < n := fun x hx => by
      obtain ⟨k, hk, rfl⟩ := List.mem_iff_getElem.1 hx
      have := hg k (by omega)
      rw [getD_at sc k hk] at this
      unfold badD at this
      have := of_decide_eq_false this
      omega
    have hm := hk_may (n + 1) (nodesTo sc n) (by rw [nodesTo_len]; omega) (fun a ha => by
      have := (rel_start hl hn hg).at_ a ha
      omega)
    rw [nodes_d hl] at hm
    have hmp : (hkF (n + 1) (nodesTo sc n)).isSome = true ↔ MayP sc n := by
      rw [hm]
      exact ⟨fun h => ⟨hin, h.1, h.2⟩, fun h => ⟨h.2.1, h.2.2⟩⟩
    rw [← ways_same hl hn hg] at hmp
    cases hr : refH n ((lsum sc).toNat + n + 1) sc with
    | none =>
      rw [hr] at hmp
      exact ⟨0, none, 0, 0, false, h.1 (.inr hr), by simpa using hmp⟩
    | some E =>
      rw [hr] at hmp
      obtain ⟨Ae, cap, he, _⟩ := h.2 E hg hr
      exact ⟨n, Ae, E.length, cap, true, he, by simpa using hmp⟩
set_option maxRecDepth 100000 in
set_option maxHeartbeats 1000000 in
theorem May_large (A : Option Addr) (n c : Nat) (w : World) (hn : 10 < n) :
    Calls Try.prog 20 #[.slice A n c] w fun e w' => e = .returned (.tuple #[.bool false, .int .i64 1]) ∧ w = w' := by
  have hn10 : (10 : Int) < (n : Int) := by omega
  go_enter Try.func20, Try.ntmps20
  go_wp2_with fail
  refine bodyPost_ret (v := .tuple #[.bool false, .int .i64 1]) (by simp [results, Try.results20, go_sem]) rfl ?_
  exact ⟨rfl, rfl⟩
set_option maxRecDepth 100000 in
set_option maxHeartbeats 1000000 in
theorem law_ScoreMay (sc : List Int) (A : Option Addr) (n c : Nat) (w : World) (hl : sc.length = n) (hr : Els w w.heap.size 1 icell A sc) :
    Calls Try.prog 5 #[.slice A n c] w fun e w' => e = .returned (.bool true) ∧ Below w.heap.size w w' := by
  by_cases h10 : 10 < n
  · have hn10 : (10 : Int) < (n : Int) := by omega
    have HML := Lib.hid (May_large A n c w h10)
    clear h10 hl hr
    go_enter Try.func5, Try.ntmps5
    go_wp2_with fail
    refine HML.out.mono ?_
    rintro e w' ⟨rfl, rfl⟩
    go_wp2_with fail
    go_ret
    exact ⟨rfl, Below.refl _ _⟩
  · have hn10 : ¬ (10 : Int) < (n : Int) := by omega
    have HSM := Lib.hid (score_May sc A n c w hl (by omega) hr)
    have HL := Lib.hid hl
    have HR := Lib.hid hr
    clear hl hr
    go_enter Try.func5, Try.ntmps5
    go_wp2_with fail
    refine HSM.out.mono ?_
    clear HSM
    rintro e v1 ⟨⟨r, rfl, hr⟩, hb1⟩
    have HRM := Lib.hid (ref_Make sc A n c v1 HL.out (by omega) ((HR.out.below hb1).more hb1.size))
    have HB1 := Lib.hid hb1
    have HRR := Lib.hid hr
    clear hb1 hr
    go_wp2_with fail
    refine HRM.out.mono ?_
    clear HRM
    rintro e v3 ⟨hri, hb3⟩
    obtain ⟨N, Ar, k, cr, b, rfl, hb⟩ := may_ref HL.out (by omega) hri
    obtain rfl : r = b := by
      have h1 := HRR.out
      cases r <;> cases b <;> simp_all
    have hb4 := HB1.out.trans (hb3.mono HB1.out.size)
    have HB4 := Lib.hid (hb4.alloc hb4.size (.cells #[.int .i64 N, .slice Ar k cr] 24))
    clear hri hb3 hb4 hb HRR HB1
    cases r <;> (
      go_wp2_with fail
      go_ret
      exact ⟨rfl, HB4.out⟩)
theorem ScoreMay_row (s : Sls Int) (w : World) (h : s.Good w w.heap.size 1 (fun n => [.int .i64 n]) OkI) :
    Calls Try.prog 5 #[s.val] w fun e w' => e = .returned (.bool true) ∧ Below w.heap.size w w' :=
  law_ScoreMay s.l s.A s.l.length s.c w rfl h.2.2.1
end Go.Proofs.Ytlflnfelhndohaa
