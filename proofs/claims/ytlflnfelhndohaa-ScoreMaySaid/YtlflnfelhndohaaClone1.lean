/- slices.Clone at slices of numbers. Conditions: the slice reads as a list. -/
import Derived.Test.YtlflnfelhndohaaProg
import Derived.Test.YtlflnfelhndohaaSnoc
import Derived.Test.YtlflnfelhndohaaInts
import Derived.WalkSpells
namespace Go.Proofs.Ytlflnfelhndohaa
open Go.RowKit

set_option maxRecDepth 100000 in
theorem Clone_ints (A : Option Addr) (n c : Nat) (l : List Int) (w : World) (hl : l.length = n) (hn : n ≤ 65536) (hr : Els w w.heap.size 1 icell A l) :
    Calls Try.prog 42 #[.slice A n c] w fun e w' => ∃ A' cap, e = .returned (.slice A' n cap) ∧ Below w.heap.size w w' ∧ Own w' w.heap.size 3 1 icell A' cap l := by
  have HL := Lib.hid hl
  have HR := Lib.hid hr
  clear hl hr
  cases A with
  | none =>
    have h0 : n = 0 := by
      by_cases h : 0 < l.length
      · obtain ⟨b, off, he, _⟩ := HR.out h
        cases he
      · have := HL.out; omega
    subst h0
    have hnil : l = [] := List.length_eq_zero_iff.1 HL.out
    subst hnil
    clear HR HL
    have hq : ∀ W : World, (binOp .eql 30 (.slice none 0 c) (.slice none 0 0)).run Try.prog W = .ok (.bool true) W := fun W => Lib.run_eql_slice_nil W 30 3 none 0 c 0 0 Try.underlying30
    go_enter Try.func42, Try.ntmps42
    go_wp2_with fail
    go_ret
    exact ⟨none, 0, rfl, Below.refl _ _, Own.nil _ _ _ (fun _ => rfl)⟩
  | some p =>
    have HO2 := Lib.hid (Own.empty w 3 1 icell (fun _ => rfl))
    have hb0 := (Below.refl w.heap.size w).alloc (Nat.le_refl _) (.cells #[] 3)
    have HB0 := Lib.hid hb0
    have HE2 := Lib.hid (HR.out.below hb0)
    clear hb0
    have hq : ∀ W : World, (binOp .eql 30 (.slice (some p) n c) (.slice none 0 0)).run Try.prog W = .ok (.bool false) W := fun W => Lib.run_eql_slice_nil W 30 3 (some p) n c 0 0 Try.underlying30
    go_enter Try.func42, Try.ntmps42
    go_wp2_with (at_builtin; go_loud (refine wpList_append_els rfl _ _ _ rfl w.heap.size 1 3 (.int .i64 0) 8 Try.underlying30 (by kernel_rfl) rfl (by omega) icell _ (some ⟨w.heap.size, 0, none⟩) 0 0 [] rfl rfl HO2.out _ _ _ l HL.out rfl _ HE2.out (one_flat (fun a u hu => by simp at hu; rw [hu]; rfl) _) (by unfold maxLen; omega) (by omega) (by rw [size_alloc']; exact Nat.le_succ _) ?_; intro A2 cap2 w3 hown2 hgrow2 hloc2))
    rw [List.nil_append] at hown2
    have HO := Lib.hid hown2
    have HB := Lib.hid (HB0.out.grown hgrow2 (by rw [size_alloc']; omega) (fun g hg => by simp [blkOf] at hg; omega))
    clear hown2 hgrow2 hloc2
    go_ret
    exact ⟨A2, cap2, rfl, HB.out, HO.out⟩
end Go.Proofs.Ytlflnfelhndohaa
