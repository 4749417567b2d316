/- The comparison of two lists of lists that hold the same. Conditions: both lists. -/
import Derived.Test.YtodbhgbgeiailaaAllsA
import Derived.Test.YtodbhgbgeiailaaEq
import Derived.BigQuiet
namespace Go.Proofs.Ytodbhgbgeiailaa
open Go.RowKit

set_option maxRecDepth 100000 in
set_option maxHeartbeats 1000000 in
theorem Lists_rows (N : Nat) (A A' : Option Addr) (c c' B B' : Nat) (s s' : List (Sls Int)) (w : World) (hs : s.length = N) (hs' : s'.length = N) (hN : N ≤ 43046721) (h : Els w B 1 rcell A s) (h' : Els w B' 1 rcell A' s') (hr : ∀ t ∈ s, RowI w t) (hr' : ∀ t ∈ s', RowI w t) (he : s.map (fun t => t.l) = s'.map (fun t => t.l)) (hlen : ∀ t ∈ s, t.l.length ≤ 1000) :
    Calls Try.prog 42 #[.slice A N c, .slice A' N c'] w fun e w' => e = .returned (.bool true) ∧ ∃ m, w' = w.drewN m := by
  have HM := Lib.hid h
  have HM' := Lib.hid h'
  have HR := Lib.hid hr
  have HR' := Lib.hid hr'
  have HE := Lib.hid he
  have HLEN := Lib.hid hlen
  have HP := Lib.hid hs
  have HP' := Lib.hid hs'
  clear h h' he hs hs' hr hr' hlen
  go_enter Try.func42, Try.ntmps42
  go_wp2_with fail
  go_loopw [5] (fun i wr => ∃ k m : Nat, k ≤ N ∧ i = .int .i64 k ∧ wr = w.drewN m) (fun i _ => N - (intOf i).toNat)
  case atStart => exact ⟨0, 0, by omega, rfl, rfl⟩
  case round =>
    obtain ⟨k, m, hk, rfl, rfl⟩ := hrel
    by_cases hlt : k < N
    · have hkl : k < s.length := by rw [HP.out]; exact hlt
      have hkl' : k < s'.length := by rw [HP'.out]; exact hlt
      obtain ⟨b1, o1, hA1, _, e1⟩ := HM.out.at1 (f := fun t : Sls Int => t.val) hkl
      obtain ⟨b2, o2, hA2, _, e2⟩ := HM'.out.at1 (f := fun t : Sls Int => t.val) hkl'
      have hl : s'[k].l = s[k].l := by
        have := congrArg (fun l => l[k]?) HE.out
        simp only [List.getElem?_map, List.getElem?_eq_getElem hkl, List.getElem?_eq_getElem hkl', Option.map_some, Option.some.injEq] at this
        exact this.symm
      have r1 := HR.out s[k] (List.getElem_mem hkl)
      have r2 := HR'.out s'[k] (List.getElem_mem hkl')
      have hln := HLEN.out s[k] (List.getElem_mem hkl)
      obtain ⟨t, ht⟩ : ∃ t, t = s[k] := ⟨_, rfl⟩
      obtain ⟨t', ht'⟩ : ∃ t', t' = s'[k] := ⟨_, rfl⟩
      rw [← ht] at e1 hl r1 hln
      rw [← ht'] at e2 hl r2
      obtain ⟨tA, tc, tl⟩ := t
      obtain ⟨tA', tc', tl'⟩ := t'
      simp only at hl e1 e2 hln
      subst hl
      have HI : Hid (∀ q, Calls Try.prog 19 #[.slice tA tl'.length tc, .slice tA' tl'.length tc'] (w.drewN q) fun e w' => e = .returned (.bool true) ∧ ∃ m, w' = (w.drewN q).drewN m) := Lib.hid (fun q =>
        Ints_same tA tA' tl'.length tc tc' tl' w.heap.size w.heap.size (w.drewN q) rfl (by unfold maxLen; omega) (r1.els.drewN q) (r2.els.drewN q))
      subst hA1 hA2
      clear r1 r2 ht ht' hln
      go_wp2_with fail
      go_quiet ((go_at_call 19; have h := HI.out; first | with_reducible exact quietAN (h _) | with_reducible exact quietN (h _)))
      go_wp2_with fail
      refine ⟨⟨k + 1, m + nq, by omega, by go_num, by first | rfl | rw [World.drewN_drewN]⟩, by simp [intOf]; omega⟩
    · obtain rfl : k = N := by omega
      go_wp2_with fail
      go_ret
      exact ⟨rfl, m, rfl⟩
end Go.Proofs.Ytodbhgbgeiailaa
