/- What wishes are told to be wrong: the program and the reference compute the one function wishCheck. Conditions: the lists read as lists. -/
import Derived.Test.YtodbhgbgeiailaaInts
import Derived.Test.YtodbhgbgeiailaaOpen
namespace Go.Proofs.Ytodbhgbgeiailaa
open Go.RowKit
attribute [local go_sem ↓] s_and s_or s_but s_and1 s_shr s_shl1
attribute [local go_sem] s_eq0 s_ne0 s_eq1

abbrev rcell (s : Sls Int) : List Value := [s.val]
def badAt (n : Int) (l : List Int) (k : Nat) : Bool := decide (l.getD k 0 < 0) || decide (n ≤ l.getD k 0) || hasB (l.take k) (l.getD k 0)
def listBad (n : Int) (l : List Int) : Bool := (List.range l.length).any (badAt n l)
def sideBad (n : Int) (ls : List (Sls Int)) : Bool := ls.any fun s => listBad n s.l
def wishCheck (L R : List (Sls Int)) : Int :=
  if 8 < L.length ∨ 8 < R.length then 1 else if L.length ≠ R.length then 3 else if sideBad L.length L || sideBad L.length R then 2 else 0
/-- What has been seen of the first k. -/
def seenTo (l : List Int) : Nat → BitVec 32
  | 0 => w0
  | k + 1 => wOr (seenTo l k) (wShl w1 (l.getD k 0).toNat)
theorem seen_bit (l : List Int) : ∀ (k : Nat) (m : Nat), m < 32 → k ≤ l.length → (∀ j, j < k → 0 ≤ l.getD j 0) → (seenTo l k).getLsbD m = hasB (l.take k) m
  | 0, m, _, _, _ => by simp [seenTo, b_0, hasB]
  | k + 1, m, hm, hk, h => by
    unfold hasB
    rw [seenTo, b_or, seen_bit l k m hm (by omega) (fun j hj => h j (by omega)), b_one, any_take_succ _ _ _ (by omega)]
    unfold hasB
    congr 1
    have h0 := h k (by omega)
    rw [← getD_at l k (by omega) 0]
    generalize l.getD k 0 = x at h0
    rw [Bool.eq_iff_iff]
    simp [hm]
    omega
theorem noBad_nonneg {n : Int} {l : List Int} {k : Nat} (h : (List.range k).any (badAt n l) = false) : ∀ j, j < k → 0 ≤ l.getD j 0 := by
  intro j hj
  have := List.any_eq_false.1 h j (List.mem_range.2 hj)
  unfold badAt at this
  generalize l.getD j 0 = x at this
  simp at this
  omega

set_option maxRecDepth 100000 in
set_option maxHeartbeats 1000000 in
theorem wish_lists (A : Option Addr) (n c : Nat) (ls : List (Sls Int)) (N : Nat) (w : World) (hl : ls.length = n) (hn : n ≤ maxLen) (hN : N ≤ 8) (hr : Els w w.heap.size 1 rcell A ls) (hg : ∀ s ∈ ls, s.Good w w.heap.size 1 icell OkI) :
    Calls Try.prog 77 #[.slice A n c, .int .i64 N] w fun e w' => e = .returned (.bool (!sideBad N ls)) ∧ w = w' := by
  unfold maxLen at hn
  have HL := Lib.hid hl
  have HG := Lib.hid hg
  clear hl hg
  go_enter Try.func77, Try.ntmps77
  go_wp2_with fail
  go_loop [12] (fun i => ∃ k : Nat, k ≤ n ∧ i = .int .i64 k ∧ (ls.take k).any (fun s => listBad N s.l) = false) (fun i => n - (intOf i).toNat)
  case atStart => exact ⟨0, by omega, rfl, rfl⟩
  case round =>
    obtain ⟨k, hk, rfl, hno⟩ := hrel
    have HK := Lib.hid hno
    clear hno
    by_cases hlt : k < n
    · have hkl : k < ls.length := by rw [HL.out]; exact hlt
      obtain ⟨b, off, rfl, hbb, g0⟩ := hr.at1 hkl
      have hgood := HG.out ls[k] (List.getElem_mem hkl)
      obtain ⟨s, hs⟩ : ∃ s, s = ls[k] := ⟨_, rfl⟩
      rw [← hs] at g0 hgood
      have HS := Lib.hid hs
      clear hs
      obtain ⟨A2, c2, l⟩ := s
      obtain ⟨hm2, _, hr2, _⟩ := hgood
      dsimp only [Sls.val] at g0 hm2 hr2
      unfold maxLen at hm2
      have HD : Hid (listBad N l = (List.range l.length).any (badAt N l)) := rfl
      obtain ⟨n2, hn2⟩ : ∃ n2, n2 = l.length := ⟨_, rfl⟩
      rw [← hn2] at g0 hm2
      have HN2 := Lib.hid hn2
      clear hn2
      go_wp2_with fail
      go_loop [7, 18] (fun sn j => ∃ q : Nat, q ≤ n2 ∧ j = .int .i64 q ∧ sn = .int .i64 (sN (seenTo l q)) ∧ (List.range q).any (badAt N l) = false) (fun _ j => n2 - (intOf j).toNat)
      case atStart => exact ⟨0, by omega, rfl, rfl, rfl⟩
      case round =>
        obtain ⟨q, hq, rfl, rfl, hno⟩ := hrel
        have HQ := Lib.hid hno
        clear hno
        by_cases hlq : q < n2
        · have hql : q < l.length := by rw [← HN2.out]; exact hlq
          obtain ⟨b2, off2, rfl, hbb2, g2⟩ := hr2.at1 hql
          obtain ⟨x, hx⟩ : ∃ x, x = l[q] := ⟨_, rfl⟩
          rw [← hx] at g2
          have hxd : l.getD q 0 = x := by rw [getD_at l q hql 0, hx]
          have HX := Lib.hid hxd
          clear hx hxd
          have hbad : badAt N l q = true → (!sideBad N ls) = false := fun h => by
            have h1 : listBad N l = true := by rw [HD.out]; exact any_range_of hql h
            have h2 : sideBad N ls = true := any_of_get (p := fun s : Sls Int => listBad N s.l) hkl (by rw [← HS.out]; exact h1)
            rw [h2]; rfl
          have HB := Lib.hid hbad
          clear hbad
          have hstep : badAt N l q = (decide (x < 0) || decide ((N : Int) ≤ x) || hasB (l.take q) x) := by unfold badAt; rw [HX.out]
          have HT := Lib.hid hstep
          clear hstep
          by_cases h0 : x < 0
          · go_wp2_with fail
            go_ret
            exact ⟨ret_bool (by rw [HB.out (by rw [HT.out]; simp [h0])]), rfl⟩
          · by_cases h1 : (N : Int) ≤ x
            · go_wp2_with fail
              go_ret
              exact ⟨ret_bool (by rw [HB.out (by rw [HT.out]; simp [h1])]), rfl⟩
            · have hx0 : 0 ≤ x := by omega
              have hx32 : x < 32 := by omega
              have hbit : (wAnd (wShr (seenTo l q) x.toNat) w1 == w1) = hasB (l.take q) x := by
                rw [shr_and1, seen_bit l q _ (by omega) (by omega) (noBad_nonneg HQ.out), Int.toNat_of_nonneg hx0]
              have HS2 : Hid (seenTo l (q + 1) = wOr (seenTo l q) (wShl w1 x.toNat)) := by
                show seenTo l (q + 1) = _
                rw [seenTo, HX.out]
              rcases hh : hasB (l.take q) x with _ | _
              · rw [hh] at hbit
                have HH := Lib.hid hh
                clear hh
                go_wp2_with fail
                go_round
                case rel => exact ⟨q + 1, by omega, by go_num, by rw [HS2.out], by rw [any_range_succ, HQ.out, HT.out, HH.out]; simp [h0]; omega⟩
                case measure => simp [intOf]; omega
              · rw [hh] at hbit
                have HH := Lib.hid hh
                clear hh
                go_wp2_with fail
                go_ret
                exact ⟨ret_bool (by rw [HB.out (by rw [HT.out, HH.out]; simp)]), rfl⟩
        · obtain rfl : q = n2 := by omega
          go_wp2_with fail
          go_round
          case rel => exact ⟨k + 1, by omega, by go_num, by rw [any_take_succ _ _ _ hkl, HK.out, ← HS.out]; show (false || listBad N l) = false; rw [HD.out, ← HN2.out, HQ.out]; rfl⟩
          case measure => simp [intOf]; omega
    · go_wp2_with fail
      go_ret
      exact ⟨ret_bool (by unfold sideBad; rw [any_take_all (by rw [HL.out]; omega) HK.out]; rfl), rfl⟩
end Go.Proofs.Ytodbhgbgeiailaa
