/- Pairs: what is wrong with the words; with whom some may be paired. Conditions: the words read as a list; the table. -/
import Derived.Test.YthopiaggnbkjbaaDoorHeld
import Derived.Test.YthopiaggnbkjbaaDoorOrAll
import Derived.Test.YthopiaggnbkjbaaDoorIdx
import Derived.Test.YthopiaggnbkjbaaDoorBit
import Derived.BigRegionIn
import Derived.Sort.QuietIn
namespace Go.Proofs.YthopiaggnbkjbaaDoor
open Go.RowKit Go.Shelf
attribute [local go_sem] Oper.semAt_some
attribute [local go_sem ↓] w_and w_or w_xor w_andNot w_and1 w_and255 w_xor1 w_or0 w_shl w_shl1 w_shr w_sub w_add w_sub1 w_add1
attribute [local go_sem] w_eq0 w_ne0 w_eq1 w_eq w_ne

def wide8 (x : BitVec 32) : Bool := wShr x 8 != w0
def pairsCheck (l : List (BitVec 32)) : Int := if 8 < l.length then 1 else if l.any wide8 then 2 else 0
theorem wide8_iff (x : BitVec 32) : wide8 x = decide (256 ≤ wN x) := by
  unfold wide8
  rw [shr_zero_iff]
  congr 1
  rw [eq_iff_iff]
  unfold wN
  omega

theorem pairs_check1 (x : BitVec 32) (w : World) :
    Calls Tryd.prog 65 #[.int .u32 (wN x)] w fun e w' => e = .returned (.bool (wide8 x)) ∧ w = w' := by
  go_enter Tryd.func65, Tryd.ntmps65
  go_wp2_with fail
  go_ret
  exact ⟨rfl, rfl⟩
set_option maxRecDepth 100000 in
theorem pairs_check (A : Option Addr) (n c : Nat) (l : List (BitVec 32)) (w : World) (hl : l.length = n) (hn : n ≤ maxLen) (hr : Els w w.heap.size 1 wcell A l) :
    Calls Tryd.prog 42 #[.slice A n c] w fun e w' => e = .returned (.int .i64 (pairsCheck l)) ∧ Below w.heap.size w w' := by
  have HC := Lib.hid (ContainsFunc_words 65 (enters_of Tryd.func65 (by kernel_rfl) rfl) #[] wide8 A n c l w hl hn hr fun a wx _ _ => (pairs_check1 a wx).mono fun e w' ⟨h1, h2⟩ => ⟨h1, h2 ▸ Below.refl _ _⟩)
  have HN : Hid (pairsCheck l = if 8 < n then 1 else if l.any wide8 then 2 else 0) := by subst hl; exact Lib.hid rfl
  clear hl hr
  unfold maxLen at hn
  by_cases h8 : 8 < n
  · go_enter Tryd.func42, Tryd.ntmps42
    go_wp2_with fail
    go_ret
    exact ⟨ret_i64 (by rw [HN.out, if_pos h8]), Below.refl _ _⟩
  · go_enter Tryd.func42, Tryd.ntmps42
    go_wp2_with fail
    refine HC.out.mono ?_
    clear HC
    rintro e w' ⟨rfl, hb⟩
    have HB := Lib.hid hb
    clear hb
    rcases ha : l.any wide8 with _ | _
    all_goals
      have HA := Lib.hid ha
      clear ha
      go_wp2_with fail
      go_ret
      exact ⟨ret_i64 (by rw [HN.out, if_neg h8, HA.out]; rfl), HB.out⟩
set_option maxRecDepth 100000 in
theorem ref_PairsCheck (A : Option Addr) (n c : Nat) (l : List (BitVec 32)) (w : World) (hl : l.length = n) (hn : n ≤ maxLen) (hr : Els w w.heap.size 1 wcell A l) :
    Calls Tryd.prog 17 #[.slice A n c] w fun e w' => e = .returned (.int .i64 (pairsCheck l)) ∧ w = w' := by
  have HN : Hid (pairsCheck l = if 8 < n then 1 else if l.any wide8 then 2 else 0) := by subst hl; exact Lib.hid rfl
  have HL := Lib.hid hl
  clear hl
  unfold maxLen at hn
  by_cases h8 : 8 < n
  · go_enter Tryd.func17, Tryd.ntmps17
    go_wp2_with fail
    go_ret
    exact ⟨ret_i64 (by rw [HN.out, if_pos h8]), rfl⟩
  · go_enter Tryd.func17, Tryd.ntmps17
    go_wp2_with fail
    go_loop [10] (fun i => ∃ k : Nat, k ≤ n ∧ i = .int .i64 k ∧ (l.take k).any wide8 = false) (fun i => n - (intOf i).toNat)
    case atStart => exact ⟨0, by omega, rfl, rfl⟩
    case round =>
      obtain ⟨k, hk, rfl, hno⟩ := hrel
      have HK := Lib.hid hno
      clear hno
      by_cases hlt : k < n
      · have hkl : k < l.length := by rw [HL.out]; exact hlt
        obtain ⟨b, off, rfl, hbb, g0⟩ := hr.at1 hkl
        obtain ⟨x, hx⟩ : ∃ x, x = l[k] := ⟨_, rfl⟩
        rw [← hx] at g0
        have HX := Lib.hid hx
        clear hx
        have HW := Lib.hid (wide8_iff x)
        by_cases hw : 256 ≤ wN x
        · go_wp2_with fail
          go_ret
          exact ⟨ret_i64 (by rw [HN.out, if_neg h8, if_pos (any_of_get hkl (by rw [← HX.out, HW.out]; simpa using hw))]), rfl⟩
        · go_wp2_with fail
          go_round
          case rel => exact ⟨k + 1, by omega, by go_num, by rw [any_take_succ _ _ _ hkl, HK.out, ← HX.out, HW.out]; simpa using hw⟩
          case measure => simp [intOf]; omega
      · have hno := Lib.hid (any_take_all (by rw [HL.out]; omega) HK.out)
        clear HK
        go_wp2_with fail
        go_ret
        exact ⟨ret_i64 (by rw [HN.out, if_neg h8, hno.out]; rfl), rfl⟩
set_option maxRecDepth 100000 in
theorem ref_Friends (A : Option Addr) (n c B : Nat) (l : List (BitVec 32)) (s : BitVec 32) (w : World) (hl : l.length = n) (hn : n ≤ maxLen) (hr : Els w B 1 wcell A l) :
    Calls Tryd.prog 46 #[.slice A n c, .int .u32 (wN s)] w fun e w' => e = .returned (.int .u32 (wN (orTo l s n))) ∧ w = w' := by
  have HL := Lib.hid hl
  clear hl
  unfold maxLen at hn
  go_enter Tryd.func46, Tryd.ntmps46
  go_wp2_with fail
  go_loop [5, 10] (fun o i => ∃ k : Nat, k ≤ n ∧ i = .int .i64 k ∧ o = .int .u32 (wN (orTo l s k))) (fun _ i => n - (intOf i).toNat)
  case atStart => exact ⟨0, by omega, rfl, rfl⟩
  case round =>
    obtain ⟨k, hk, rfl, rfl⟩ := hrel
    by_cases hlt : k < n
    · have hkl : k < l.length := by rw [HL.out]; exact hlt
      obtain ⟨b, off, rfl, hbb, g0⟩ := hr.at1 hkl
      rw [← lw_at l k hkl] at g0
      have HS : Hid (orTo l s (k + 1) = if bitB s k = true then wOr (orTo l s k) (lw l k) else orTo l s k) := Lib.hid rfl
      rcases hb : bitB s k with _ | _
      all_goals
        rw [hb] at HS
        have HB := Lib.hid hb
        clear hb
        go_wp2_with fail
        refine (Bit_any s k _).mono ?_
        rintro e w' ⟨rfl, rfl⟩
        rw [HB.out]
        go_wp2_with fail
        go_round
        case rel => exact ⟨k + 1, by omega, by go_num, by rw [HS.out]; rfl⟩
        case measure => simp [intOf]; omega
    · obtain rfl : k = n := by omega
      go_wp2_with fail
      go_ret
      exact ⟨rfl, rfl⟩
set_option maxRecDepth 100000 in
set_option maxHeartbeats 1000000 in
theorem pairs_right (A : Option Addr) (n c B : Nat) (l : List (BitVec 32)) (s : BitVec 32) (w : World) (hl : l.length = n) (hn : n ≤ maxLen) (hr : Els w B 1 wcell A l) (hB : B ≤ w.heap.size) (htab : TabOk w) (hbits : ∀ j ∈ bitsL s, j < n) :
    Calls Tryd.prog 44 #[.slice A n c, .int .u32 (wN s)] w fun e w' => e = .returned (.int .u32 (wN (orTo l s n))) ∧ Below w.heap.size w w' := by
  have HF := Lib.hid (orAll_orTo l s hbits)
  have HL := Lib.hid hl
  have HBI := Lib.hid hbits
  have h0 := htab.1
  clear hl hbits
  unfold maxLen at hn
  refine (callsIn_wide (n := 9)).1 ?_
  refine callsIn_of_wp_marks Tryd.func44 rfl trivial ?_ rfl
  simp only [Tryd.ntmps44, List.size_toArray, List.length_cons, List.length_nil, Nat.reduceAdd, Nat.reduceSub, Array.replicate_succ, Array.replicate_zero, List.push_toArray, List.append_toArray, List.nil_append, List.cons_append]
  gi_wp2_with fail
  refine wide_call2 ((graph_Each s _).mono ?_)
  rintro e W3 ⟨rfl, rfl⟩
  gi_wp2_with fail
  obtain ⟨T, hT⟩ : ∃ T, T = w.heap.size := ⟨_, rfl⟩
  obtain ⟨W2, hW2⟩ : ∃ W2, W2 = (((w.alloc (.cells #[.slice A n c] 22)).alloc (.cells #[.int .u32 0] 23)).alloc (.cells #[.int .u32 (wN s)] 23)) := ⟨_, rfl⟩
  have hSZ2 : W2.heap.size = T + 3 := by rw [hW2, size_alloc', size_alloc', size_alloc', hT]
  have hb2 : Below T w W2 := by rw [hW2, hT]; exact (((Below.refl _ w).alloc (Nat.le_refl _) _).alloc (by simp) _).alloc (by simp; omega) _
  have hx2 : Boxed W2 T 22 (.slice A n c) := by rw [hW2, hT]; exact ((Boxed.new w _ _).alloc _).alloc _
  have ha2 : Boxed W2 (T + 1) 23 (.int .u32 (wN w0)) := by
    have := Boxed.new (w.alloc (.cells #[.slice A n c] 22)) 23 (.int .u32 (wN w0))
    rw [size_alloc', ← hT] at this
    rw [hW2]
    exact this.alloc _
  have hi2 : Boxed W2 (T + 2) 23 (.int .u32 (wN s)) := by
    have := Boxed.new ((w.alloc (.cells #[.slice A n c] 22)).alloc (.cells #[.int .u32 0] 23)) 23 (.int .u32 (wN s))
    rw [size_alloc', size_alloc', ← hT, ← hW2] at this
    exact this
  have ht2 : TabOk W2 := htab.below hb2 (by omega)
  rw [← hW2, ← hT]
  rw [← hT] at hB h0
  have HB2 := Lib.hid hb2
  have HX2 := Lib.hid hx2
  have HA2 := Lib.hid ha2
  have HI2 := Lib.hid hi2
  have HT := Lib.hid hT
  have HR := Lib.hid hr
  clear hW2 hT hb2 hx2 ha2 hr htab
  refine wpIn_bits (p := 9) (q := 6) 9 63 (T + 2) 23 (.int .u32 (wN s)) (bitsL s) [T + 1, T + 2] rfl (enters_of Tryd.func63 (by kernel_rfl) rfl)
    (Each1_seq _ _ _ (by omega)) hi2 ht2 (by simp) (fun pre W => Boxed W (T + 1) 23 (.int .u32 (wN (orAll l w0 pre)))) (fun _ _ _ => False)
    (boxed_own _ _ _) (fun _ _ _ _ _ h _ _ => h) (fun s A v h => h.other (by omega) v) HA2.out ?assign ?body ?done (fun _ _ _ _ _ _ _ h _ => h.elim)
  case assign =>
    intro l' j W K hK
    simp only [List.setIfInBounds_toArray, List.set_cons_succ, List.set_cons_zero] at hK ⊢
    gi_wp2_with fail
    exact hK
  case body =>
    intro l' pre j W hh hi hpre
    have hjn : j < n := HBI.out j (by obtain ⟨z, hz⟩ := hpre; rw [← hz]; simp)
    have hjl : j < l.length := by rw [HL.out]; exact hjn
    have HH := Lib.hid hh
    have hbW := HB2.out.trans (hh.to (B := T) (by omega) (by simp))
    have hxW := hh.boxed HX2.out (by simp)
    obtain ⟨b, off, rfl, _, g1⟩ := (HR.out.below (hbW.mono hB)).at1 hjl
    rw [← lw_at l j hjl] at g1
    have c1 := hxW.cell
    have c2 := hi.cell
    have c3 := hi.frozen
    have HI := Lib.hid hi
    simp only [List.setIfInBounds_toArray, List.set_cons_succ, List.set_cons_zero]
    clear hh hbW hxW hi
    gi_wp2_with fail
    gi_region
    all_goals
      refine ⟨KeepsFrom.drew (KeepsFrom.box HI.out _), (KpE.setCell W ⟨T + 1, 0, none⟩ _ (by show T + 2 ≠ T + 1; omega) (by show 0 ≠ T + 1; omega)).drew, (HH.out.setCell (p := ⟨T + 1, 0, none⟩) (by simp) _).drew1, ?_⟩
      rw [orAll_app]
      exact Boxed.drew (HI.out.set _)
  case done =>
    intro D W hD hh hi hdef
    have hbW := Lib.hid (HB2.out.trans (hh.to (B := T) (by omega) (by simp)))
    have hmk := Lib.hid (hh.mark (Marks.nil T _) (by simp; exact ⟨⟨_, _, HA2.out⟩, ⟨_, _, HI2.out⟩⟩) (by omega) hD hdef)
    have c2 := hi.cell
    rw [HF.out] at c2
    clear hh hi hdef ht2 hi2
    gi_wp2_with fail
    refine bodyPostM_ret hmk.out fun w' hw' => ⟨.int .u32 (wN (orTo l s n)), by simp [results, Tryd.results44, go_sem], ?_⟩
    rw [← HT.out]
    exact ⟨rfl, hbW.out.trans hw'.1⟩
end Go.Proofs.YthopiaggnbkjbaaDoor
