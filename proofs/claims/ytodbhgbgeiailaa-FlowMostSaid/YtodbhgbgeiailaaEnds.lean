/- What is wrong with a net, or with two nodes: the program and the reference compute the one function endsCheck. Conditions: the arcs read as a list. -/
import Derived.Test.YtodbhgbgeiailaaNet
namespace Go.Proofs.Ytodbhgbgeiailaa
open Go.RowKit

def endsCheck (N : Int) (l : List Arc) (s t : Int) : Int := if netCheck N l = 0 then (if s < 0 ∨ N ≤ s ∨ t < 0 ∨ N ≤ t ∨ s = t then 2 else 0) else netCheck N l

set_option maxRecDepth 100000 in
set_option maxHeartbeats 1000000 in
theorem flow_Ends (N s t : Int) (A : Option Addr) (n c : Nat) (l : List Arc) (w : World) (hl : l.length = n) (hn : n ≤ maxLen) (hr : Els w w.heap.size 4 Arc.cells A l) :
    Calls Try.prog 44 #[.agg #[.int .i64 N, .slice A n c], .int .i64 s, .int .i64 t] w fun e w' => e = .returned (.int .i64 (endsCheck N l s t)) ∧ Below w.heap.size w w' := by
  have HC : Hid (Calls Try.prog 75 #[.agg #[.int .i64 N, .slice A n c]] (w.alloc (.cells #[.int .i64 N, .slice A n c] 24)) fun e w' => e = .returned (.int .i64 (netCheck N l)) ∧ Below (w.heap.size + 1) (w.alloc (.cells #[.int .i64 N, .slice A n c] 24)) w') := by
    have := flow_Check N A n c l (w.alloc (.cells #[.int .i64 N, .slice A n c] 24)) hl hn ((hr.alloc (Nat.le_refl _) _).more (by rw [size_alloc']; omega))
    rwa [size_alloc'] at this
  have HB := Lib.hid ((Below.refl w.heap.size w).alloc (Nat.le_refl _) (.cells #[.int .i64 N, .slice A n c] 24))
  have HK := Lib.hid (Blk.new w 24 #[.int .i64 N, .slice A n c])
  clear hl hn hr
  go_enter Try.func44, Try.ntmps44
  go_wp2_with fail
  refine HC.out.mono ?_
  clear HC
  rintro e v1 ⟨rfl, hb⟩
  have HB1 := Lib.hid (HB.out.trans (hb.mono (by omega)))
  have c0 := (HK.out.below hb (by omega)).cell 0
  clear hb HB HK
  by_cases h0 : netCheck N l = 0
  · have HE : Hid (endsCheck N l s t = if s < 0 ∨ N ≤ s ∨ t < 0 ∨ N ≤ t ∨ s = t then 2 else 0) := if_pos h0
    rw [h0]
    clear h0
    go_wp2
    all_goals
      go_ret
      exact ⟨ret_i64 (by
        rw [HE.out]
        try simp only [beq_iff_eq, beq_eq_false_iff_ne, ne_eq, Bool.not_eq_true', Bool.not_eq_false', decide_eq_true_eq, decide_eq_false_iff_not] at *
        split
        all_goals first | rfl | (exfalso; omega)), HB1.out⟩
  · have HE : Hid (endsCheck N l s t = netCheck N l) := if_neg h0
    have h1 : (netCheck N l != 0) = true := by simpa using h0
    generalize netCheck N l = x at HE h1 h0
    clear h0
    go_wp2_with fail
    go_ret
    exact ⟨ret_i64 (by rw [HE.out]), HB1.out⟩

set_option maxRecDepth 100000 in
set_option maxHeartbeats 1000000 in
theorem ref_EndsCheck (N s t : Int) (A : Option Addr) (n c : Nat) (l : List Arc) (w : World) (hl : l.length = n) (hn : n ≤ maxLen) (hr : Els w w.heap.size 4 Arc.cells A l) :
    Calls Try.prog 14 #[.agg #[.int .i64 N, .slice A n c], .int .i64 s, .int .i64 t] w fun e w' => e = .returned (.int .i64 (endsCheck N l s t)) ∧ Below w.heap.size w w' := by
  have HC : Hid (Calls Try.prog 46 #[.agg #[.int .i64 N, .slice A n c]] (w.alloc (.cells #[.int .i64 N, .slice A n c] 24)) fun e w' => e = .returned (.int .i64 (netCheck N l)) ∧ Below (w.heap.size + 1) (w.alloc (.cells #[.int .i64 N, .slice A n c] 24)) w') := by
    have := ref_NetCheck N A n c l (w.alloc (.cells #[.int .i64 N, .slice A n c] 24)) hl hn ((hr.alloc (Nat.le_refl _) _).more (by rw [size_alloc']; omega))
    rwa [size_alloc'] at this
  have HB := Lib.hid ((Below.refl w.heap.size w).alloc (Nat.le_refl _) (.cells #[.int .i64 N, .slice A n c] 24))
  have HK := Lib.hid (Blk.new w 24 #[.int .i64 N, .slice A n c])
  clear hl hn hr
  go_enter Try.func14, Try.ntmps14
  go_wp2_with fail
  refine HC.out.mono ?_
  clear HC
  rintro e v1 ⟨rfl, hb⟩
  have HB1 := Lib.hid (HB.out.trans (hb.mono (by omega)))
  have c0 := (HK.out.below hb (by omega)).cell 0
  clear hb HB HK
  by_cases h0 : netCheck N l = 0
  · have HE : Hid (endsCheck N l s t = if s < 0 ∨ N ≤ s ∨ t < 0 ∨ N ≤ t ∨ s = t then 2 else 0) := if_pos h0
    rw [h0]
    clear h0
    by_cases h1 : s < 0
    · go_wp2_with fail
      go_ret
      exact ⟨ret_i64 (by rw [HE.out, if_pos (by omega)]), HB1.out⟩
    by_cases h2 : N ≤ s
    · go_wp2_with fail
      go_ret
      exact ⟨ret_i64 (by rw [HE.out, if_pos (by omega)]), HB1.out⟩
    by_cases h3 : t < 0
    · go_wp2_with fail
      go_ret
      exact ⟨ret_i64 (by rw [HE.out, if_pos (by omega)]), HB1.out⟩
    by_cases h4 : N ≤ t
    · go_wp2_with fail
      go_ret
      exact ⟨ret_i64 (by rw [HE.out, if_pos (by omega)]), HB1.out⟩
    by_cases h5 : s = t
    · have h5' : (s == t) = true := by simpa using h5
      have HE2 := Lib.hid (HE.out.trans (if_pos (by omega)))
      clear h5
      go_wp2_with fail
      go_ret
      exact ⟨ret_i64 (by rw [HE2.out]), HB1.out⟩
    · have h5' : (s == t) = false := by simpa using h5
      have HE2 := Lib.hid (HE.out.trans (if_neg (by omega)))
      clear h5
      go_wp2_with fail
      go_ret
      exact ⟨ret_i64 (by rw [HE2.out]), HB1.out⟩
  · have HE : Hid (endsCheck N l s t = netCheck N l) := if_neg h0
    have h1 : (netCheck N l == 0) = false := by simpa using h0
    generalize netCheck N l = x at HE h1 h0
    clear h0
    go_wp2_with fail
    go_ret
    exact ⟨ret_i64 (by rw [HE.out]), HB1.out⟩
end Go.Proofs.Ytodbhgbgeiailaa
