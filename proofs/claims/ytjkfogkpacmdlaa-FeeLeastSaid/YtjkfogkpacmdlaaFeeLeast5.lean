/- What a net is told to be wrong: the program and the reference compute the one function netCheck. Conditions: the arcs read as a list. -/
import Derived.Test.YtjkfogkpacmdlaaProg
import Derived.Test.YtjkfogkpacmdlaaFeeLeast1
namespace Go.Proofs.Ytjkfogkpacmdlaa
open Go.RowKit

structure Arc where
  f : Int
  t : Int
  m : Int
  e : Int
abbrev Arc.cells (a : Arc) : List Value := [.int .i64 a.f, .int .i64 a.t, .int .i64 a.m, .int .i64 a.e]
def Arc.of (p : Int × Int × Int × Int) : Arc := ⟨p.1, p.2.1, p.2.2.1, p.2.2.2⟩
def arcLoop (N : Int) : List Arc → Int
  | [] => 0
  | a :: l => if a.f < 0 ∨ N ≤ a.f ∨ a.t < 0 ∨ N ≤ a.t then 2 else if a.f = a.t then 3 else if a.m < 0 ∨ 1048576 < a.m ∨ a.e < -1048576 ∨ 1048576 < a.e then 4 else arcLoop N l
def netCheck (N : Int) (l : List Arc) : Int := if N < 0 ∨ 10 < N ∨ 30 < l.length then 1 else arcLoop N l
theorem net_round {N : Int} {l : List Arc} {k : Nat} (hk : k < l.length) (h : arcLoop N (l.drop k) = arcLoop N l) (a : Arc) (ha : a = l[k]) :
    arcLoop N l = if a.f < 0 ∨ N ≤ a.f ∨ a.t < 0 ∨ N ≤ a.t then 2 else if a.f = a.t then 3 else if a.m < 0 ∨ 1048576 < a.m ∨ a.e < -1048576 ∨ 1048576 < a.e then 4 else arcLoop N (l.drop (k + 1)) := by
  rw [← h, drop_at l k hk, arcLoop, ha]

set_option maxRecDepth 100000 in
set_option maxHeartbeats 1000000 in
theorem ref_NetCheck (N : Int) (A : Option Addr) (n c : Nat) (l : List Arc) (w : World) (hl : l.length = n) (hn : n ≤ maxLen) (hr : Els w w.heap.size 4 Arc.cells A l) :
    Calls Try.prog 34 #[.agg #[.int .i64 N, .slice A n c]] w fun e w' => e = .returned (.int .i64 (netCheck N l)) ∧ Below w.heap.size w w' := by
  unfold maxLen at hn
  have HN : Hid (netCheck N l = if N < 0 ∨ 10 < N ∨ 30 < n then 1 else arcLoop N l) := by subst hl; rfl
  have HL := Lib.hid hl
  clear hl
  go_enter Try.func34, Try.ntmps34
  go_wp2
  case' _ =>
    go_ret
    exact ⟨ret_i64 (by rw [HN.out, if_pos (by omega)]), (Below.refl _ _).alloc (Nat.le_refl _) _⟩
  case' _ =>
    go_loopw [22] (fun i wr => ∃ k : Nat, k ≤ n ∧ i = .int .i64 k ∧ Below w.heap.size w wr ∧ Blk wr w.heap.size 39 #[.int .i64 N, .slice A n c] ∧ arcLoop N (l.drop k) = arcLoop N l) (fun i _ => n - (intOf i).toNat)
    case atStart => exact ⟨0, by omega, rfl, (Below.refl _ _).alloc (Nat.le_refl _) _, Blk.new _ _ _, rfl⟩
    case round =>
      obtain ⟨k, hk, rfl, hb, hblk, hl⟩ := hrel
      have hsz := hb.size
      have hlt' := hblk.lt
      have hc0 := hblk.cell 0
      have hc1 := hblk.cell 1
      have HB := Lib.hid hblk
      clear hblk
      by_cases hlt : k < n
      · obtain ⟨b, off, rfl, hbb, g0, g1, g2, g3⟩ := (hr.below hb).at4 (k := k) (by rw [HL.out]; exact hlt)
        obtain ⟨a, ha⟩ : ∃ a, a = l[k]'(by rw [HL.out]; exact hlt) := ⟨_, rfl⟩
        have HR := Lib.hid (net_round (by rw [HL.out]; exact hlt) hl a ha)
        rw [← ha] at g0 g1 g2 g3
        have HK := Lib.hid hl
        clear ha hl hr
        go_wp2
        all_goals first
          | (go_ret
             exact ⟨ret_i64 (by
               rw [HN.out, if_neg (by omega), HR.out]
               try simp only [beq_iff_eq, beq_eq_false_iff_ne, ne_eq, Bool.not_eq_true', Bool.not_eq_false', decide_eq_true_eq, decide_eq_false_iff_not] at *
               repeat' split
               all_goals first | rfl | (exfalso; omega)), hb.alloc hsz _⟩)
          | (refine ⟨?rel, ?measure⟩
             case rel =>
               refine ⟨k + 1, by omega, by go_num, hb.alloc hsz _, HB.out.alloc _, ?_⟩
               rw [HR.out]
               try simp only [beq_iff_eq, beq_eq_false_iff_ne, ne_eq, Bool.not_eq_true', Bool.not_eq_false', decide_eq_true_eq, decide_eq_false_iff_not] at *
               repeat' split
               all_goals first | rfl | (exfalso; omega)
             case measure => simp [intOf]; omega)
      · have hl' : l.drop k = [] := List.drop_eq_nil_of_le (by rw [HL.out]; omega)
        rw [hl'] at hl
        have HK := Lib.hid hl
        clear hl
        go_wp2
        go_ret
        exact ⟨ret_i64 (by rw [HN.out, if_neg (by omega), ← HK.out]; rfl), hb⟩
  all_goals
    go_ret
    exact ⟨ret_i64 (by rw [HN.out, if_pos (by omega)]), (Below.refl _ _).alloc (Nat.le_refl _) _⟩
set_option maxRecDepth 100000 in
set_option maxHeartbeats 1000000 in
theorem flow_Check (N : Int) (A : Option Addr) (n c : Nat) (l : List Arc) (w : World) (hl : l.length = n) (hn : n ≤ maxLen) (hr : Els w w.heap.size 4 Arc.cells A l) :
    Calls Try.prog 61 #[.agg #[.int .i64 N, .slice A n c]] w fun e w' => e = .returned (.int .i64 (netCheck N l)) ∧ Below w.heap.size w w' := by
  unfold maxLen at hn
  have HN : Hid (netCheck N l = if N < 0 ∨ 10 < N ∨ 30 < n then 1 else arcLoop N l) := by subst hl; rfl
  have HL := Lib.hid hl
  clear hl
  go_enter Try.func61, Try.ntmps61
  go_wp2
  case' _ =>
    go_ret
    exact ⟨ret_i64 (by rw [HN.out, if_pos (by omega)]), (Below.refl _ _).alloc (Nat.le_refl _) _⟩
  case' _ =>
    go_loopw [24] (fun i wr => ∃ k : Nat, k ≤ n ∧ i = .int .i64 k ∧ Below w.heap.size w wr ∧ Blk wr w.heap.size 39 #[.int .i64 N, .slice A n c] ∧ arcLoop N (l.drop k) = arcLoop N l) (fun i _ => n - (intOf i).toNat)
    case atStart => exact ⟨0, by omega, rfl, (Below.refl _ _).alloc (Nat.le_refl _) _, Blk.new _ _ _, rfl⟩
    case round =>
      obtain ⟨k, hk, rfl, hb, hblk, hl⟩ := hrel
      have hsz := hb.size
      have hlt' := hblk.lt
      have hc0 := hblk.cell 0
      have hc1 := hblk.cell 1
      have HB := Lib.hid hblk
      clear hblk
      by_cases hlt : k < n
      · obtain ⟨b, off, rfl, hbb, g0, g1, g2, g3⟩ := (hr.below hb).at4 (k := k) (by rw [HL.out]; exact hlt)
        obtain ⟨a, ha⟩ : ∃ a, a = l[k]'(by rw [HL.out]; exact hlt) := ⟨_, rfl⟩
        have HR := Lib.hid (net_round (by rw [HL.out]; exact hlt) hl a ha)
        rw [← ha] at g0 g1 g2 g3
        have HK := Lib.hid hl
        clear ha hl hr
        go_wp2
        all_goals first
          | (go_ret
             exact ⟨ret_i64 (by
               rw [HN.out, if_neg (by omega), HR.out]
               try simp only [beq_iff_eq, beq_eq_false_iff_ne, ne_eq, Bool.not_eq_true', Bool.not_eq_false', decide_eq_true_eq, decide_eq_false_iff_not] at *
               repeat' split
               all_goals first | rfl | (exfalso; omega)), hb.alloc hsz _⟩)
          | (refine ⟨?rel, ?measure⟩
             case rel =>
               refine ⟨k + 1, by omega, by go_num, hb.alloc hsz _, HB.out.alloc _, ?_⟩
               rw [HR.out]
               try simp only [beq_iff_eq, beq_eq_false_iff_ne, ne_eq, Bool.not_eq_true', Bool.not_eq_false', decide_eq_true_eq, decide_eq_false_iff_not] at *
               repeat' split
               all_goals first | rfl | (exfalso; omega)
             case measure => simp [intOf]; omega)
      · have hl' : l.drop k = [] := List.drop_eq_nil_of_le (by rw [HL.out]; omega)
        rw [hl'] at hl
        have HK := Lib.hid hl
        clear hl
        go_wp2
        go_ret
        exact ⟨ret_i64 (by rw [HN.out, if_neg (by omega), ← HK.out]; rfl), hb⟩
  all_goals
    go_ret
    exact ⟨ret_i64 (by rw [HN.out, if_pos (by omega)]), (Below.refl _ _).alloc (Nat.le_refl _) _⟩
end Go.Proofs.Ytjkfogkpacmdlaa

/- What is wrong with a net, or with two nodes: the program and the reference compute the one function endsCheck. Conditions: the arcs read as a list. -/
namespace Go.Proofs.Ytjkfogkpacmdlaa
open Go.RowKit

def endsCheck (N : Int) (l : List Arc) (s t : Int) : Int := if netCheck N l = 0 then (if s < 0 ∨ N ≤ s ∨ t < 0 ∨ N ≤ t ∨ s = t then 2 else 0) else netCheck N l

set_option maxRecDepth 100000 in
set_option maxHeartbeats 1000000 in
theorem flow_Ends (N s t : Int) (A : Option Addr) (n c : Nat) (l : List Arc) (w : World) (hl : l.length = n) (hn : n ≤ maxLen) (hr : Els w w.heap.size 4 Arc.cells A l) :
    Calls Try.prog 48 #[.agg #[.int .i64 N, .slice A n c], .int .i64 s, .int .i64 t] w fun e w' => e = .returned (.int .i64 (endsCheck N l s t)) ∧ Below w.heap.size w w' := by
  have HC : Hid (Calls Try.prog 61 #[.agg #[.int .i64 N, .slice A n c]] (w.alloc (.cells #[.int .i64 N, .slice A n c] 39)) fun e w' => e = .returned (.int .i64 (netCheck N l)) ∧ Below (w.heap.size + 1) (w.alloc (.cells #[.int .i64 N, .slice A n c] 39)) w') := by
    have := flow_Check N A n c l (w.alloc (.cells #[.int .i64 N, .slice A n c] 39)) hl hn ((hr.alloc (Nat.le_refl _) _).more (by rw [size_alloc']; omega))
    rwa [size_alloc'] at this
  have HB := Lib.hid ((Below.refl w.heap.size w).alloc (Nat.le_refl _) (.cells #[.int .i64 N, .slice A n c] 39))
  have HK := Lib.hid (Blk.new w 39 #[.int .i64 N, .slice A n c])
  clear hl hn hr
  go_enter Try.func48, Try.ntmps48
  go_wp2_with fail
  refine HC.out.mono ?_
  clear HC
  rintro e v1 ⟨rfl, hb⟩
  have HB1 := Lib.hid (HB.out.trans (hb.mono (by omega)))
  have c0 := (HK.out.below hb (by omega)).cell 0
  clear hb HB HK
  by_cases h0 : netCheck N l = 0
  · have HE : Hid (endsCheck N l s t = if s < 0 ∨ N ≤ s ∨ t < 0 ∨ N ≤ t ∨ s = t then 2 else 0) := if_pos h0
    rw [h0]
    clear h0
    go_wp2
    all_goals
      go_ret
      exact ⟨ret_i64 (by
        rw [HE.out]
        try simp only [beq_iff_eq, beq_eq_false_iff_ne, ne_eq, Bool.not_eq_true', Bool.not_eq_false', decide_eq_true_eq, decide_eq_false_iff_not] at *
        split
        all_goals first | rfl | (exfalso; omega)), HB1.out⟩
  · have HE : Hid (endsCheck N l s t = netCheck N l) := if_neg h0
    have h1 : (netCheck N l != 0) = true := by simpa using h0
    generalize netCheck N l = x at HE h1 h0
    clear h0
    go_wp2_with fail
    go_ret
    exact ⟨ret_i64 (by rw [HE.out]), HB1.out⟩

set_option maxRecDepth 100000 in
set_option maxHeartbeats 1000000 in
theorem ref_EndsCheck (N s t : Int) (A : Option Addr) (n c : Nat) (l : List Arc) (w : World) (hl : l.length = n) (hn : n ≤ maxLen) (hr : Els w w.heap.size 4 Arc.cells A l) :
    Calls Try.prog 13 #[.agg #[.int .i64 N, .slice A n c], .int .i64 s, .int .i64 t] w fun e w' => e = .returned (.int .i64 (endsCheck N l s t)) ∧ Below w.heap.size w w' := by
  have HC : Hid (Calls Try.prog 34 #[.agg #[.int .i64 N, .slice A n c]] (w.alloc (.cells #[.int .i64 N, .slice A n c] 39)) fun e w' => e = .returned (.int .i64 (netCheck N l)) ∧ Below (w.heap.size + 1) (w.alloc (.cells #[.int .i64 N, .slice A n c] 39)) w') := by
    have := ref_NetCheck N A n c l (w.alloc (.cells #[.int .i64 N, .slice A n c] 39)) hl hn ((hr.alloc (Nat.le_refl _) _).more (by rw [size_alloc']; omega))
    rwa [size_alloc'] at this
  have HB := Lib.hid ((Below.refl w.heap.size w).alloc (Nat.le_refl _) (.cells #[.int .i64 N, .slice A n c] 39))
  have HK := Lib.hid (Blk.new w 39 #[.int .i64 N, .slice A n c])
  clear hl hn hr
  go_enter Try.func13, Try.ntmps13
  go_wp2_with fail
  refine HC.out.mono ?_
  clear HC
  rintro e v1 ⟨rfl, hb⟩
  have HB1 := Lib.hid (HB.out.trans (hb.mono (by omega)))
  have c0 := (HK.out.below hb (by omega)).cell 0
  clear hb HB HK
  by_cases h0 : netCheck N l = 0
  · have HE : Hid (endsCheck N l s t = if s < 0 ∨ N ≤ s ∨ t < 0 ∨ N ≤ t ∨ s = t then 2 else 0) := if_pos h0
    rw [h0]
    clear h0
    by_cases h1 : s < 0
    · go_wp2_with fail
      go_ret
      exact ⟨ret_i64 (by rw [HE.out, if_pos (by omega)]), HB1.out⟩
    by_cases h2 : N ≤ s
    · go_wp2_with fail
      go_ret
      exact ⟨ret_i64 (by rw [HE.out, if_pos (by omega)]), HB1.out⟩
    by_cases h3 : t < 0
    · go_wp2_with fail
      go_ret
      exact ⟨ret_i64 (by rw [HE.out, if_pos (by omega)]), HB1.out⟩
    by_cases h4 : N ≤ t
    · go_wp2_with fail
      go_ret
      exact ⟨ret_i64 (by rw [HE.out, if_pos (by omega)]), HB1.out⟩
    by_cases h5 : s = t
    · have h5' : (s == t) = true := by simpa using h5
      have HE2 := Lib.hid (HE.out.trans (if_pos (by omega)))
      clear h5
      go_wp2_with fail
      go_ret
      exact ⟨ret_i64 (by rw [HE2.out]), HB1.out⟩
    · have h5' : (s == t) = false := by simpa using h5
      have HE2 := Lib.hid (HE.out.trans (if_neg (by omega)))
      clear h5
      go_wp2_with fail
      go_ret
      exact ⟨ret_i64 (by rw [HE2.out]), HB1.out⟩
  · have HE : Hid (endsCheck N l s t = netCheck N l) := if_neg h0
    have h1 : (netCheck N l == 0) = false := by simpa using h0
    generalize netCheck N l = x at HE h1 h0
    clear h0
    go_wp2_with fail
    go_ret
    exact ⟨ret_i64 (by rw [HE.out]), HB1.out⟩
end Go.Proofs.Ytjkfogkpacmdlaa
