/- What a net is told to be wrong: the program and the reference compute the one function netCheck. Conditions: the arcs read as a list. -/
import Derived.Test.YtodbhgbgeiailaaProg
import Derived.Test.YtodbhgbgeiailaaCommon
namespace Go.Proofs.Ytodbhgbgeiailaa
open Go.RowKit

structure Arc where
  f : Int
  t : Int
  m : Int
  e : Int
abbrev Arc.cells (a : Arc) : List Value := [.int .i64 a.f, .int .i64 a.t, .int .i64 a.m, .int .i64 a.e]
def Arc.of (p : Int × Int × Int × Int) : Arc := ⟨p.1, p.2.1, p.2.2.1, p.2.2.2⟩
def arcLoop (N : Int) : List Arc → Int
  | [] => 0
  | a :: l => if a.f < 0 ∨ N ≤ a.f ∨ a.t < 0 ∨ N ≤ a.t then 2 else if a.f = a.t then 3 else if a.m < 0 ∨ 1048576 < a.m ∨ a.e < -1048576 ∨ 1048576 < a.e then 4 else arcLoop N l
def netCheck (N : Int) (l : List Arc) : Int := if N < 0 ∨ 10 < N ∨ 30 < l.length then 1 else arcLoop N l
theorem net_round {N : Int} {l : List Arc} {k : Nat} (hk : k < l.length) (h : arcLoop N (l.drop k) = arcLoop N l) (a : Arc) (ha : a = l[k]) :
    arcLoop N l = if a.f < 0 ∨ N ≤ a.f ∨ a.t < 0 ∨ N ≤ a.t then 2 else if a.f = a.t then 3 else if a.m < 0 ∨ 1048576 < a.m ∨ a.e < -1048576 ∨ 1048576 < a.e then 4 else arcLoop N (l.drop (k + 1)) := by
  rw [← h, drop_at l k hk, arcLoop, ha]

set_option maxRecDepth 100000 in
set_option maxHeartbeats 1000000 in
theorem ref_NetCheck (N : Int) (A : Option Addr) (n c : Nat) (l : List Arc) (w : World) (hl : l.length = n) (hn : n ≤ maxLen) (hr : Els w w.heap.size 4 Arc.cells A l) :
    Calls Try.prog 46 #[.agg #[.int .i64 N, .slice A n c]] w fun e w' => e = .returned (.int .i64 (netCheck N l)) ∧ Below w.heap.size w w' := by
  unfold maxLen at hn
  have HN : Hid (netCheck N l = if N < 0 ∨ 10 < N ∨ 30 < n then 1 else arcLoop N l) := by subst hl; rfl
  have HL := Lib.hid hl
  clear hl
  go_enter Try.func46, Try.ntmps46
  go_wp2
  case' _ =>
    go_ret
    exact ⟨ret_i64 (by rw [HN.out, if_pos (by omega)]), (Below.refl _ _).alloc (Nat.le_refl _) _⟩
  case' _ =>
    go_loopw [22] (fun i wr => ∃ k : Nat, k ≤ n ∧ i = .int .i64 k ∧ Below w.heap.size w wr ∧ Blk wr w.heap.size 24 #[.int .i64 N, .slice A n c] ∧ arcLoop N (l.drop k) = arcLoop N l) (fun i _ => n - (intOf i).toNat)
    case atStart => exact ⟨0, by omega, rfl, (Below.refl _ _).alloc (Nat.le_refl _) _, Blk.new _ _ _, rfl⟩
    case round =>
      obtain ⟨k, hk, rfl, hb, hblk, hl⟩ := hrel
      have hsz := hb.size
      have hlt' := hblk.lt
      have hc0 := hblk.cell 0
      have hc1 := hblk.cell 1
      have HB := Lib.hid hblk
      clear hblk
      by_cases hlt : k < n
      · obtain ⟨b, off, rfl, hbb, g0, g1, g2, g3⟩ := (hr.below hb).at4 (k := k) (by rw [HL.out]; exact hlt)
        obtain ⟨a, ha⟩ : ∃ a, a = l[k]'(by rw [HL.out]; exact hlt) := ⟨_, rfl⟩
        have HR := Lib.hid (net_round (by rw [HL.out]; exact hlt) hl a ha)
        rw [← ha] at g0 g1 g2 g3
        have HK := Lib.hid hl
        clear ha hl hr
        go_wp2
        all_goals first
          | (go_ret
             exact ⟨ret_i64 (by
               rw [HN.out, if_neg (by omega), HR.out]
               try simp only [beq_iff_eq, beq_eq_false_iff_ne, ne_eq, Bool.not_eq_true', Bool.not_eq_false', decide_eq_true_eq, decide_eq_false_iff_not] at *
               repeat' split
               all_goals first | rfl | (exfalso; omega)), hb.alloc hsz _⟩)
          | (refine ⟨?rel, ?measure⟩
             case rel =>
               refine ⟨k + 1, by omega, by go_num, hb.alloc hsz _, HB.out.alloc _, ?_⟩
               rw [HR.out]
               try simp only [beq_iff_eq, beq_eq_false_iff_ne, ne_eq, Bool.not_eq_true', Bool.not_eq_false', decide_eq_true_eq, decide_eq_false_iff_not] at *
               repeat' split
               all_goals first | rfl | (exfalso; omega)
             case measure => simp [intOf]; omega)
      · have hl' : l.drop k = [] := List.drop_eq_nil_of_le (by rw [HL.out]; omega)
        rw [hl'] at hl
        have HK := Lib.hid hl
        clear hl
        go_wp2
        go_ret
        exact ⟨ret_i64 (by rw [HN.out, if_neg (by omega), ← HK.out]; rfl), hb⟩
  all_goals
    go_ret
    exact ⟨ret_i64 (by rw [HN.out, if_pos (by omega)]), (Below.refl _ _).alloc (Nat.le_refl _) _⟩
set_option maxRecDepth 100000 in
set_option maxHeartbeats 1000000 in
theorem flow_Check (N : Int) (A : Option Addr) (n c : Nat) (l : List Arc) (w : World) (hl : l.length = n) (hn : n ≤ maxLen) (hr : Els w w.heap.size 4 Arc.cells A l) :
    Calls Try.prog 75 #[.agg #[.int .i64 N, .slice A n c]] w fun e w' => e = .returned (.int .i64 (netCheck N l)) ∧ Below w.heap.size w w' := by
  unfold maxLen at hn
  have HN : Hid (netCheck N l = if N < 0 ∨ 10 < N ∨ 30 < n then 1 else arcLoop N l) := by subst hl; rfl
  have HL := Lib.hid hl
  clear hl
  go_enter Try.func75, Try.ntmps75
  go_wp2
  case' _ =>
    go_ret
    exact ⟨ret_i64 (by rw [HN.out, if_pos (by omega)]), (Below.refl _ _).alloc (Nat.le_refl _) _⟩
  case' _ =>
    go_loopw [24] (fun i wr => ∃ k : Nat, k ≤ n ∧ i = .int .i64 k ∧ Below w.heap.size w wr ∧ Blk wr w.heap.size 24 #[.int .i64 N, .slice A n c] ∧ arcLoop N (l.drop k) = arcLoop N l) (fun i _ => n - (intOf i).toNat)
    case atStart => exact ⟨0, by omega, rfl, (Below.refl _ _).alloc (Nat.le_refl _) _, Blk.new _ _ _, rfl⟩
    case round =>
      obtain ⟨k, hk, rfl, hb, hblk, hl⟩ := hrel
      have hsz := hb.size
      have hlt' := hblk.lt
      have hc0 := hblk.cell 0
      have hc1 := hblk.cell 1
      have HB := Lib.hid hblk
      clear hblk
      by_cases hlt : k < n
      · obtain ⟨b, off, rfl, hbb, g0, g1, g2, g3⟩ := (hr.below hb).at4 (k := k) (by rw [HL.out]; exact hlt)
        obtain ⟨a, ha⟩ : ∃ a, a = l[k]'(by rw [HL.out]; exact hlt) := ⟨_, rfl⟩
        have HR := Lib.hid (net_round (by rw [HL.out]; exact hlt) hl a ha)
        rw [← ha] at g0 g1 g2 g3
        have HK := Lib.hid hl
        clear ha hl hr
        go_wp2
        all_goals first
          | (go_ret
             exact ⟨ret_i64 (by
               rw [HN.out, if_neg (by omega), HR.out]
               try simp only [beq_iff_eq, beq_eq_false_iff_ne, ne_eq, Bool.not_eq_true', Bool.not_eq_false', decide_eq_true_eq, decide_eq_false_iff_not] at *
               repeat' split
               all_goals first | rfl | (exfalso; omega)), hb.alloc hsz _⟩)
          | (refine ⟨?rel, ?measure⟩
             case rel =>
               refine ⟨k + 1, by omega, by go_num, hb.alloc hsz _, HB.out.alloc _, ?_⟩
               rw [HR.out]
               try simp only [beq_iff_eq, beq_eq_false_iff_ne, ne_eq, Bool.not_eq_true', Bool.not_eq_false', decide_eq_true_eq, decide_eq_false_iff_not] at *
               repeat' split
               all_goals first | rfl | (exfalso; omega)
             case measure => simp [intOf]; omega)
      · have hl' : l.drop k = [] := List.drop_eq_nil_of_le (by rw [HL.out]; omega)
        rw [hl'] at hl
        have HK := Lib.hid hl
        clear hl
        go_wp2
        go_ret
        exact ⟨ret_i64 (by rw [HN.out, if_neg (by omega), ← HK.out]; rfl), hb⟩
  all_goals
    go_ret
    exact ⟨ret_i64 (by rw [HN.out, if_pos (by omega)]), (Below.refl _ _).alloc (Nat.le_refl _) _⟩
end Go.Proofs.Ytodbhgbgeiailaa
