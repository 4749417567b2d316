/- What a net is told to be wrong: the program and the reference compute the one function netCheck. Conditions: the arcs read as a list. -/
import Derived.Test.YtdinknpagklkjaaProg
import Derived.Test.YtdinknpagklkjaaLotsBests1
import Derived.Test.YtdinknpagklkjaaLotsBests2
import Derived.Test.YtdinknpagklkjaaLotsBests3
import Derived.Test.YtdinknpagklkjaaLotsBests6
import Derived.BigQuiet
import Derived.IntWalk
namespace Go.Proofs.Ytdinknpagklkjaa
open Go.RowKit

structure Arc where
  f : Int
  t : Int
  m : Int
  e : Int
abbrev Arc.cells (a : Arc) : List Value := [.int .i64 a.f, .int .i64 a.t, .int .i64 a.m, .int .i64 a.e]
def Arc.of (p : Int × Int × Int × Int) : Arc := ⟨p.1, p.2.1, p.2.2.1, p.2.2.2⟩
def arcLoop (N : Int) : List Arc → Int
  | [] => 0
  | a :: l => if a.f < 0 ∨ N ≤ a.f ∨ a.t < 0 ∨ N ≤ a.t then 2 else if a.f = a.t then 3 else if a.m < 0 ∨ 1048576 < a.m ∨ a.e < -1048576 ∨ 1048576 < a.e then 4 else arcLoop N l
def netCheck (N : Int) (l : List Arc) : Int := if N < 0 ∨ 10 < N ∨ 30 < l.length then 1 else arcLoop N l
theorem net_round {N : Int} {l : List Arc} {k : Nat} (hk : k < l.length) (h : arcLoop N (l.drop k) = arcLoop N l) (a : Arc) (ha : a = l[k]) :
    arcLoop N l = if a.f < 0 ∨ N ≤ a.f ∨ a.t < 0 ∨ N ≤ a.t then 2 else if a.f = a.t then 3 else if a.m < 0 ∨ 1048576 < a.m ∨ a.e < -1048576 ∨ 1048576 < a.e then 4 else arcLoop N (l.drop (k + 1)) := by
  rw [← h, drop_at l k hk, arcLoop, ha]

set_option maxRecDepth 100000 in
set_option maxHeartbeats 1000000 in
theorem ref_NetCheck (N : Int) (A : Option Addr) (n c : Nat) (l : List Arc) (w : World) (hl : l.length = n) (hn : n ≤ maxLen) (hr : Els w w.heap.size 4 Arc.cells A l) :
    Calls Try.prog 61 #[.agg #[.int .i64 N, .slice A n c]] w fun e w' => e = .returned (.int .i64 (netCheck N l)) ∧ Below w.heap.size w w' := by
  unfold maxLen at hn
  have HN : Hid (netCheck N l = if N < 0 ∨ 10 < N ∨ 30 < n then 1 else arcLoop N l) := by subst hl; rfl
  have HL := Lib.hid hl
  clear hl
  go_enter Try.func61, Try.ntmps61
  go_wp2
  case' _ =>
    go_ret
    exact ⟨ret_i64 (by rw [HN.out, if_pos (by omega)]), (Below.refl _ _).alloc (Nat.le_refl _) _⟩
  case' _ =>
    go_loopw [22] (fun i wr => ∃ k : Nat, k ≤ n ∧ i = .int .i64 k ∧ Below w.heap.size w wr ∧ Blk wr w.heap.size 64 #[.int .i64 N, .slice A n c] ∧ arcLoop N (l.drop k) = arcLoop N l) (fun i _ => n - (intOf i).toNat)
    case atStart => exact ⟨0, by omega, rfl, (Below.refl _ _).alloc (Nat.le_refl _) _, Blk.new _ _ _, rfl⟩
    case round =>
      obtain ⟨k, hk, rfl, hb, hblk, hl⟩ := hrel
      have hsz := hb.size
      have hlt' := hblk.lt
      have hc0 := hblk.cell 0
      have hc1 := hblk.cell 1
      have HB := Lib.hid hblk
      clear hblk
      by_cases hlt : k < n
      · obtain ⟨b, off, rfl, hbb, g0, g1, g2, g3⟩ := (hr.below hb).at4 (k := k) (by rw [HL.out]; exact hlt)
        obtain ⟨a, ha⟩ : ∃ a, a = l[k]'(by rw [HL.out]; exact hlt) := ⟨_, rfl⟩
        have HR := Lib.hid (net_round (by rw [HL.out]; exact hlt) hl a ha)
        rw [← ha] at g0 g1 g2 g3
        have HK := Lib.hid hl
        clear ha hl hr
        go_wp2
        all_goals first
          | (go_ret
             exact ⟨ret_i64 (by
               rw [HN.out, if_neg (by omega), HR.out]
               try simp only [beq_iff_eq, beq_eq_false_iff_ne, ne_eq, Bool.not_eq_true', Bool.not_eq_false', decide_eq_true_eq, decide_eq_false_iff_not] at *
               repeat' split
               all_goals first | rfl | (exfalso; omega)), hb.alloc hsz _⟩)
          | (refine ⟨?rel, ?measure⟩
             case rel =>
               refine ⟨k + 1, by omega, by go_num, hb.alloc hsz _, HB.out.alloc _, ?_⟩
               rw [HR.out]
               try simp only [beq_iff_eq, beq_eq_false_iff_ne, ne_eq, Bool.not_eq_true', Bool.not_eq_false', decide_eq_true_eq, decide_eq_false_iff_not] at *
               repeat' split
               all_goals first | rfl | (exfalso; omega)
             case measure => simp [intOf]; omega)
      · have hl' : l.drop k = [] := List.drop_eq_nil_of_le (by rw [HL.out]; omega)
        rw [hl'] at hl
        have HK := Lib.hid hl
        clear hl
        go_wp2
        go_ret
        exact ⟨ret_i64 (by rw [HN.out, if_neg (by omega), ← HK.out]; rfl), hb⟩
  all_goals
    go_ret
    exact ⟨ret_i64 (by rw [HN.out, if_pos (by omega)]), (Below.refl _ _).alloc (Nat.le_refl _) _⟩
set_option maxRecDepth 100000 in
set_option maxHeartbeats 1000000 in
theorem flow_Check (N : Int) (A : Option Addr) (n c : Nat) (l : List Arc) (w : World) (hl : l.length = n) (hn : n ≤ maxLen) (hr : Els w w.heap.size 4 Arc.cells A l) :
    Calls Try.prog 123 #[.agg #[.int .i64 N, .slice A n c]] w fun e w' => e = .returned (.int .i64 (netCheck N l)) ∧ Below w.heap.size w w' := by
  unfold maxLen at hn
  have HN : Hid (netCheck N l = if N < 0 ∨ 10 < N ∨ 30 < n then 1 else arcLoop N l) := by subst hl; rfl
  have HL := Lib.hid hl
  clear hl
  go_enter Try.func123, Try.ntmps123
  go_wp2
  case' _ =>
    go_ret
    exact ⟨ret_i64 (by rw [HN.out, if_pos (by omega)]), (Below.refl _ _).alloc (Nat.le_refl _) _⟩
  case' _ =>
    go_loopw [24] (fun i wr => ∃ k : Nat, k ≤ n ∧ i = .int .i64 k ∧ Below w.heap.size w wr ∧ Blk wr w.heap.size 64 #[.int .i64 N, .slice A n c] ∧ arcLoop N (l.drop k) = arcLoop N l) (fun i _ => n - (intOf i).toNat)
    case atStart => exact ⟨0, by omega, rfl, (Below.refl _ _).alloc (Nat.le_refl _) _, Blk.new _ _ _, rfl⟩
    case round =>
      obtain ⟨k, hk, rfl, hb, hblk, hl⟩ := hrel
      have hsz := hb.size
      have hlt' := hblk.lt
      have hc0 := hblk.cell 0
      have hc1 := hblk.cell 1
      have HB := Lib.hid hblk
      clear hblk
      by_cases hlt : k < n
      · obtain ⟨b, off, rfl, hbb, g0, g1, g2, g3⟩ := (hr.below hb).at4 (k := k) (by rw [HL.out]; exact hlt)
        obtain ⟨a, ha⟩ : ∃ a, a = l[k]'(by rw [HL.out]; exact hlt) := ⟨_, rfl⟩
        have HR := Lib.hid (net_round (by rw [HL.out]; exact hlt) hl a ha)
        rw [← ha] at g0 g1 g2 g3
        have HK := Lib.hid hl
        clear ha hl hr
        go_wp2
        all_goals first
          | (go_ret
             exact ⟨ret_i64 (by
               rw [HN.out, if_neg (by omega), HR.out]
               try simp only [beq_iff_eq, beq_eq_false_iff_ne, ne_eq, Bool.not_eq_true', Bool.not_eq_false', decide_eq_true_eq, decide_eq_false_iff_not] at *
               repeat' split
               all_goals first | rfl | (exfalso; omega)), hb.alloc hsz _⟩)
          | (refine ⟨?rel, ?measure⟩
             case rel =>
               refine ⟨k + 1, by omega, by go_num, hb.alloc hsz _, HB.out.alloc _, ?_⟩
               rw [HR.out]
               try simp only [beq_iff_eq, beq_eq_false_iff_ne, ne_eq, Bool.not_eq_true', Bool.not_eq_false', decide_eq_true_eq, decide_eq_false_iff_not] at *
               repeat' split
               all_goals first | rfl | (exfalso; omega)
             case measure => simp [intOf]; omega)
      · have hl' : l.drop k = [] := List.drop_eq_nil_of_le (by rw [HL.out]; omega)
        rw [hl'] at hl
        have HK := Lib.hid hl
        clear hl
        go_wp2
        go_ret
        exact ⟨ret_i64 (by rw [HN.out, if_neg (by omega), ← HK.out]; rfl), hb⟩
  all_goals
    go_ret
    exact ⟨ret_i64 (by rw [HN.out, if_pos (by omega)]), (Below.refl _ _).alloc (Nat.le_refl _) _⟩
end Go.Proofs.Ytdinknpagklkjaa

/- What is wrong with a net, or with two nodes: the program and the reference compute the one function endsCheck. Conditions: the arcs read as a list. -/
namespace Go.Proofs.Ytdinknpagklkjaa
open Go.RowKit

def endsCheck (N : Int) (l : List Arc) (s t : Int) : Int := if netCheck N l = 0 then (if s < 0 ∨ N ≤ s ∨ t < 0 ∨ N ≤ t ∨ s = t then 2 else 0) else netCheck N l

set_option maxRecDepth 100000 in
set_option maxHeartbeats 1000000 in
theorem flow_Ends (N s t : Int) (A : Option Addr) (n c : Nat) (l : List Arc) (w : World) (hl : l.length = n) (hn : n ≤ maxLen) (hr : Els w w.heap.size 4 Arc.cells A l) :
    Calls Try.prog 97 #[.agg #[.int .i64 N, .slice A n c], .int .i64 s, .int .i64 t] w fun e w' => e = .returned (.int .i64 (endsCheck N l s t)) ∧ Below w.heap.size w w' := by
  have HC : Hid (Calls Try.prog 123 #[.agg #[.int .i64 N, .slice A n c]] (w.alloc (.cells #[.int .i64 N, .slice A n c] 64)) fun e w' => e = .returned (.int .i64 (netCheck N l)) ∧ Below (w.heap.size + 1) (w.alloc (.cells #[.int .i64 N, .slice A n c] 64)) w') := by
    have := flow_Check N A n c l (w.alloc (.cells #[.int .i64 N, .slice A n c] 64)) hl hn ((hr.alloc (Nat.le_refl _) _).more (by rw [size_alloc']; omega))
    rwa [size_alloc'] at this
  have HB := Lib.hid ((Below.refl w.heap.size w).alloc (Nat.le_refl _) (.cells #[.int .i64 N, .slice A n c] 64))
  have HK := Lib.hid (Blk.new w 64 #[.int .i64 N, .slice A n c])
  clear hl hn hr
  go_enter Try.func97, Try.ntmps97
  go_wp2_with fail
  refine HC.out.mono ?_
  clear HC
  rintro e v1 ⟨rfl, hb⟩
  have HB1 := Lib.hid (HB.out.trans (hb.mono (by omega)))
  have c0 := (HK.out.below hb (by omega)).cell 0
  clear hb HB HK
  by_cases h0 : netCheck N l = 0
  · have HE : Hid (endsCheck N l s t = if s < 0 ∨ N ≤ s ∨ t < 0 ∨ N ≤ t ∨ s = t then 2 else 0) := if_pos h0
    rw [h0]
    clear h0
    go_wp2
    all_goals
      go_ret
      exact ⟨ret_i64 (by
        rw [HE.out]
        try simp only [beq_iff_eq, beq_eq_false_iff_ne, ne_eq, Bool.not_eq_true', Bool.not_eq_false', decide_eq_true_eq, decide_eq_false_iff_not] at *
        split
        all_goals first | rfl | (exfalso; omega)), HB1.out⟩
  · have HE : Hid (endsCheck N l s t = netCheck N l) := if_neg h0
    have h1 : (netCheck N l != 0) = true := by simpa using h0
    generalize netCheck N l = x at HE h1 h0
    clear h0
    go_wp2_with fail
    go_ret
    exact ⟨ret_i64 (by rw [HE.out]), HB1.out⟩

set_option maxRecDepth 100000 in
set_option maxHeartbeats 1000000 in
theorem ref_EndsCheck (N s t : Int) (A : Option Addr) (n c : Nat) (l : List Arc) (w : World) (hl : l.length = n) (hn : n ≤ maxLen) (hr : Els w w.heap.size 4 Arc.cells A l) :
    Calls Try.prog 30 #[.agg #[.int .i64 N, .slice A n c], .int .i64 s, .int .i64 t] w fun e w' => e = .returned (.int .i64 (endsCheck N l s t)) ∧ Below w.heap.size w w' := by
  have HC : Hid (Calls Try.prog 61 #[.agg #[.int .i64 N, .slice A n c]] (w.alloc (.cells #[.int .i64 N, .slice A n c] 64)) fun e w' => e = .returned (.int .i64 (netCheck N l)) ∧ Below (w.heap.size + 1) (w.alloc (.cells #[.int .i64 N, .slice A n c] 64)) w') := by
    have := ref_NetCheck N A n c l (w.alloc (.cells #[.int .i64 N, .slice A n c] 64)) hl hn ((hr.alloc (Nat.le_refl _) _).more (by rw [size_alloc']; omega))
    rwa [size_alloc'] at this
  have HB := Lib.hid ((Below.refl w.heap.size w).alloc (Nat.le_refl _) (.cells #[.int .i64 N, .slice A n c] 64))
  have HK := Lib.hid (Blk.new w 64 #[.int .i64 N, .slice A n c])
  clear hl hn hr
  go_enter Try.func30, Try.ntmps30
  go_wp2_with fail
  refine HC.out.mono ?_
  clear HC
  rintro e v1 ⟨rfl, hb⟩
  have HB1 := Lib.hid (HB.out.trans (hb.mono (by omega)))
  have c0 := (HK.out.below hb (by omega)).cell 0
  clear hb HB HK
  by_cases h0 : netCheck N l = 0
  · have HE : Hid (endsCheck N l s t = if s < 0 ∨ N ≤ s ∨ t < 0 ∨ N ≤ t ∨ s = t then 2 else 0) := if_pos h0
    rw [h0]
    clear h0
    by_cases h1 : s < 0
    · go_wp2_with fail
      go_ret
      exact ⟨ret_i64 (by rw [HE.out, if_pos (by omega)]), HB1.out⟩
    by_cases h2 : N ≤ s
    · go_wp2_with fail
      go_ret
      exact ⟨ret_i64 (by rw [HE.out, if_pos (by omega)]), HB1.out⟩
    by_cases h3 : t < 0
    · go_wp2_with fail
      go_ret
      exact ⟨ret_i64 (by rw [HE.out, if_pos (by omega)]), HB1.out⟩
    by_cases h4 : N ≤ t
    · go_wp2_with fail
      go_ret
      exact ⟨ret_i64 (by rw [HE.out, if_pos (by omega)]), HB1.out⟩
    by_cases h5 : s = t
    · have h5' : (s == t) = true := by simpa using h5
      have HE2 := Lib.hid (HE.out.trans (if_pos (by omega)))
      clear h5
      go_wp2_with fail
      go_ret
      exact ⟨ret_i64 (by rw [HE2.out]), HB1.out⟩
    · have h5' : (s == t) = false := by simpa using h5
      have HE2 := Lib.hid (HE.out.trans (if_neg (by omega)))
      clear h5
      go_wp2_with fail
      go_ret
      exact ⟨ret_i64 (by rw [HE2.out]), HB1.out⟩
  · have HE : Hid (endsCheck N l s t = netCheck N l) := if_neg h0
    have h1 : (netCheck N l == 0) = false := by simpa using h0
    generalize netCheck N l = x at HE h1 h0
    clear h0
    go_wp2_with fail
    go_ret
    exact ⟨ret_i64 (by rw [HE.out]), HB1.out⟩
end Go.Proofs.Ytdinknpagklkjaa

/- The smallest cut: both walk the words, one up, one down. Conditions: the arcs read as a list; the net and the nodes are right. -/
namespace Go.Proofs.Ytdinknpagklkjaa
open Go.RowKit
attribute [local go_sem ↓] w_and w_or w_xor w_andNot w_and1 w_and255 w_xor1 w_or0 w_shl w_shl1 w_shr w_sub w_add w_sub1 w_add1
attribute [local go_sem] w_eq0 w_ne0 w_eq1 w_eq w_ne

def cutAt (x : BitVec 32) (a : Arc) : Bool := bitB x a.f && !bitB x a.t
def cutSum (x : BitVec 32) : List Arc → Int
  | [] => 0
  | a :: l => (if cutAt x a then a.m else 0) + cutSum x l
theorem cutSum_app (x : BitVec 32) (l r : List Arc) : cutSum x (l ++ r) = cutSum x l + cutSum x r := by
  induction l with
  | nil => simp [cutSum]
  | cons a l ih => simp only [List.cons_append, cutSum, ih]; omega
theorem cutSum_succ (x : BitVec 32) (l : List Arc) (k : Nat) (hk : k < l.length) : cutSum x (l.take (k + 1)) = cutSum x (l.take k) + if cutAt x l[k] then l[k].m else 0 := by
  rw [List.take_succ_eq_append_getElem hk, cutSum_app]
  simp [cutSum]
theorem cutSum_bounds (x : BitVec 32) (l : List Arc) (h : ∀ a ∈ l, 0 ≤ a.m ∧ a.m ≤ 1048576) : 0 ≤ cutSum x l ∧ cutSum x l ≤ 1048576 * l.length := by
  induction l with
  | nil => simp [cutSum]
  | cons a l ih =>
    have h1 := ih fun b hb => h b (by simp [hb])
    have h2 := h a (by simp)
    simp only [cutSum, List.length_cons]
    split <;> omega
structure NetOk (N : Nat) (l : List Arc) : Prop where
  small : N ≤ 10
  few : l.length ≤ 30
  arcs : ∀ a ∈ l, 0 ≤ a.f ∧ a.f < N ∧ 0 ≤ a.t ∧ a.t < N ∧ a.f ≠ a.t ∧ 0 ≤ a.m ∧ a.m ≤ 1048576 ∧ -1048576 ≤ a.e ∧ a.e ≤ 1048576
theorem arcLoop_ok {N : Int} : ∀ {l : List Arc}, arcLoop N l = 0 → ∀ a ∈ l, 0 ≤ a.f ∧ a.f < N ∧ 0 ≤ a.t ∧ a.t < N ∧ a.f ≠ a.t ∧ 0 ≤ a.m ∧ a.m ≤ 1048576 ∧ -1048576 ≤ a.e ∧ a.e ≤ 1048576
  | [], _, a, ha => by simp at ha
  | b :: l, h, a, ha => by
    rw [arcLoop] at h
    split at h
    · omega
    · split at h
      · omega
      · split at h
        · omega
        · rcases List.mem_cons.1 ha with rfl | ha
          · omega
          · exact arcLoop_ok h a ha
theorem net_ok {N : Int} {l : List Arc} (h : netCheck N l = 0) : ∃ M : Nat, N = M ∧ NetOk M l := by
  unfold netCheck at h
  split at h
  · omega
  · refine ⟨N.toNat, by omega, by omega, by omega, fun a ha => ?_⟩
    have := arcLoop_ok h a ha
    omega
theorem ends_ok {N : Int} {l : List Arc} {s t : Int} (h : endsCheck N l s t = 0) : netCheck N l = 0 ∧ ∃ M a b : Nat, N = M ∧ s = a ∧ t = b ∧ a < M ∧ b < M ∧ a ≠ b := by
  unfold endsCheck at h
  split at h
  · rename_i h0
    split at h
    · omega
    · obtain ⟨M, rfl, _⟩ := net_ok h0
      exact ⟨h0, M, s.toNat, t.toNat, rfl, by omega, by omega, by omega, by omega, by omega⟩
  · omega

set_option maxRecDepth 100000 in
set_option maxHeartbeats 1000000 in
theorem ref_CutSize (N : Nat) (x : BitVec 32) (A : Option Addr) (n c : Nat) (l : List Arc) (w : World) (hl : l.length = n) (hok : NetOk N l) (hr : Els w w.heap.size 4 Arc.cells A l) :
    Calls Try.prog 62 #[.agg #[.int .i64 N, .slice A n c], .int .u32 (wN x)] w fun e w' => e = .returned (.int .i64 (cutSum x l)) ∧ Below w.heap.size w w' := by
  have hn30 : n ≤ 30 := by rw [← hl]; exact hok.few
  have HL := Lib.hid hl
  have HOK := Lib.hid hok
  clear hl hok
  go_enter Try.func62, Try.ntmps62
  go_wp2_with fail
  go_loopw [11, 5] (fun i v wr => ∃ k : Nat, k ≤ n ∧ i = .int .i64 k ∧ v = .int .i64 (cutSum x (l.take k)) ∧ Below w.heap.size w wr) (fun i _ _ => n - (intOf i).toNat)
  case atStart => exact ⟨0, by omega, rfl, rfl, (Below.refl _ _).alloc (Nat.le_refl _) _⟩
  case round =>
    obtain ⟨k, hk, rfl, rfl, hb⟩ := hrel
    have hsz := hb.size
    by_cases hlt : k < n
    · have hkl : k < l.length := by rw [HL.out]; exact hlt
      obtain ⟨b, off, rfl, hbb, g0, g1, g2, g3⟩ := (hr.below hb).at4 hkl
      have hst := cutSum_succ x l k hkl
      have hbd := cutSum_bounds x (l.take k) fun a ha => by have := HOK.out.arcs a (List.mem_of_mem_take ha); omega
      have hlen : (l.take k).length = k := by simp; omega
      have harc := HOK.out.arcs l[k] (List.getElem_mem hkl)
      obtain ⟨a, ha⟩ : ∃ a, a = l[k] := ⟨_, rfl⟩
      rw [← ha] at g0 g1 g2 g3 hst harc
      obtain ⟨af, at_, am, ae⟩ := a
      simp only at g0 g1 g2 g3 harc
      rw [hlen] at hbd
      obtain ⟨z, hz⟩ : ∃ z, z = cutSum x (l.take k) := ⟨_, rfl⟩
      rw [← hz] at hst hbd ⊢
      have HST := Lib.hid hst
      have HB := Lib.hid hb
      clear ha hst hz hb hlen
      rcases q1 : bitB x af with _ | _
      · have HC : Hid (cutSum x (l.take (k + 1)) = z) := by
          show cutSum x (l.take (k + 1)) = z
          rw [HST.out]
          simp [cutAt, q1]
        have H1 := Lib.hid q1
        clear q1
        go_wp2_with fail
        refine (Bit_any x af _).mono ?_
        rintro e w' ⟨rfl, rfl⟩
        rw [H1.out]
        go_wp2_with fail
        go_roundw
        case rel => exact ⟨k + 1, by omega, by go_num, by rw [HC.out], HB.out.alloc hsz _⟩
        case measure => simp [intOf]; omega
      · rcases q2 : bitB x at_ with _ | _
        · have HC : Hid (cutSum x (l.take (k + 1)) = z + am) := by
            show cutSum x (l.take (k + 1)) = z + am
            rw [HST.out]
            simp [cutAt, q1, q2]
          have H1 := Lib.hid q1
          have H2 := Lib.hid q2
          clear q1 q2
          go_wp2_with fail
          refine (Bit_any x af _).mono ?_
          rintro e w' ⟨rfl, rfl⟩
          rw [H1.out]
          go_wp2_with fail
          refine (Bit_any x at_ _).mono ?_
          rintro e w' ⟨rfl, rfl⟩
          rw [H2.out]
          go_wp2_with fail
          go_roundw
          case rel => exact ⟨k + 1, by omega, by go_num, by rw [HC.out], HB.out.alloc hsz _⟩
          case measure => simp [intOf]; omega
        · have HC : Hid (cutSum x (l.take (k + 1)) = z) := by
            show cutSum x (l.take (k + 1)) = z
            rw [HST.out]
            simp [cutAt, q1, q2]
          have H1 := Lib.hid q1
          have H2 := Lib.hid q2
          clear q1 q2
          go_wp2_with fail
          refine (Bit_any x af _).mono ?_
          rintro e w' ⟨rfl, rfl⟩
          rw [H1.out]
          go_wp2_with fail
          refine (Bit_any x at_ _).mono ?_
          rintro e w' ⟨rfl, rfl⟩
          rw [H2.out]
          go_wp2_with fail
          go_roundw
          case rel => exact ⟨k + 1, by omega, by go_num, by rw [HC.out], HB.out.alloc hsz _⟩
          case measure => simp [intOf]; omega
    · obtain rfl : k = n := by omega
      have hall : l.take k = l := List.take_of_length_le (by rw [HL.out]; omega)
      rw [hall]
      clear hall
      go_wp2_with fail
      go_ret
      exact ⟨rfl, hb⟩
end Go.Proofs.Ytdinknpagklkjaa

/- A row that was made. Conditions: none. -/
namespace Go.Proofs.Ytdinknpagklkjaa
open Go.RowKit

theorem made_flat {α : Type} (f : α → Value) (x0 : α) (n : Nat) : (madeCells #[f x0] n).toList = (List.replicate n x0).flatMap fun a => [f a] := by
  rw [flat1, List.map_replicate]
  apply List.ext_getElem
  · simp [size_madeCells]
  · intro j h1 h2
    simp only [List.getElem_replicate]
    unfold madeCells
    have : j % 1 = 0 := Nat.mod_one j
    simp [this]
theorem Own.block1 {α : Type} {w : World} {B g : Nat} {e : TypeId} {f : α → Value} {x0 : α} {n : Nat} (h : w.heap[g]? = some (.cells (madeCells #[f x0] n) e)) (hm : n ≤ maxLen) (hB : B ≤ g) : Own w B e 1 (fun a => [f a]) (some ⟨g, 0, none⟩) n (List.replicate n x0) := by
  have hys := made_flat f x0 n
  have hlen : ((List.replicate n x0).flatMap fun a => [f a]).length = (List.replicate n x0).length * 1 := by rw [flat1]; simp
  refine ⟨fun _ => rfl, hlen, .inr ⟨g, _, madeCells #[f x0] n, by simp, hB, h, ?_, hm, ?_, ?_⟩⟩
  · simp
  · rw [size_madeCells]; simp
  · rw [← hys]
    have : (madeCells #[f x0] n).toList.length = n := by simp [size_madeCells]
    rw [List.take_of_length_le]
    rw [this]; simp
theorem Own.at_ {α : Type} {w : World} {B g cap k : Nat} {e : TypeId} {f : α → Value} {l : List α} (h : Own w B e 1 (fun a => [f a]) (some ⟨g, 0, none⟩) cap l) (hk : k < l.length) : w.cell? ⟨g, k, none⟩ = some (f l[k]) ∧ w.frozen? ⟨g, k, none⟩ = false := by
  obtain ⟨g', hg, _, _, h1, h2⟩ := h.cell1 hk
  obtain rfl : g = g' := by simpa using hg
  exact ⟨h1, h2⟩
end Go.Proofs.Ytdinknpagklkjaa

/- A net and what goes: how much more may go by a step, and what it costs. Conditions: the arcs and what goes read as lists. -/
namespace Go.Proofs.Ytdinknpagklkjaa
open Go.RowKit

/-- A step's room, and its two ends. -/
def roomS (a : Arc) (g : Int) (b : Bool) : Int := if b then g else a.m - g
def fromS (a : Arc) (b : Bool) : Int := if b then a.t else a.f
def toS (a : Arc) (b : Bool) : Int := if b then a.f else a.t
def costS (a : Arc) (b : Bool) : Int := if b then -a.e else a.e
/-- A net that is open: its pointer. -/
def Opened (W : World) (B P : Nat) (N : Nat) (A : Option Addr) (m c : Nat) (G : Option Addr) (cg : Nat) (l : List Arc) (gs : List Int) : Prop :=
  Blk W P 119 #[.int .i64 N, .slice A m c, .slice G m cg] ∧ Els W B 4 Arc.cells A l ∧ Els W B 1 icell G gs ∧ l.length = m ∧ gs.length = m
theorem Opened.below {W W' : World} {B P N : Nat} {A : Option Addr} {m c : Nat} {G : Option Addr} {cg : Nat} {l : List Arc} {gs : List Int} (h : Opened W B P N A m c G cg l gs) (hb : Below B W W') (hP : P < B) : Opened W' B P N A m c G cg l gs :=
  ⟨h.1.below hb hP, h.2.1.below hb, h.2.2.1.below hb, h.2.2.2⟩
theorem Opened.drew {W : World} {B P N : Nat} {A : Option Addr} {m c : Nat} {G : Option Addr} {cg : Nat} {l : List Arc} {gs : List Int} (h : Opened W B P N A m c G cg l gs) : Opened W.drew B P N A m c G cg l gs :=
  ⟨h.1.drew, h.2.1.below (Below.refl B W).drew, h.2.2.1.below (Below.refl B W).drew, h.2.2.2⟩

set_option maxRecDepth 100000 in
set_option maxHeartbeats 1000000 in
theorem flow_Room (B P N : Nat) (A : Option Addr) (m c : Nat) (G : Option Addr) (cg : Nat) (l : List Arc) (gs : List Int) (i : Nat) (b : Bool) (w : World) (h : Opened w B P N A m c G cg l gs) (hi : i < m) (hm : m ≤ 100000) (hP : P < w.heap.size) (hB : B ≤ w.heap.size) (hw : 0 ≤ gs.getD i 0 ∧ gs.getD i 0 ≤ (l.getD i ⟨0, 0, 0, 0⟩).m ∧ (l.getD i ⟨0, 0, 0, 0⟩).m ≤ 1048576) :
    Calls Try.prog 59 #[.pointer (some ⟨P, 0, none⟩), .agg #[.int .i64 i, .bool b]] w fun e w' => e = .returned (.tuple #[.int .i64 (roomS (l.getD i ⟨0, 0, 0, 0⟩) (gs.getD i 0) b), .int .i64 (fromS (l.getD i ⟨0, 0, 0, 0⟩) b), .int .i64 (toS (l.getD i ⟨0, 0, 0, 0⟩) b)]) ∧ Below w.heap.size w w' := by
  obtain ⟨hk, hra, hrg, hl, hg⟩ := h
  obtain ⟨b0, off0, rfl, hb0, a0, a1, a2, a3⟩ := (hra.below ((Below.refl B w).alloc hB (.cells #[.int .i64 i, .bool b] 116))).at4 (k := i) (by rw [hl]; exact hi)
  obtain ⟨b1, off1, rfl, hb1, g0⟩ := (hrg.below ((Below.refl B w).alloc hB (.cells #[.int .i64 i, .bool b] 116))).at1 (k := i) (by rw [hg]; exact hi)
  rw [← getD_at l i (by rw [hl]; exact hi) ⟨0, 0, 0, 0⟩] at a0 a1 a2 a3
  rw [← getD_at gs i (by rw [hg]; exact hi) 0] at g0
  obtain ⟨a, ha⟩ : ∃ a, a = l.getD i ⟨0, 0, 0, 0⟩ := ⟨_, rfl⟩
  obtain ⟨g, hgg⟩ : ∃ g, g = gs.getD i 0 := ⟨_, rfl⟩
  rw [← ha] at a0 a1 a2 a3 hw ⊢
  rw [← hgg] at g0 hw ⊢
  obtain ⟨af, at_, am, ae⟩ := a
  simp only at hw
  have hk1 := hk.alloc (.cells #[.int .i64 i, .bool b] 116)
  have hs1 := Blk.new w 116 #[.int .i64 i, .bool b]
  obtain ⟨V, hV⟩ : ∃ V, V = w.alloc (.cells #[.int .i64 i, .bool b] 116) := ⟨_, rfl⟩
  have hzV : V.heap.size = w.heap.size + 1 := by rw [hV, size_alloc']
  rw [← hV] at a0 a1 a2 a3 g0 hk1 hs1
  have HZV := Lib.hid hzV
  have HF : Hid (∀ w', Below V.heap.size V w' → w'.cell? ⟨b0, off0 + i * 4, none⟩ = some (.int .i64 af) ∧ w'.cell? ⟨b0, off0 + i * 4 + 1, none⟩ = some (.int .i64 at_) ∧ w'.cell? ⟨b0, off0 + i * 4 + 2, none⟩ = some (.int .i64 am) ∧ w'.cell? ⟨b0, off0 + i * 4 + 3, none⟩ = some (.int .i64 ae) ∧ w'.cell? ⟨b1, off1 + i, none⟩ = some (.int .i64 g) ∧
      w'.cell? ⟨P, 0, none⟩ = some (.int .i64 N) ∧ w'.cell? ⟨P, 1, none⟩ = some (.slice (some ⟨b0, off0, none⟩) m c) ∧ w'.cell? ⟨P, 2, none⟩ = some (.slice (some ⟨b1, off1, none⟩) m cg) ∧ w'.cell? ⟨w.heap.size, 0, none⟩ = some (.int .i64 i) ∧ w'.cell? ⟨w.heap.size, 1, none⟩ = some (.bool b)) := Lib.hid (fun w' hb =>
    ⟨(hb.cell (by show b0 < _; omega)).trans a0, (hb.cell (by show b0 < _; omega)).trans a1, (hb.cell (by show b0 < _; omega)).trans a2, (hb.cell (by show b0 < _; omega)).trans a3, (hb.cell (by show b1 < _; omega)).trans g0,
      (hk1.below hb (by omega)).cell 0, (hk1.below hb (by omega)).cell 1, (hk1.below hb (by omega)).cell 2, (hs1.below hb (by omega)).cell 0, (hs1.below hb (by omega)).cell 1⟩)
  have HB1 := Lib.hid (show Below w.heap.size w V by rw [hV]; exact (Below.refl w.heap.size w).alloc (Nat.le_refl _) _)
  have HVV := Lib.hid hV
  clear ha hgg hra hrg hk hk1 hs1 hl hg a0 a1 a2 a3 g0 hV hzV
  go_enter Try.func59, Try.ntmps59
  go_wp2_with fail
  rw [← HVV.out]
  clear HVV
  refine region_plain 99 11 (fun w' => Below V.heap.size V w') (by kernel_rfl) rfl ?_
  refine anyC_reads (by kernel_rfl) [0, 1, 2, 3, 4, 5, 6, 7, 8] ?opl ?ohl 2 _ _ _ (by kernel_rfl) ?okk
  case ohl => (simp only [List.filterMap_cons, List.filterMap_nil, List.getElem?_toArray, List.getElem?_cons_zero, List.getElem?_cons_succ]; try rfl)
  repeat (
    refine readC_step (v := ?_) rfl (fun w' hw' => ?_) ?_
    rotate_left
    focus (obtain ⟨q0, q1, q2, q3, q4, q5, q6, q7, q8, q9⟩ := HF.out w' hw'; go_simp; try with_reducible rfl)
    go_simp)
  refine readC_nil ?_
  refine anyC_one (i := 9) (by kernel_rfl) rfl rfl (.inr (Below.refl _ V).drew) ?_
  go_simp
  refine anyC_one (i := 10) (by kernel_rfl) rfl rfl (.inr ((Below.refl _ V).alloc (Nat.le_refl _) _).drew) ?_
  go_simp
  refine anyC_end (by kernel_rfl) (.inr ((Below.refl _ V).alloc (Nat.le_refl _) _).drew) ?_
  have hbx := ((Below.refl V.heap.size V).alloc (Nat.le_refl _) (.cells #[.int .i64 af, .int .i64 at_, .int .i64 am, .int .i64 ae] 70)).drew
  have hkx := (Blk.new V 70 #[.int .i64 af, .int .i64 at_, .int .i64 am, .int .i64 ae]).drew
  obtain ⟨X, hX⟩ : ∃ X, X = (V.alloc (.cells #[.int .i64 af, .int .i64 at_, .int .i64 am, .int .i64 ae] 70)).drew := ⟨_, rfl⟩
  rw [← hX] at hbx hkx ⊢
  obtain ⟨Z, hZ⟩ : ∃ Z, Z = V.heap.size := ⟨_, rfl⟩
  obtain ⟨q0, q1, q2, q3, q4, q5, q6, q7, q8, q9⟩ := HF.out X hbx
  rw [← hZ] at hkx ⊢
  have x0 := hkx.cell 0
  have x1 := hkx.cell 1
  have x2 := hkx.cell 2
  have HBX := Lib.hid (HB1.out.trans (hbx.mono (by rw [HZV.out]; omega)))
  clear hbx hkx hX hZ HF HZV HB1
  cases b with
  | true =>
    go_wp2_with fail
    go_quiet (fail)
    go_wp2_with fail
    refine bodyPost_ret (v := .tuple #[.int .i64 g, .int .i64 at_, .int .i64 af]) (by simp [results, Try.results59, go_sem]) rfl ?_
    exact ⟨rfl, below_drewN HBX.out _⟩
  | false =>
    have hwm : IntKind.i64.wrap (am - g) = am - g := IntWalk.i64_in _ (by omega)
    go_wp2_with fail
    go_quiet (fail)
    go_wp2_with fail
    refine bodyPost_ret (v := .tuple #[.int .i64 (am - g), .int .i64 af, .int .i64 at_]) (by simp [results, Try.results59, go_sem]) rfl ?_
    exact ⟨rfl, below_drewN HBX.out _⟩

set_option maxRecDepth 100000 in
set_option maxHeartbeats 1000000 in
theorem flow_Open (N : Nat) (A : Option Addr) (m c : Nat) (w : World) (hm : m ≤ 100000) :
    Calls Try.prog 56 #[.agg #[.int .i64 N, .slice A m c]] w fun e w' => ∃ P g, e = .returned (.pointer (some ⟨P, 0, none⟩)) ∧ Below w.heap.size w w' ∧ w.heap.size ≤ P ∧ w.heap.size ≤ g ∧ g ≠ P ∧
      Blk w' P 119 #[.int .i64 N, .slice A m c, .slice (some ⟨g, 0, none⟩) m m] ∧ Own w' w.heap.size 2 1 icell (some ⟨g, 0, none⟩) m (List.replicate m 0) ∧ Blk w' g 2 (madeCells #[.int .i64 0] m) := by
  have hi1 : (Try.prog.info? 2).map (fun i => (i.zero, i.size, i.bytes)) = some (some (.int .i64 0), 1, 8) := rfl
  obtain ⟨i1, a1, b1, c1, d1⟩ := info_parts hi1
  have hm1 : ∀ W : World, (Instr.makeSlice 65 (.int .i64 m) (.int .i64 m)).run Try.prog W = .ok (.slice (some ⟨W.heap.size, 0, none⟩) m m) (W.alloc (.cells (madeCells #[.int .i64 0] m) 2)) := fun W => by
    have := run_make (P := Try.prog) W 65 2 i1 (.int .i64 0) (by kernel_rfl) a1 b1 .i64 .i64 m m (by omega) (Int.le_refl _) (by rw [d1]; omega) (by omega)
    rw [c1, Nat.mul_one, show (Value.int .i64 0).cells = #[Value.int .i64 0] from rfl] at this
    simpa using this
  clear hi1 a1 b1 c1 d1
  have hk1 := Blk.new w 64 #[.int .i64 N, .slice A m c]
  obtain ⟨V, hV⟩ : ∃ V, V = w.alloc (.cells #[.int .i64 N, .slice A m c] 64) := ⟨_, rfl⟩
  rw [← hV] at hk1
  have HK := Lib.hid hk1
  have hzV : Hid (V.heap.size = w.heap.size + 1) := Lib.hid (by rw [hV, size_alloc'])
  have HB1 := Lib.hid (show Below w.heap.size w V by rw [hV]; exact (Below.refl w.heap.size w).alloc (Nat.le_refl _) _)
  have HVV := Lib.hid hV
  obtain ⟨Q, hQ⟩ : ∃ Q, Q = w.heap.size := ⟨_, rfl⟩
  have HQ := Lib.hid hQ
  rw [← hQ] at hk1
  have HF : Hid (∀ w', Below V.heap.size V w' → w'.cell? ⟨Q, 0, none⟩ = some (.int .i64 N) ∧ w'.cell? ⟨Q, 1, none⟩ = some (.slice A m c)) := Lib.hid (fun w' hb => ⟨(hk1.below hb hk1.lt).cell 0, (hk1.below hb hk1.lt).cell 1⟩)
  clear hk1 hV hQ
  go_enter Try.func56, Try.ntmps56
  go_wp2_with fail
  rw [← HVV.out, ← HQ.out]
  refine region_plain 99 8 (fun w' => Below V.heap.size V w') (by kernel_rfl) rfl ?_
  refine anyC_reads (by kernel_rfl) [0, 1, 2, 3] ?opl ?ohl 4 _ _ _ (by kernel_rfl) ?okk
  case ohl => (simp only [List.filterMap_cons, List.filterMap_nil, List.getElem?_toArray, List.getElem?_cons_zero, List.getElem?_cons_succ]; try rfl)
  repeat (
    refine readC_step (v := ?_) rfl (fun w' hw' => ?_) ?_
    rotate_left
    focus (obtain ⟨q0, q1⟩ := HF.out w' hw'; go_simp; try with_reducible rfl)
    go_simp)
  refine readC_nil ?_
  refine anyC_one (i := 4) (by kernel_rfl) rfl rfl (.inr (Below.refl _ V).drew) ?_
  go_simp
  have hg1 : Blk (V.alloc (.cells (madeCells #[.int .i64 0] m) 2)).drew V.heap.size 2 (madeCells #[.int .i64 0] m) := (Blk.new V _ _).drew
  have hbx := ((Below.refl V.heap.size V).alloc (Nat.le_refl _) (.cells (madeCells #[.int .i64 0] m) 2)).drew
  refine anyC_reads (by kernel_rfl) [5] ?opl2 ?ohl2 2 _ _ _ (by kernel_rfl) ?okk2
  case ohl2 => (simp only [List.filterMap_cons, List.filterMap_nil, List.getElem?_toArray, List.getElem?_cons_zero, List.getElem?_cons_succ]; try rfl)
  repeat (
    refine readC_step (v := ?_) rfl (fun w' hw' => ?_) ?_
    rotate_left
    focus (go_simp; try with_reducible rfl)
    go_simp)
  refine readC_nil ?_
  refine anyC_one (i := 6) (by kernel_rfl) rfl rfl (.inr hbx) ?_
  go_simp
  have hbx2 := (((Below.refl V.heap.size V).alloc (Nat.le_refl _) (.cells (madeCells #[.int .i64 0] m) 2)).alloc (by rw [size_alloc']; omega) (.cells #[.int .i64 N, .slice A m c, .slice (some ⟨V.heap.size, 0, none⟩) m m] 119)).drew
  refine anyC_reads (by kernel_rfl) [7] ?opl3 ?ohl3 0 _ _ _ (by kernel_rfl) ?okk3
  case ohl3 => (simp only [List.filterMap_cons, List.filterMap_nil, List.getElem?_toArray, List.getElem?_cons_zero, List.getElem?_cons_succ]; try rfl)
  repeat (
    refine readC_step (v := ?_) rfl (fun w' hw' => ?_) ?_
    rotate_left
    focus (go_simp; try with_reducible rfl)
    go_simp)
  refine readC_nil ?_
  refine anyC_end (by kernel_rfl) (.inr hbx2) ?_
  have hkx : Blk ((V.alloc (.cells (madeCells #[.int .i64 0] m) 2)).alloc (.cells #[.int .i64 N, .slice A m c, .slice (some ⟨V.heap.size, 0, none⟩) m m] 119)).drew (V.heap.size + 1) 119 #[.int .i64 N, .slice A m c, .slice (some ⟨V.heap.size, 0, none⟩) m m] := by
    have := Blk.new (V.alloc (.cells (madeCells #[.int .i64 0] m) 2)) 119 #[.int .i64 N, .slice A m c, .slice (some ⟨V.heap.size, 0, none⟩) m m]
    rw [size_alloc'] at this
    exact this.drew
  have hgx : Blk ((V.alloc (.cells (madeCells #[.int .i64 0] m) 2)).alloc (.cells #[.int .i64 N, .slice A m c, .slice (some ⟨V.heap.size, 0, none⟩) m m] 119)).drew V.heap.size 2 (madeCells #[.int .i64 0] m) := ((Blk.new V 2 (madeCells #[.int .i64 0] m)).alloc _).drew
  obtain ⟨X, hX⟩ : ∃ X, X = ((V.alloc (.cells (madeCells #[.int .i64 0] m) 2)).alloc (.cells #[.int .i64 N, .slice A m c, .slice (some ⟨V.heap.size, 0, none⟩) m m] 119)).drew := ⟨_, rfl⟩
  rw [← hX] at hbx2 hkx hgx ⊢
  clear hg1 hbx
  have hv := hzV.out
  have HKX := Lib.hid hkx
  have HGX := Lib.hid hgx
  have HBX := Lib.hid hbx2
  clear hkx hgx hbx2 hX hv
  go_wp2_with fail
  go_ret
  exact ⟨V.heap.size + 1, V.heap.size, rfl, HB1.out.trans (HBX.out.mono (by rw [hzV.out]; omega)), by rw [hzV.out]; omega, by rw [hzV.out]; omega, by omega, HKX.out, Own.block1 (f := fun x => .int .i64 x) (x0 := 0) HGX.out (by unfold maxLen; omega) (by rw [hzV.out]; omega), HGX.out⟩
end Go.Proofs.Ytdinknpagklkjaa
