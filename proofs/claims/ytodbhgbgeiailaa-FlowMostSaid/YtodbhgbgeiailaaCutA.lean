/- The smallest cut: both walk the words, one up, one down. Conditions: the arcs read as a list; the net and the nodes are right. -/
import Derived.Test.YtodbhgbgeiailaaEnds
import Derived.Test.YtodbhgbgeiailaaBit
namespace Go.Proofs.Ytodbhgbgeiailaa
open Go.RowKit
attribute [local go_sem ↓] w_and w_or w_xor w_andNot w_and1 w_and255 w_xor1 w_or0 w_shl w_shl1 w_shr w_sub w_add w_sub1 w_add1
attribute [local go_sem] w_eq0 w_ne0 w_eq1 w_eq w_ne

def cutAt (x : BitVec 32) (a : Arc) : Bool := bitB x a.f && !bitB x a.t
def cutSum (x : BitVec 32) : List Arc → Int
  | [] => 0
  | a :: l => (if cutAt x a then a.m else 0) + cutSum x l
theorem cutSum_app (x : BitVec 32) (l r : List Arc) : cutSum x (l ++ r) = cutSum x l + cutSum x r := by
  induction l with
  | nil => simp [cutSum]
  | cons a l ih => simp only [List.cons_append, cutSum, ih]; omega
theorem cutSum_succ (x : BitVec 32) (l : List Arc) (k : Nat) (hk : k < l.length) : cutSum x (l.take (k + 1)) = cutSum x (l.take k) + if cutAt x l[k] then l[k].m else 0 := by
  rw [List.take_succ_eq_append_getElem hk, cutSum_app]
  simp [cutSum]
theorem cutSum_bounds (x : BitVec 32) (l : List Arc) (h : ∀ a ∈ l, 0 ≤ a.m ∧ a.m ≤ 1048576) : 0 ≤ cutSum x l ∧ cutSum x l ≤ 1048576 * l.length := by
  induction l with
  | nil => simp [cutSum]
  | cons a l ih =>
    have h1 := ih fun b hb => h b (by simp [hb])
    have h2 := h a (by simp)
    simp only [cutSum, List.length_cons]
    split <;> omega
structure NetOk (N : Nat) (l : List Arc) : Prop where
  small : N ≤ 10
  few : l.length ≤ 30
  arcs : ∀ a ∈ l, 0 ≤ a.f ∧ a.f < N ∧ 0 ≤ a.t ∧ a.t < N ∧ a.f ≠ a.t ∧ 0 ≤ a.m ∧ a.m ≤ 1048576 ∧ -1048576 ≤ a.e ∧ a.e ≤ 1048576
theorem arcLoop_ok {N : Int} : ∀ {l : List Arc}, arcLoop N l = 0 → ∀ a ∈ l, 0 ≤ a.f ∧ a.f < N ∧ 0 ≤ a.t ∧ a.t < N ∧ a.f ≠ a.t ∧ 0 ≤ a.m ∧ a.m ≤ 1048576 ∧ -1048576 ≤ a.e ∧ a.e ≤ 1048576
  | [], _, a, ha => by simp at ha
  | b :: l, h, a, ha => by
    rw [arcLoop] at h
    split at h
    · omega
    · split at h
      · omega
      · split at h
        · omega
        · rcases List.mem_cons.1 ha with rfl | ha
          · omega
          · exact arcLoop_ok h a ha
theorem net_ok {N : Int} {l : List Arc} (h : netCheck N l = 0) : ∃ M : Nat, N = M ∧ NetOk M l := by
  unfold netCheck at h
  split at h
  · omega
  · refine ⟨N.toNat, by omega, by omega, by omega, fun a ha => ?_⟩
    have := arcLoop_ok h a ha
    omega
theorem ends_ok {N : Int} {l : List Arc} {s t : Int} (h : endsCheck N l s t = 0) : netCheck N l = 0 ∧ ∃ M a b : Nat, N = M ∧ s = a ∧ t = b ∧ a < M ∧ b < M ∧ a ≠ b := by
  unfold endsCheck at h
  split at h
  · rename_i h0
    split at h
    · omega
    · obtain ⟨M, rfl, _⟩ := net_ok h0
      exact ⟨h0, M, s.toNat, t.toNat, rfl, by omega, by omega, by omega, by omega, by omega⟩
  · omega

set_option maxRecDepth 100000 in
set_option maxHeartbeats 1000000 in
theorem ref_CutSize (N : Nat) (x : BitVec 32) (A : Option Addr) (n c : Nat) (l : List Arc) (w : World) (hl : l.length = n) (hok : NetOk N l) (hr : Els w w.heap.size 4 Arc.cells A l) :
    Calls Try.prog 47 #[.agg #[.int .i64 N, .slice A n c], .int .u32 (wN x)] w fun e w' => e = .returned (.int .i64 (cutSum x l)) ∧ Below w.heap.size w w' := by
  have hn30 : n ≤ 30 := by rw [← hl]; exact hok.few
  have HL := Lib.hid hl
  have HOK := Lib.hid hok
  clear hl hok
  go_enter Try.func47, Try.ntmps47
  go_wp2_with fail
  go_loopw [11, 5] (fun i v wr => ∃ k : Nat, k ≤ n ∧ i = .int .i64 k ∧ v = .int .i64 (cutSum x (l.take k)) ∧ Below w.heap.size w wr) (fun i _ _ => n - (intOf i).toNat)
  case atStart => exact ⟨0, by omega, rfl, rfl, (Below.refl _ _).alloc (Nat.le_refl _) _⟩
  case round =>
    obtain ⟨k, hk, rfl, rfl, hb⟩ := hrel
    have hsz := hb.size
    by_cases hlt : k < n
    · have hkl : k < l.length := by rw [HL.out]; exact hlt
      obtain ⟨b, off, rfl, hbb, g0, g1, g2, g3⟩ := (hr.below hb).at4 hkl
      have hst := cutSum_succ x l k hkl
      have hbd := cutSum_bounds x (l.take k) fun a ha => by have := HOK.out.arcs a (List.mem_of_mem_take ha); omega
      have hlen : (l.take k).length = k := by simp; omega
      have harc := HOK.out.arcs l[k] (List.getElem_mem hkl)
      obtain ⟨a, ha⟩ : ∃ a, a = l[k] := ⟨_, rfl⟩
      rw [← ha] at g0 g1 g2 g3 hst harc
      obtain ⟨af, at_, am, ae⟩ := a
      simp only at g0 g1 g2 g3 harc
      rw [hlen] at hbd
      obtain ⟨z, hz⟩ : ∃ z, z = cutSum x (l.take k) := ⟨_, rfl⟩
      rw [← hz] at hst hbd ⊢
      have HST := Lib.hid hst
      have HB := Lib.hid hb
      clear ha hst hz hb hlen
      rcases q1 : bitB x af with _ | _
      · have HC : Hid (cutSum x (l.take (k + 1)) = z) := by
          show cutSum x (l.take (k + 1)) = z
          rw [HST.out]
          simp [cutAt, q1]
        have H1 := Lib.hid q1
        clear q1
        go_wp2_with fail
        refine (Bit_any x af _).mono ?_
        rintro e w' ⟨rfl, rfl⟩
        rw [H1.out]
        go_wp2_with fail
        go_roundw
        case rel => exact ⟨k + 1, by omega, by go_num, by rw [HC.out], HB.out.alloc hsz _⟩
        case measure => simp [intOf]; omega
      · rcases q2 : bitB x at_ with _ | _
        · have HC : Hid (cutSum x (l.take (k + 1)) = z + am) := by
            show cutSum x (l.take (k + 1)) = z + am
            rw [HST.out]
            simp [cutAt, q1, q2]
          have H1 := Lib.hid q1
          have H2 := Lib.hid q2
          clear q1 q2
          go_wp2_with fail
          refine (Bit_any x af _).mono ?_
          rintro e w' ⟨rfl, rfl⟩
          rw [H1.out]
          go_wp2_with fail
          refine (Bit_any x at_ _).mono ?_
          rintro e w' ⟨rfl, rfl⟩
          rw [H2.out]
          go_wp2_with fail
          go_roundw
          case rel => exact ⟨k + 1, by omega, by go_num, by rw [HC.out], HB.out.alloc hsz _⟩
          case measure => simp [intOf]; omega
        · have HC : Hid (cutSum x (l.take (k + 1)) = z) := by
            show cutSum x (l.take (k + 1)) = z
            rw [HST.out]
            simp [cutAt, q1, q2]
          have H1 := Lib.hid q1
          have H2 := Lib.hid q2
          clear q1 q2
          go_wp2_with fail
          refine (Bit_any x af _).mono ?_
          rintro e w' ⟨rfl, rfl⟩
          rw [H1.out]
          go_wp2_with fail
          refine (Bit_any x at_ _).mono ?_
          rintro e w' ⟨rfl, rfl⟩
          rw [H2.out]
          go_wp2_with fail
          go_roundw
          case rel => exact ⟨k + 1, by omega, by go_num, by rw [HC.out], HB.out.alloc hsz _⟩
          case measure => simp [intOf]; omega
    · obtain rfl : k = n := by omega
      have hall : l.take k = l := List.take_of_length_le (by rw [HL.out]; omega)
      rw [hall]
      clear hall
      go_wp2_with fail
      go_ret
      exact ⟨rfl, hb⟩
end Go.Proofs.Ytodbhgbgeiailaa
