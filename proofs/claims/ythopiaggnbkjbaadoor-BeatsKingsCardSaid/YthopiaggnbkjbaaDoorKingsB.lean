/- The kings: what the reference computes. Conditions: the words read as a list. -/
import Derived.Test.YthopiaggnbkjbaaDoorBeatsB
namespace Go.Proofs.YthopiaggnbkjbaaDoor
open Go.RowKit
attribute [local go_sem ↓] w_and w_or w_xor w_andNot w_and1 w_and255 w_xor1 w_or0 w_shl w_shl1 w_shr w_sub w_add w_sub1 w_add1
attribute [local go_sem] w_eq0 w_ne0 w_eq1 w_eq w_ne

def overTo (l : List W) (i j : Nat) : Nat → Bool
  | 0 => i == j || bitB (lw l i) j
  | p + 1 => overTo l i j p || (bitB (lw l i) p && bitB (lw l p) j)
def kingB (l : List W) (i : Nat) : Nat → Bool
  | 0 => true
  | m + 1 => kingB l i m && overTo l i m l.length
def refKings (l : List W) : Nat → W
  | 0 => w0
  | k + 1 => if kingB l k l.length then wAdd (refKings l k) (wShl w1 k) else refKings l k

set_option maxRecDepth 100000 in
set_option maxHeartbeats 1000000 in
theorem ref_Kings (A : Option Addr) (n c : Nat) (l : List W) (w : World) (hl : l.length = n) (hn : n ≤ maxLen) (hr : Els w w.heap.size 1 wcell A l) :
    Calls Tryd.prog 15 #[.slice A n c] w fun e w' => e = .returned (.int .u32 (wN (refKings l n))) ∧ w = w' := by
  unfold maxLen at hn
  have HL := Lib.hid hl
  clear hl
  go_enter Tryd.func15, Tryd.ntmps15
  go_wp2_with fail
  go_loop [3, 4] (fun s i => ∃ k : Nat, k ≤ n ∧ i = .int .i64 k ∧ s = .int .u32 (wN (refKings l k))) (fun _ i => n - (intOf i).toNat)
  case atStart => exact ⟨0, by omega, rfl, rfl⟩
  case round =>
    obtain ⟨i, hi, rfl, rfl⟩ := hrel
    by_cases hlt : i < n
    · have hil : i < l.length := by rw [HL.out]; exact hlt
      obtain ⟨b, off, rfl, hbb, g0⟩ := hr.at1 hil
      rw [← lw_at l i hil] at g0
      go_wp2_with fail
      go_loop [5, 6] (fun s j => ∃ m : Nat, m ≤ n ∧ j = .int .i64 m ∧ s = .bool (kingB l i m)) (fun _ j => n - (intOf j).toNat)
      case atStart => exact ⟨0, by omega, rfl, rfl⟩
      case round =>
        obtain ⟨j, hj, rfl, rfl⟩ := hrel
        by_cases hlj : j < n
        · have hjl : j < l.length := by rw [HL.out]; exact hlj
          have HKS : Hid (kingB l i (j + 1) = (kingB l i j && overTo l i j n)) := by rw [← HL.out]; exact Lib.hid rfl
          have hcase : (((i : Int) == (j : Int)) = true ∧ overTo l i j 0 = true) ∨ (((i : Int) == (j : Int)) = false ∧ overTo l i j 0 = bitB (lw l i) j) := by
            by_cases hij : i = j
            · exact .inl ⟨by simp [hij], by simp [overTo, hij]⟩
            · exact .inr ⟨by simp; omega, by simp [overTo, hij]⟩
          rcases hcase with ⟨hij, hov⟩ | ⟨hij, hov⟩
          all_goals
            have HOV := Lib.hid hov
            clear hov
            go_wp2_with (go_at_call 41; refine (Bit_any _ _ _).mono ?_; rintro e w' ⟨rfl, rfl⟩)
            go_loop [7, 8] (fun o p => ∃ k : Nat, k ≤ n ∧ p = .int .i64 k ∧ o = .bool (overTo l i j k)) (fun _ p => n - (intOf p).toNat)
            case atStart => exact ⟨0, by omega, rfl, by rw [HOV.out]⟩
            case round =>
              obtain ⟨k, hk, rfl, rfl⟩ := hrel
              by_cases hlk : k < n
              · have hkl : k < l.length := by rw [HL.out]; exact hlk
                obtain ⟨b', off', he, _, g1⟩ := hr.at1 hkl
                obtain ⟨rfl, rfl⟩ : b = b' ∧ off = off' := by simpa using he
                rw [← lw_at l k hkl] at g1
                clear he
                have HS : Hid (overTo l i j (k + 1) = (overTo l i j k || (bitB (lw l i) k && bitB (lw l k) j))) := Lib.hid rfl
                rcases ho : overTo l i j k with _ | _
                · rcases hb : bitB (lw l i) k with _ | _
                  all_goals
                    rw [ho, hb] at HS
                    clear ho
                    go_wp2_with (go_at_call 41; refine (Bit_any _ _ _).mono ?_; rintro e w' ⟨rfl, rfl⟩)
                    go_round
                    case rel => exact ⟨k + 1, by omega, by go_num, by rw [HS.out]; simp⟩
                    case measure => simp [intOf]; omega
                · rw [ho] at HS
                  clear ho
                  go_wp2_with (go_at_call 41; refine (Bit_any _ _ _).mono ?_; rintro e w' ⟨rfl, rfl⟩)
                  go_round
                  case rel => exact ⟨k + 1, by omega, by go_num, by rw [HS.out]; simp⟩
                  case measure => simp [intOf]; omega
              · obtain rfl : k = n := by omega
                rcases hkb : kingB l i j with _ | _
                all_goals
                  rw [hkb] at HKS
                  clear hkb
                  go_wp2_with fail
                  go_round
                  case rel => exact ⟨j + 1, by omega, by go_num, by rw [HKS.out]; simp⟩
                  case measure => simp [intOf]; omega
        · obtain rfl : j = n := by omega
          have HKS : Hid (refKings l (i + 1) = if kingB l i j then wAdd (refKings l i) (wShl w1 i) else refKings l i) := by rw [← HL.out]; exact Lib.hid rfl
          rcases hkb : kingB l i j with _ | _
          all_goals
            rw [hkb] at HKS
            clear hkb
            go_wp2_with fail
            go_round
            case rel => exact ⟨i + 1, by omega, by go_num, by rw [HKS.out]; simp⟩
            case measure => simp [intOf]; omega
    · obtain rfl : i = n := by omega
      go_wp2_with fail
      go_ret
      exact ⟨rfl, rfl⟩
end Go.Proofs.YthopiaggnbkjbaaDoor
