/- The reference's look whether two nodes have an edge. Conditions: the edges read as a list. -/
import Derived.Test.YtjkfogkpacmdlaaNear
namespace Go.Proofs.Ytjkfogkpacmdlaa
open Go.RowKit

set_option maxRecDepth 100000 in
set_option maxHeartbeats 1000000 in
theorem ref_Near (N : Int) (i j : Nat) (A : Option Addr) (n c : Nat) (l : List Ed) (w : World) (hl : l.length = n) (hn : n ≤ 45) (hr : Els w w.heap.size 3 Ed.cells A l) :
    Calls Try.prog 25 #[.agg #[.int .i64 N, .slice A n c], .int .i64 i, .int .i64 j] w fun e w' => e = .returned (.bool (adj l i j)) ∧ Below w.heap.size w w' := by
  have HL := Lib.hid hl
  clear hl
  have d0 := (Blk.new w 24 #[.int .i64 N, .slice A n c]).cell 1
  go_enter Try.func25, Try.ntmps25
  go_wp2_with fail
  go_loopw [12] (fun i' wr => ∃ k : Nat, k ≤ n ∧ i' = .int .i64 k ∧ Below w.heap.size w wr ∧ (l.take k).any (joins i j) = false) (fun i' _ => n - (intOf i').toNat)
  case atStart => exact ⟨0, by omega, rfl, (Below.refl _ _).alloc (Nat.le_refl _) _, rfl⟩
  case round =>
    clear d0
    rename World => wr
    obtain ⟨k, hk, rfl, hb, hall⟩ := hrel
    have hsz := hb.size
    have HB := Lib.hid hb
    have HA := Lib.hid hall
    clear hall
    by_cases hlt : k < n
    · have hkl : k < l.length := by rw [HL.out]; exact hlt
      obtain ⟨b0, off, rfl, hbb, g0, g1, g2⟩ := (hr.below hb).at3 hkl
      have HS := Lib.hid (any_take_succ (joins i j) l k hkl)
      have HF := Lib.hid (fun h => any_of_get (p := joins i j) (l := l) hkl h)
      obtain ⟨e, he⟩ : ∃ e, e = l[k] := ⟨_, rfl⟩
      have HE := Lib.hid he
      rw [← he] at g0 g1 g2
      clear hb he
      have hE0 := Blk.new wr 61 #[.int .i64 e.a, .int .i64 e.b, .int .i64 e.w]
      have e0 := hE0.cell 0
      have e1 := hE0.cell 1
      clear hE0
      have hT : joins i j e = decide ((e.a = i ∧ e.b = j) ∨ (e.a = j ∧ e.b = i)) := rfl
      have HT := Lib.hid hT
      have b1 : (e.a == (i : Int)) = decide (e.a = i) := by rw [Bool.eq_iff_iff]; simp
      have b2 : (e.b == (j : Int)) = decide (e.b = j) := by rw [Bool.eq_iff_iff]; simp
      have b3 : (e.a == (j : Int)) = decide (e.a = j) := by rw [Bool.eq_iff_iff]; simp
      have b4 : (e.b == (i : Int)) = decide (e.b = i) := by rw [Bool.eq_iff_iff]; simp
      have hgo : joins i j e = true ∨ joins i j e = false := by cases joins i j e <;> simp
      have HB1 := Lib.hid b1
      have HB2 := Lib.hid b2
      have HB3 := Lib.hid b3
      have HB4 := Lib.hid b4
      clear b1 b2 b3 b4 hT
      have no : ∀ {p : Prop} [Decidable p] {b : Bool}, b = decide p → ¬ p → b = false := fun h hp => by rw [h]; simpa using hp
      have ye : ∀ {p : Prop} [Decidable p] {b : Bool}, b = decide p → p → b = true := fun h hp => by rw [h]; simpa using hp
      by_cases r1 : e.a = i
      · by_cases r2 : e.b = j
        · have t1 := ye HB1.out r1
          have t2 := ye HB2.out r2
          have HJ := Lib.hid (HT.out.trans (decide_eq_true (.inl ⟨r1, r2⟩)))
          clear r1 r2 hgo no ye
          go_wp2_with fail
          go_ret
          exact ⟨ret_bool (HF.out (by rw [← HE.out]; exact HJ.out)).symm, HB.out.alloc hsz _⟩
        · by_cases r3 : e.a = j
          · by_cases r4 : e.b = i
            · have t1 := ye HB1.out r1
              have t2 := no HB2.out r2
              have t3 := ye HB3.out r3
              have t4 := ye HB4.out r4
              have HJ := Lib.hid (HT.out.trans (decide_eq_true (.inr ⟨r3, r4⟩)))
              clear r1 r2 r3 r4 hgo no ye
              go_wp2_with fail
              go_ret
              exact ⟨ret_bool (HF.out (by rw [← HE.out]; exact HJ.out)).symm, HB.out.alloc hsz _⟩
            · have t1 := ye HB1.out r1
              have t2 := no HB2.out r2
              have t3 := ye HB3.out r3
              have t4 := no HB4.out r4
              have HJ := Lib.hid (HT.out.trans (decide_eq_false (by omega)))
              clear r1 r2 r3 r4 hgo no ye
              go_wp2_with fail
              go_roundw
              case rel => exact ⟨k + 1, by omega, by go_num, HB.out.alloc hsz _, by rw [HS.out, HA.out, ← HE.out, HJ.out]; rfl⟩
              case measure => simp [intOf]; omega
          · have t1 := ye HB1.out r1
            have t2 := no HB2.out r2
            have t3 := no HB3.out r3
            have HJ := Lib.hid (HT.out.trans (decide_eq_false (by omega)))
            clear r1 r2 r3 hgo no ye
            go_wp2_with fail
            go_roundw
            case rel => exact ⟨k + 1, by omega, by go_num, HB.out.alloc hsz _, by rw [HS.out, HA.out, ← HE.out, HJ.out]; rfl⟩
            case measure => simp [intOf]; omega
      · by_cases r3 : e.a = j
        · by_cases r4 : e.b = i
          · have t1 := no HB1.out r1
            have t3 := ye HB3.out r3
            have t4 := ye HB4.out r4
            have HJ := Lib.hid (HT.out.trans (decide_eq_true (.inr ⟨r3, r4⟩)))
            clear r1 r3 r4 hgo no ye
            go_wp2_with fail
            go_ret
            exact ⟨ret_bool (HF.out (by rw [← HE.out]; exact HJ.out)).symm, HB.out.alloc hsz _⟩
          · have t1 := no HB1.out r1
            have t3 := ye HB3.out r3
            have t4 := no HB4.out r4
            have HJ := Lib.hid (HT.out.trans (decide_eq_false (by omega)))
            clear r1 r3 r4 hgo no ye
            go_wp2_with fail
            go_roundw
            case rel => exact ⟨k + 1, by omega, by go_num, HB.out.alloc hsz _, by rw [HS.out, HA.out, ← HE.out, HJ.out]; rfl⟩
            case measure => simp [intOf]; omega
        · have t1 := no HB1.out r1
          have t3 := no HB3.out r3
          have HJ := Lib.hid (HT.out.trans (decide_eq_false (by omega)))
          clear r1 r3 hgo no ye
          go_wp2_with fail
          go_roundw
          case rel => exact ⟨k + 1, by omega, by go_num, HB.out.alloc hsz _, by rw [HS.out, HA.out, ← HE.out, HJ.out]; rfl⟩
          case measure => simp [intOf]; omega
    · obtain rfl : k = n := by omega
      have hno := Lib.hid (any_take_all (by rw [HL.out]; omega) HA.out)
      clear HA
      go_wp2_with fail
      go_ret
      exact ⟨ret_bool hno.out.symm, HB.out⟩

end Go.Proofs.Ytjkfogkpacmdlaa
