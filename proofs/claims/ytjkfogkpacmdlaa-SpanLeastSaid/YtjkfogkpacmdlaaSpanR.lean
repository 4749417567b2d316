/- The reference's least forest: which edge comes ahead; two rows of numbers compared. Conditions: the edges read as a list. -/
import Derived.Test.YtjkfogkpacmdlaaSpanA
namespace Go.Proofs.Ytjkfogkpacmdlaa
open Go.RowKit

def aheadB (l : List Ed) (y x : Int) : Bool := decide (valW l y < valW l x ∨ (valW l y = valW l x ∧ y < x))
set_option maxRecDepth 100000 in
set_option maxHeartbeats 1000000 in
theorem ref_ahead (l : List Ed) (N : Int) (i j : Nat) (A : Option Addr) (n c : Nat) (w : World) (hn : l.length = n) (ha : i < n) (hb : j < n) (hr : Els w w.heap.size 3 Ed.cells A l) :
    Calls Try.prog 43 #[.agg #[.int .i64 N, .slice A n c], .int .i64 i, .int .i64 j] w fun e w' => e = .returned (.bool (aheadB l i j)) ∧ Below w.heap.size w w' := by
  have hi : i < l.length := by omega
  have hj : j < l.length := by omega
  have hb0 := (Below.refl w.heap.size w).alloc (Nat.le_refl _) (.cells #[.int .i64 N, .slice A n c] 24)
  have hr0 := hr.below hb0
  obtain ⟨g, off, rfl, hlt, _, _, g0⟩ := hr0.at3 hi
  obtain ⟨g', off', he, _, _, _, g1⟩ := hr0.at3 hj
  obtain ⟨rfl, rfl⟩ : g = g' ∧ off = off' := by simpa using he
  have e1 : l[i].w = valW l i := by unfold valW edAt; rw [Int.toNat_natCast, getD_at l i hi]
  have e2 : l[j].w = valW l j := by unfold valW edAt; rw [Int.toNat_natCast, getD_at l j hj]
  have c1 := (Blk.new w 24 #[.int .i64 N, .slice (some ⟨g, off, none⟩) n c]).cell 1
  have HA : Hid (aheadB l i j = decide (valW l i < valW l j ∨ (valW l i = valW l j ∧ (i : Int) < j))) := Lib.hid rfl
  have HB0 := Lib.hid hb0
  rw [e1] at g0
  rw [e2] at g1
  obtain ⟨q, hq⟩ : ∃ q, q = aheadB l i j := ⟨_, rfl⟩
  rw [← hq] at HA ⊢
  generalize valW l i = x at g0 HA
  generalize valW l j = y at g1 HA
  clear he hr hr0 hn e1 e2 hq hb0
  by_cases h1 : x < y
  · have hq : q = true := by rw [HA.out]; exact decide_eq_true (.inl h1)
    subst hq
    have hd : decide (x < y) = true := decide_eq_true h1
    clear HA
    go_enter Try.func43, Try.ntmps43
    go_wp2_with fail
    go_quiet (fail)
    go_wp2_with fail
    go_ret
    exact ⟨rfl, below_drewN HB0.out _⟩
  · by_cases h2 : x = y
    · have hq : q = decide ((i : Int) < j) := by
        rw [HA.out]
        refine decide_eq_decide.2 ?_
        constructor
        · rintro (h | h)
          · exact absurd h h1
          · exact h.2
        · exact fun h => .inr ⟨h2, h⟩
      subst h2
      have hd : decide (x < x) = false := decide_eq_false h1
      have hd2 : (x == x) = true := by simp
      have HQ := Lib.hid hq
      clear HA hq
      go_enter Try.func43, Try.ntmps43
      go_wp2_with fail
      go_quiet (fail)
      go_wp2_with fail
      go_ret
      exact ⟨ret_bool (by rw [HQ.out]; simp), below_drewN HB0.out _⟩
    · have hq : q = false := by rw [HA.out]; exact decide_eq_false (by omega)
      subst hq
      have hd : decide (x < y) = false := decide_eq_false h1
      have hd2 : (x == y) = false := by simpa using h2
      clear HA
      go_enter Try.func43, Try.ntmps43
      go_wp2_with fail
      go_quiet (fail)
      go_wp2_with fail
      go_ret
      exact ⟨rfl, below_drewN HB0.out _⟩

set_option maxRecDepth 100000 in
theorem ref_Ints (l : List Int) (A1 A2 : Option Addr) (n c1 c2 B : Nat) (w : World) (hn : l.length = n) (hm : n ≤ maxLen) (h1 : Els w B 1 icell A1 l) (h2 : Els w B 1 icell A2 l) :
    Calls Try.prog 20 #[.slice A1 n c1, .slice A2 n c2] w fun e w' => e = .returned (.bool true) ∧ ∃ m, w' = w.drewN m := by
  unfold maxLen at hm
  have hne : ((n : Int) != (n : Int)) = false := by simp
  have HL := Lib.hid hn
  have H1 := Lib.hid h1
  have H2 := Lib.hid h2
  clear h1 h2 hn
  go_enter Try.func20, Try.ntmps20
  go_wp2_with fail
  go_loopw [5] (fun s wr => ∃ k M : Nat, k ≤ n ∧ s = .int .i64 k ∧ wr = w.drewN M) (fun s _ => n - (intOf s).toNat)
  case atStart => exact ⟨0, 0, Nat.zero_le _, rfl, rfl⟩
  case round =>
    rename World => wr
    obtain ⟨k, M, hk, rfl, rfl⟩ := hrel
    by_cases hlt : k < n
    · have hkl : k < l.length := by rw [HL.out]; exact hlt
      obtain ⟨b1, o1, hA1, _, t1⟩ := H1.out.at1 (f := fun x : Int => .int .i64 x) hkl
      obtain ⟨b2, o2, hA2, _, t2⟩ := H2.out.at1 (f := fun x : Int => .int .i64 x) hkl
      subst hA1
      subst hA2
      generalize l[k] = x at t1 t2
      have hx : (x != x) = false := by simp
      go_wp2_with fail
      go_quiet (fail)
      go_wp2_with fail
      go_roundw
      case rel => exact ⟨k + 1, _, by omega, by go_num, rfl⟩
      case measure => simp [intOf]; omega
    · go_wp2_with fail
      go_ret
      exact ⟨rfl, M, rfl⟩
end Go.Proofs.Ytjkfogkpacmdlaa
