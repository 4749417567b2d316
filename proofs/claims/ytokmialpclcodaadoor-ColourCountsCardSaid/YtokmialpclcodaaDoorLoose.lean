/- Has a set of nodes no edge within: the reference's walk. Conditions: the edges read as a list. -/
import Derived.Test.YtokmialpclcodaaDoorNear
import Derived.Test.YtokmialpclcodaaDoorGraphB
import Derived.Test.YtokmialpclcodaaDoorCount
import Derived.Test.YtokmialpclcodaaDoorOpen
namespace Go.Proofs.YtokmialpclcodaaDoor
open Go.RowKit
attribute [local go_sem ↓] w_and w_or w_xor w_andNot w_and1 w_and255 w_xor1 w_or0 w_shl w_shl1 w_shr w_sub w_add w_sub1 w_add1
attribute [local go_sem] w_eq0 w_ne0 w_eq1 w_eq w_ne

def loose (x : BitVec 32) (e : Ed) : Bool := !(bitB x e.a && bitB x e.b)
def looseB (l : List Ed) (x : BitVec 32) : Bool := l.all (loose x)
theorem all_take_succ {α : Type} (p : α → Bool) (l : List α) (k : Nat) (hk : k < l.length) : (l.take (k + 1)).all p = ((l.take k).all p && p l[k]) := by
  rw [List.take_succ_eq_append_getElem hk, List.all_append]
  simp
theorem all_of_get {α : Type} {p : α → Bool} {l : List α} {k : Nat} (hk : k < l.length) (h : p l[k] = false) : l.all p = false := by
  rw [List.all_eq_false]
  exact ⟨_, List.getElem_mem hk, by rw [h]; simp⟩
set_option maxRecDepth 100000 in
set_option maxHeartbeats 1000000 in
theorem ref_Loose (N : Int) (x : BitVec 32) (A : Option Addr) (n c : Nat) (l : List Ed) (w : World) (hl : l.length = n) (hn : n ≤ 45) (hr : Els w w.heap.size 3 Ed.cells A l) :
    Calls Tryd.prog 70 #[.agg #[.int .i64 N, .slice A n c], .int .u32 (wN x)] w fun e w' => e = .returned (.bool (looseB l x)) ∧ Below w.heap.size w w' := by
  have HL := Lib.hid hl
  clear hl
  have d0 := (Blk.new w 33 #[.int .i64 N, .slice A n c]).cell 1
  go_enter Tryd.func70, Tryd.ntmps70
  go_wp2_with fail
  go_loopw [10] (fun i' wr => ∃ k : Nat, k ≤ n ∧ i' = .int .i64 k ∧ Below w.heap.size w wr ∧ (l.take k).all (loose x) = true) (fun i' _ => n - (intOf i').toNat)
  case atStart => exact ⟨0, by omega, rfl, (Below.refl _ _).alloc (Nat.le_refl _) _, rfl⟩
  case round =>
    clear d0
    rename World => wr
    obtain ⟨k, hk, rfl, hb, hall⟩ := hrel
    have hsz := hb.size
    have HB := Lib.hid hb
    have HA := Lib.hid hall
    clear hall
    by_cases hlt : k < n
    · have hkl : k < l.length := by rw [HL.out]; exact hlt
      obtain ⟨b0, off, rfl, hbb, g0, g1, g2⟩ := (hr.below hb).at3 hkl
      have HS := Lib.hid (all_take_succ (loose x) l k hkl)
      have HF := Lib.hid (fun h => all_of_get (p := loose x) (l := l) hkl h)
      obtain ⟨e, he⟩ : ∃ e, e = l[k] := ⟨_, rfl⟩
      have HE := Lib.hid he
      rw [← he] at g0 g1 g2
      clear hb he
      have hE0 := Blk.new wr 66 #[.int .i64 e.a, .int .i64 e.b, .int .i64 e.w]
      have e0 := hE0.cell 0
      have e1 := hE0.cell 1
      clear hE0
      have HT : Hid (loose x e = !(bitB x e.a && bitB x e.b)) := rfl
      rcases r1 : bitB x e.a with _ | _
      · have R1 := Lib.hid r1
        clear r1
        go_wp2_with fail
        refine (Bit_any x e.a _).mono ?_
        rintro _ w' ⟨rfl, rfl⟩
        rw [R1.out]
        go_wp2_with fail
        go_roundw
        case rel => exact ⟨k + 1, by omega, by go_num, HB.out.alloc hsz _, by rw [HS.out, HA.out, ← HE.out, HT.out, R1.out]; rfl⟩
        case measure => simp [intOf]; omega
      · rcases r2 : bitB x e.b with _ | _
        · have R1 := Lib.hid r1
          have R2 := Lib.hid r2
          clear r1 r2
          go_wp2_with fail
          refine (Bit_any x e.a _).mono ?_
          rintro _ w' ⟨rfl, rfl⟩
          rw [R1.out]
          go_wp2_with fail
          refine (Bit_any x e.b _).mono ?_
          rintro _ w' ⟨rfl, rfl⟩
          rw [R2.out]
          go_wp2_with fail
          go_roundw
          case rel => exact ⟨k + 1, by omega, by go_num, HB.out.alloc hsz _, by rw [HS.out, HA.out, ← HE.out, HT.out, R1.out, R2.out]; rfl⟩
          case measure => simp [intOf]; omega
        · have R1 := Lib.hid r1
          have R2 := Lib.hid r2
          clear r1 r2
          go_wp2_with fail
          refine (Bit_any x e.a _).mono ?_
          rintro _ w' ⟨rfl, rfl⟩
          rw [R1.out]
          go_wp2_with fail
          refine (Bit_any x e.b _).mono ?_
          rintro _ w' ⟨rfl, rfl⟩
          rw [R2.out]
          go_wp2_with fail
          go_ret
          exact ⟨ret_bool (HF.out (by rw [← HE.out, HT.out, R1.out, R2.out]; rfl)).symm, HB.out.alloc hsz _⟩
    · obtain rfl : k = n := by omega
      have hall : l.take k = l := List.take_of_length_le (by rw [HL.out]; omega)
      have hA := HA.out
      rw [hall] at hA
      have HA2 := Lib.hid hA
      clear hall hA
      go_wp2_with fail
      go_ret
      exact ⟨ret_bool HA2.out.symm, HB.out⟩

end Go.Proofs.YtokmialpclcodaaDoor
