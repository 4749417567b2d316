/- How many edges lie between two words; the reference's table: the walks. Conditions: the graph is one, its edges read as a list. -/
import Derived.Test.YtbbdiondhnmnaaaDoorSpanMany32
import Derived.Test.YtbbdiondhnmnaaaDoorSpanMany14
import Derived.Test.YtbbdiondhnmnaaaDoorSpanMany4
import Derived.Test.YtbbdiondhnmnaaaDoorSpanMany36
import Derived.Test.YtbbdiondhnmnaaaDoorSpanMany27
import Derived.Test.YtbbdiondhnmnaaaDoorSpanMany25
import Derived.IntWalk
namespace Go.Proofs.YtbbdiondhnmnaaaDoor
open Go.RowKit Go.Shelf
attribute [local go_sem ↓] w_and w_or w_xor w_andNot w_and1 w_and255 w_xor1 w_or0 w_shl w_shl1 w_shr w_sub w_add w_sub1 w_add1
attribute [local go_sem] w_eq0 w_ne0 w_eq1 w_eq w_ne

theorem btw_take {l : List Ed} {k : Nat} (x y : BitVec 32) (hk : k < l.length) : (l.take (k + 1)).countP (btB x y) = (l.take k).countP (btB x y) + if btB x y l[k] = true then 1 else 0 := by
  rw [List.take_succ_eq_append_getElem hk, List.countP_append, List.countP_cons, List.countP_nil]
  omega
set_option maxRecDepth 100000 in
set_option maxHeartbeats 2000000 in
theorem ref_between (N : Int) (x y : BitVec 32) (A : Option Addr) (n c : Nat) (l : List Ed) (w : World) (hl : l.length = n) (hn : n ≤ 45) (hr : Els w w.heap.size 3 Ed.cells A l) :
    Calls Tryd.prog 14 #[.agg #[.int .i64 N, .slice A n c], .int .u32 (wN x), .int .u32 (wN y)] w fun e w' => e = .returned (.int .i64 (l.countP (btB x y) : Nat)) ∧ Below w.heap.size w w' := by
  have HL := Lib.hid hl
  clear hl
  have d0 := (Blk.new w 24 #[.int .i64 N, .slice A n c]).cell 1
  go_enter Tryd.func14, Tryd.ntmps14
  go_wp2_with fail
  go_loopw [7, 13] (fun v i' wr => ∃ k : Nat, k ≤ n ∧ i' = .int .i64 k ∧ v = .int .i64 ((l.take k).countP (btB x y) : Nat) ∧ Below w.heap.size w wr) (fun _ i' _ => n - (intOf i').toNat)
  case atStart => exact ⟨0, by omega, rfl, rfl, (Below.refl _ _).alloc (Nat.le_refl _) _⟩
  case round =>
    clear d0
    rename World => wr
    obtain ⟨k, hk, rfl, rfl, hb⟩ := hrel
    have hsz := hb.size
    have HB := Lib.hid hb
    have hle := List.countP_le_length (p := btB x y) (l := l.take k)
    have htl : (l.take k).length ≤ k := List.length_take_le _ _
    obtain ⟨m, hm⟩ : ∃ m, m = (l.take k).countP (btB x y) := ⟨_, rfl⟩
    rw [← hm] at hle ⊢
    have hm45 : m ≤ 45 := by omega
    have HM := Lib.hid hm
    clear hle htl hm
    by_cases hlt : k < n
    · have hkl : k < l.length := by rw [HL.out]; exact hlt
      obtain ⟨b0, off, rfl, hbb, g0, g1, g2⟩ := (hr.below hb).at3 hkl
      have HS := Lib.hid (btw_take x y hkl)
      obtain ⟨e, he⟩ : ∃ e, e = l[k] := ⟨_, rfl⟩
      have HE := Lib.hid he
      rw [← he] at g0 g1 g2
      clear hb he
      have hE0 := Blk.new wr 34 #[.int .i64 e.a, .int .i64 e.b, .int .i64 e.w]
      have e0 := hE0.cell 0
      have e1 := hE0.cell 1
      clear hE0
      obtain ⟨p1, h1⟩ : ∃ p1, bitB x e.a = p1 := ⟨_, rfl⟩
      obtain ⟨p2, h2⟩ : ∃ p2, bitB y e.b = p2 := ⟨_, rfl⟩
      obtain ⟨p3, h3⟩ : ∃ p3, bitB x e.b = p3 := ⟨_, rfl⟩
      obtain ⟨p4, h4⟩ : ∃ p4, bitB y e.a = p4 := ⟨_, rfl⟩
      have HT : Hid (btB x y e = ((p1 && p2) || (p3 && p4))) := Lib.hid (by unfold btB; rw [h1, h2, h3, h4])
      have R1 := Lib.hid h1
      have R2 := Lib.hid h2
      have R3 := Lib.hid h3
      have R4 := Lib.hid h4
      clear h1 h2 h3 h4
      rcases p1 with _ | _
      · go_wp2_with fail
        refine (Bit_any x e.a _).mono ?_
        rintro _ w' ⟨rfl, rfl⟩
        rw [R1.out]
        rcases p3 with _ | _
        · go_wp2_with fail
          refine (Bit_any x e.b _).mono ?_
          rintro _ w' ⟨rfl, rfl⟩
          rw [R3.out]
          go_wp2_with fail
          go_roundw
          case rel =>
            refine ⟨k + 1, by omega, by go_num, ?_, HB.out.alloc hsz _⟩
            rw [HS.out, ← HE.out, HT.out, ← HM.out]
            simp only [Bool.or_true, Bool.true_or, Bool.or_false, Bool.and_true, Bool.and_false, Bool.false_and, Bool.true_and, Bool.and_self, Bool.or_self, if_true, Bool.false_eq_true, if_false]
            go_num
          case measure => simp [intOf]; omega
        · go_wp2_with fail
          refine (Bit_any x e.b _).mono ?_
          rintro _ w' ⟨rfl, rfl⟩
          rw [R3.out]
          rcases p4 with _ | _
          · go_wp2_with fail
            refine (Bit_any y e.a _).mono ?_
            rintro _ w' ⟨rfl, rfl⟩
            rw [R4.out]
            go_wp2_with fail
            go_roundw
            case rel =>
              refine ⟨k + 1, by omega, by go_num, ?_, HB.out.alloc hsz _⟩
              rw [HS.out, ← HE.out, HT.out, ← HM.out]
              simp only [Bool.or_true, Bool.true_or, Bool.or_false, Bool.and_true, Bool.and_false, Bool.false_and, Bool.true_and, Bool.and_self, Bool.or_self, if_true, Bool.false_eq_true, if_false]
              go_num
            case measure => simp [intOf]; omega
          · go_wp2_with fail
            refine (Bit_any y e.a _).mono ?_
            rintro _ w' ⟨rfl, rfl⟩
            rw [R4.out]
            go_wp2_with fail
            go_roundw
            case rel =>
              refine ⟨k + 1, by omega, by go_num, ?_, HB.out.alloc hsz _⟩
              rw [HS.out, ← HE.out, HT.out, ← HM.out]
              simp only [Bool.or_true, Bool.true_or, Bool.or_false, Bool.and_true, Bool.and_false, Bool.false_and, Bool.true_and, Bool.and_self, Bool.or_self, if_true, Bool.false_eq_true, if_false]
              go_num
            case measure => simp [intOf]; omega
      · go_wp2_with fail
        refine (Bit_any x e.a _).mono ?_
        rintro _ w' ⟨rfl, rfl⟩
        rw [R1.out]
        rcases p2 with _ | _
        · go_wp2_with fail
          refine (Bit_any y e.b _).mono ?_
          rintro _ w' ⟨rfl, rfl⟩
          rw [R2.out]
          rcases p3 with _ | _
          · go_wp2_with fail
            refine (Bit_any x e.b _).mono ?_
            rintro _ w' ⟨rfl, rfl⟩
            rw [R3.out]
            go_wp2_with fail
            go_roundw
            case rel =>
              refine ⟨k + 1, by omega, by go_num, ?_, HB.out.alloc hsz _⟩
              rw [HS.out, ← HE.out, HT.out, ← HM.out]
              simp only [Bool.or_true, Bool.true_or, Bool.or_false, Bool.and_true, Bool.and_false, Bool.false_and, Bool.true_and, Bool.and_self, Bool.or_self, if_true, Bool.false_eq_true, if_false]
              go_num
            case measure => simp [intOf]; omega
          · go_wp2_with fail
            refine (Bit_any x e.b _).mono ?_
            rintro _ w' ⟨rfl, rfl⟩
            rw [R3.out]
            rcases p4 with _ | _
            · go_wp2_with fail
              refine (Bit_any y e.a _).mono ?_
              rintro _ w' ⟨rfl, rfl⟩
              rw [R4.out]
              go_wp2_with fail
              go_roundw
              case rel =>
                refine ⟨k + 1, by omega, by go_num, ?_, HB.out.alloc hsz _⟩
                rw [HS.out, ← HE.out, HT.out, ← HM.out]
                simp only [Bool.or_true, Bool.true_or, Bool.or_false, Bool.and_true, Bool.and_false, Bool.false_and, Bool.true_and, Bool.and_self, Bool.or_self, if_true, Bool.false_eq_true, if_false]
                go_num
              case measure => simp [intOf]; omega
            · go_wp2_with fail
              refine (Bit_any y e.a _).mono ?_
              rintro _ w' ⟨rfl, rfl⟩
              rw [R4.out]
              go_wp2_with fail
              go_roundw
              case rel =>
                refine ⟨k + 1, by omega, by go_num, ?_, HB.out.alloc hsz _⟩
                rw [HS.out, ← HE.out, HT.out, ← HM.out]
                simp only [Bool.or_true, Bool.true_or, Bool.or_false, Bool.and_true, Bool.and_false, Bool.false_and, Bool.true_and, Bool.and_self, Bool.or_self, if_true, Bool.false_eq_true, if_false]
                go_num
              case measure => simp [intOf]; omega
        · go_wp2_with fail
          refine (Bit_any y e.b _).mono ?_
          rintro _ w' ⟨rfl, rfl⟩
          rw [R2.out]
          go_wp2_with fail
          go_roundw
          case rel =>
            refine ⟨k + 1, by omega, by go_num, ?_, HB.out.alloc hsz _⟩
            rw [HS.out, ← HE.out, HT.out, ← HM.out]
            simp only [Bool.or_true, Bool.true_or, Bool.or_false, Bool.and_true, Bool.and_false, Bool.false_and, Bool.true_and, Bool.and_self, Bool.or_self, if_true, Bool.false_eq_true, if_false]
            go_num
          case measure => simp [intOf]; omega
    · obtain rfl : k = n := by omega
      have HA : Hid (m = l.countP (btB x y)) := Lib.hid (by rw [HM.out, List.take_of_length_le (by rw [HL.out]; omega)])
      go_wp2_with fail
      go_ret
      exact ⟨ret_i64 (by rw [HA.out]), HB.out⟩
end Go.Proofs.YtbbdiondhnmnaaaDoor
