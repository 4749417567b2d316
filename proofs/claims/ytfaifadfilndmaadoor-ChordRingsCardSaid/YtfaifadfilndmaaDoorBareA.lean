/- Rings without a short cut: which nodes a path has, as a word. Conditions: the path lies in a row of its own. -/
import Derived.Test.YtfaifadfilndmaaDoorBareP
import Derived.Test.YtfaifadfilndmaaDoorSeekP
namespace Go.Proofs.YtfaifadfilndmaaDoor
open Go.RowKit
attribute [local go_sem ↓] w_and w_or w_xor w_andNot w_and1 w_and255 w_xor1 w_or0 w_shl w_shl1 w_shr w_sub w_add w_sub1 w_add1
attribute [local go_sem] w_eq0 w_ne0 w_eq1 w_eq w_ne

theorem seenW_take (l : List Nat) {k : Nat} (hk : k < l.length) : seenW (l.take (k + 1)) = wOr (seenW (l.take k)) (wShl w1 l[k]) := by
  rw [List.take_succ_eq_append_getElem hk, seenW_snoc]
set_option maxRecDepth 100000 in
theorem chord_seen (nv sv : Value) (Q g cl B m : Nat) (l : List Nat) (w : World) (hlm : l.length = m) (hm : m ≤ 10) (hq : Blk w Q 81 #[nv, .slice (some ⟨g, 0, none⟩) m cl, sv]) (ho : Own w B 3 1 icell (some ⟨g, 0, none⟩) cl (intsOf l)) :
    Calls Tryd.prog 72 #[.pointer (some ⟨Q, 0, none⟩)] w fun e w' => e = .returned (.int .u32 (wN (seenW l))) ∧ w' = w := by
  have HM := Lib.hid hlm
  have HO := Lib.hid ho
  have c1 := hq.cell 1
  clear hq ho hlm
  go_enter Tryd.func72, Tryd.ntmps72
  go_wp2_with fail
  go_loop [11, 3] (fun s11 s3 => ∃ k : Nat, k ≤ m ∧ s11 = .int .i64 k ∧ s3 = .int .u32 (wN (seenW (l.take k)))) (fun s11 _ => m - (intOf s11).toNat)
  case atStart => exact ⟨0, by omega, rfl, rfl⟩
  case round =>
    obtain ⟨k, hk, rfl, rfl⟩ := hrel
    by_cases hlt : k < m
    · have hkl : k < l.length := by rw [HM.out]; exact hlt
      have hil : k < (intsOf l).length := by rw [intsOf, List.length_map]; exact hkl
      obtain ⟨g2, hg, _, _, e5, _⟩ := HO.out.cell1 hil
      obtain rfl : g = g2 := by injection hg with h; injection h
      have hv : (intsOf l)[k] = ((l[k] : Nat) : Int) := by simp [intsOf]
      rw [hv] at e5
      have HT := Lib.hid (seenW_take l hkl)
      obtain ⟨x, hx⟩ : ∃ x, x = l[k] := ⟨_, rfl⟩
      rw [← hx] at e5 HT
      have hx0 : (0 : Int) ≤ (x : Int) := by omega
      clear hg hil hv hx
      go_wp2_with fail
      go_round
      case rel => exact ⟨k + 1, by omega, by go_num, by rw [HT.out]⟩
      case measure => simp [intOf]; omega
    · obtain rfl : k = m := by omega
      have HT : Hid (seenW (l.take k) = seenW l) := Lib.hid (by rw [List.take_of_length_le (by rw [HM.out]; exact Nat.le_refl _)])
      rw [HT.out]
      go_wp2_with fail
      go_ret
      exact ⟨rfl, rfl⟩
end Go.Proofs.YtfaifadfilndmaaDoor
