/- The reference's graph without an edge. Conditions: the edges read as a list. -/
import Derived.Test.YtfaifadfilndmaaDoorCodeP
import Derived.Test.YtfaifadfilndmaaDoorExt
namespace Go.Proofs.YtfaifadfilndmaaDoor
open Go.RowKit

def lessT (l : List Ed) (x q : Nat) : List Ed := (l.take q).eraseIdx x
theorem lessT_same (l : List Ed) {x : Nat} (hx : x < l.length) : lessT l x (x + 1) = lessT l x x := by
  unfold lessT
  rw [List.take_succ_eq_append_getElem hx, List.eraseIdx_append_of_length_le (by rw [List.length_take]; omega), List.length_take, Nat.min_eq_left (by omega), Nat.sub_self, List.eraseIdx_of_length_le (l := l.take x) (by rw [List.length_take]; omega)]
  simp
theorem lessT_snoc (l : List Ed) {x q : Nat} (hq : q < l.length) (h : q ≠ x) : lessT l x (q + 1) = lessT l x q ++ [l[q]] := by
  unfold lessT
  rw [List.take_succ_eq_append_getElem hq]
  rcases Nat.lt_or_ge x q with h1 | h1
  · rw [List.eraseIdx_append_of_lt_length (by rw [List.length_take]; omega)]
  · rw [List.eraseIdx_append_of_length_le (by rw [List.length_take]; omega), List.length_take, Nat.min_eq_left (by omega), List.eraseIdx_of_length_le (l := l.take q) (by rw [List.length_take]; omega)]
    obtain ⟨z, hz⟩ : ∃ z, x - q = z + 1 := ⟨x - q - 1, by omega⟩
    rw [hz]
    rfl
theorem lessT_le (l : List Ed) (x q : Nat) : (lessT l x q).length ≤ q := by
  unfold lessT
  have := List.length_eraseIdx_le (l.take q) x
  have h2 := List.length_take_le q l
  omega

set_option maxRecDepth 100000 in
set_option maxHeartbeats 1000000 in
theorem ref_less (N : Nat) (A : Option Addr) (n c : Nat) (l : List Ed) (x : Nat) (w : World) (hl : l.length = n) (hn45 : n ≤ 45) (hr : Els w w.heap.size 3 Ed.cells A l) :
    Calls Tryd.prog 50 #[.agg #[.int .i64 N, .slice A n c], .int .i64 x] w fun e w' => ∃ A2 n2 c2, e = .returned (.agg #[.int .i64 N, .slice A2 n2 c2]) ∧ Below w.heap.size w w' ∧ (l.eraseIdx x).length = n2 ∧ Own w' (w.heap.size + 1) 62 3 Ed.cells A2 c2 (l.eraseIdx x) := by
  have HL := Lib.hid hl
  have HR := Lib.hid hr
  have hb0 : Below w.heap.size w (((w.alloc (.cells #[.int .i64 N, .slice A n c] 24)).alloc (.cells #[.int .i64 0, .slice none 0 0] 24)).alloc (.cells #[.int .i64 N, .slice none 0 0] 24)) := (((Below.refl _ _).alloc (Nat.le_refl _) _).alloc (by simp) _).alloc (by simp; omega) _
  have hk0 : Blk (((w.alloc (.cells #[.int .i64 N, .slice A n c] 24)).alloc (.cells #[.int .i64 0, .slice none 0 0] 24)).alloc (.cells #[.int .i64 N, .slice none 0 0] 24)) w.heap.size 24 #[.int .i64 N, .slice A n c] := ((Blk.new w _ _).alloc _).alloc _
  have hk1 : Blk (((w.alloc (.cells #[.int .i64 N, .slice A n c] 24)).alloc (.cells #[.int .i64 0, .slice none 0 0] 24)).alloc (.cells #[.int .i64 N, .slice none 0 0] 24)) (w.heap.size + 1) 24 #[.int .i64 0, .slice none 0 0] := (Blk.new_at (by simp)).alloc _
  have hk2 : Blk (((w.alloc (.cells #[.int .i64 N, .slice A n c] 24)).alloc (.cells #[.int .i64 0, .slice none 0 0] 24)).alloc (.cells #[.int .i64 N, .slice none 0 0] 24)) (w.heap.size + 1 + 1) 24 #[.int .i64 N, .slice none 0 0] := Blk.new_at (by simp)
  have HB0 := Lib.hid hb0
  have HK0 := Lib.hid hk0
  have HK1 := Lib.hid hk1
  have HK2 := Lib.hid hk2
  clear hl hr hb0 hk0 hk1 hk2
  go_enter Tryd.func50, Tryd.ntmps50
  go_wp2_with fail
  go_loopw [14] (fun s14 wr => ∃ (k : Nat) (A2 : Option Addr) (cap m : Nat), k ≤ n ∧ s14 = .int .i64 k ∧ (lessT l x k).length = m ∧ Below w.heap.size w wr ∧ Blk wr w.heap.size 24 #[.int .i64 N, .slice A n c] ∧ Blk wr (w.heap.size + 1) 24 #[.int .i64 0, .slice none 0 0] ∧ Blk wr (w.heap.size + 1 + 1) 24 #[.int .i64 N, .slice A2 m cap] ∧ Own wr (w.heap.size + 1 + 1 + 1) 62 3 Ed.cells A2 cap (lessT l x k)) (fun s14 _ => n - (intOf s14).toNat)
  case atStart => exact ⟨0, none, 0, 0, by omega, rfl, rfl, HB0.out, HK0.out, HK1.out, HK2.out, Own.nil _ _ _ (fun _ => rfl)⟩
  case round =>
    clear HB0 HK0 HK1 HK2
    rename World => wr
    obtain ⟨k, A2, cap, m, hk, rfl, hm, hb, hk0, hk1, hk2, ho⟩ := hrel
    have hz2 := hk2.lt
    have hz := hb.size
    have HB := Lib.hid hb
    have HK0 := Lib.hid hk0
    have HK1 := Lib.hid hk1
    have HK2 := Lib.hid hk2
    have HO := Lib.hid ho
    have HM := Lib.hid hm
    clear hm hb hk0 hk1 hk2 ho
    by_cases hlt : k < n
    · have hkl : k < l.length := by rw [HL.out]; exact hlt
      obtain ⟨b, off, rfl, hbb, g0, g1, g2⟩ := (HR.out.below HB.out).at3 hkl
      have hsn : k ≠ x → lessT l x (k + 1) = lessT l x k ++ [l[k]] := lessT_snoc l hkl
      have hss : k = x → lessT l x (k + 1) = lessT l x k := fun h => by
        subst h
        exact lessT_same l hkl
      obtain ⟨e, he⟩ : ∃ e, e = l[k] := ⟨_, rfl⟩
      rw [← he] at g0 g1 g2 hsn
      obtain ⟨ea, eb, ew⟩ := e
      have hw0 := lessT_le l x k
      rw [HM.out] at hw0
      have hm45 : m ≤ 45 := by omega
      have hnew := Blk.new wr 62 #[.int .i64 ea, .int .i64 eb, .int .i64 ew]
      have HB2 := Lib.hid (HB.out.alloc hz (.cells #[.int .i64 ea, .int .i64 eb, .int .i64 ew] 62))
      have HK02 := Lib.hid (HK0.out.alloc (.cells #[.int .i64 ea, .int .i64 eb, .int .i64 ew] 62))
      have HK12 := Lib.hid (HK1.out.alloc (.cells #[.int .i64 ea, .int .i64 eb, .int .i64 ew] 62))
      have hk22 := HK2.out.alloc (.cells #[.int .i64 ea, .int .i64 eb, .int .i64 ew] 62)
      have c1 := hk22.cell 1
      have HK22 := Lib.hid hk22
      have HO2 := Lib.hid (HO.out.alloc (.cells #[.int .i64 ea, .int .i64 eb, .int .i64 ew] 62))
      have HSN := Lib.hid hsn
      have HSS := Lib.hid hss
      have hE2 := Blk.new wr 62 #[.int .i64 ea, .int .i64 eb, .int .i64 ew]
      have e0 := hE2.cell 0
      have e1 := hE2.cell 1
      have e2 := hE2.cell 2
      clear hnew hk22 he hsn hss hw0 HB HK0 HK1 HK2 HO hE2
      by_cases hkx : k = x
      · have hkx1 : ((k : Int) != (x : Int)) = false := by simp [hkx]
        have HW : Hid (lessT l x (k + 1) = lessT l x k) := Lib.hid (HSS.out hkx)
        clear hkx
        go_wp2_with fail
        go_roundw
        case rel => exact ⟨k + 1, A2, cap, m, by omega, by go_num, by rw [HW.out]; exact HM.out, HB2.out, HK02.out, HK12.out, HK22.out, by rw [HW.out]; exact HO2.out⟩
        case measure => simp [intOf]; omega
      · have hkx1 : ((k : Int) != (x : Int)) = true := by simp; omega
        have HW : Hid (lessT l x (k + 1) = lessT l x k ++ [⟨ea, eb, ew⟩]) := Lib.hid (HSN.out hkx)
        clear hkx
        have hzz : (wr.alloc (.cells #[.int .i64 ea, .int .i64 eb, .int .i64 ew] 62)).heap.size = wr.heap.size + 1 := size_alloc' _ _
        go_wp2_with (at_builtin; go_must (
          refine wpList_push rfl _ _ _ rfl (w.heap.size + 1 + 1 + 1) 3 62 (.agg #[.int .i64 0, .int .i64 0, .int .i64 0]) 24 Tryd.underlying22 (by kernel_rfl) rfl (by omega) Ed.cells _ #[.int .i64 ea, .int .i64 eb, .int .i64 ew] A2 m cap (lessT l x k) HM.out rfl HO2.out 1 [⟨ea, eb, ew⟩] rfl rfl _ rfl (size_alloc' _ _) (by simp [Value.oneCell']) (by unfold maxLen; omega) (by omega) (by omega) ?_
          intro A3 cap3 w4 hown3 hgrow hloc
          have hrow : ∀ g, blkOf A2 = some g → w.heap.size + 1 + 1 + 1 ≤ g := fun g hg => (HO2.out.lt g hg).1
          have hk24 := (HK22.out.alloc (.cells #[.int .i64 ea, .int .i64 eb, .int .i64 ew] 62)).grown hgrow (fun h => by have := hrow _ h.symm; omega)
          have d1 := hk24.cell 1
          have d2 := hk24.frozen 1
          have HK24 := Lib.hid hk24
          have HROW := Lib.hid hrow
          have HO4 := Lib.hid hown3
          have HG4 := Lib.hid hgrow
          clear hrow hk24 hown3 hgrow hloc))
        go_roundw
        case rel =>
          refine ⟨k + 1, A3, cap3, m + 1, by omega, by go_num, by rw [HW.out, List.length_append, HM.out]; rfl, ?_, ?_, ?_, HK24.out.put 1 _, ?_⟩
          · exact ((HB2.out.alloc (by rw [size_alloc']; omega) _).grown HG4.out (by rw [size_alloc', size_alloc']; omega) (fun g hg => by have := HROW.out g hg; omega)).setCell (show w.heap.size ≤ w.heap.size + 1 + 1 by omega) _
          · exact ((HK02.out.alloc _).grown HG4.out (fun h => by have := HROW.out _ h.symm; omega)).far (p := ⟨w.heap.size + 1 + 1, 1, none⟩) (show w.heap.size ≠ w.heap.size + 1 + 1 by omega) _
          · exact ((HK12.out.alloc _).grown HG4.out (fun h => by have := HROW.out _ h.symm; omega)).far (p := ⟨w.heap.size + 1 + 1, 1, none⟩) (show w.heap.size + 1 ≠ w.heap.size + 1 + 1 by omega) _
          · rw [HW.out]
            exact HO4.out.low (show w.heap.size + 1 + 1 < w.heap.size + 1 + 1 + 1 by omega) _
        case measure => simp [intOf]; omega
    · obtain rfl : k = n := by omega
      have hall : lessT l x k = l.eraseIdx x := by unfold lessT; rw [List.take_of_length_le (by rw [HL.out]; omega)]
      have HALL := Lib.hid hall
      have c0 := HK2.out.cell 0
      have c1 := HK2.out.cell 1
      have d0 := HK1.out.cell 0
      have d1 := HK1.out.cell 1
      have f0 := HK1.out.frozen 0
      have f1 := HK1.out.frozen 1
      clear hall
      go_wp2_with fail
      have hv := (HK1.out.put 0 (.int .i64 N)).put 1 (.slice A2 m cap)
      have hv0 := hv.cell 0
      have hv1 := hv.cell 1
      refine bodyPost_ret (v := .agg #[.int .i64 N, .slice A2 m cap]) (by simp [results, Tryd.results50, go_sem, hv0, hv1]) rfl ?_
      have hbe := (HB.out.setCell (p := ⟨w.heap.size + 1, 0, none⟩) (show w.heap.size ≤ w.heap.size + 1 by omega) (.int .i64 N)).setCell (p := ⟨w.heap.size + 1, 1, none⟩) (show w.heap.size ≤ w.heap.size + 1 by omega) (.slice A2 m cap)
      have hoe := ((HO.out.low (p := ⟨w.heap.size + 1, 0, none⟩) (show w.heap.size + 1 < w.heap.size + 1 + 1 + 1 by omega) (.int .i64 N)).low (p := ⟨w.heap.size + 1, 1, none⟩) (show w.heap.size + 1 < w.heap.size + 1 + 1 + 1 by omega) (.slice A2 m cap)).weaken (show w.heap.size + 1 ≤ w.heap.size + 1 + 1 + 1 by omega)
      rw [HALL.out] at hoe
      exact ⟨A2, m, cap, rfl, hbe, by rw [← HM.out, HALL.out], hoe⟩
end Go.Proofs.YtfaifadfilndmaaDoor
