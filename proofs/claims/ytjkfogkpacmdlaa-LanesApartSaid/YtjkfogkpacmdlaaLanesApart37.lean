/- Worlds that come of a world by draws and new blocks alone; what holds stays. For regions that draw their order and append. Conditions: none. -/
import Derived.Test.YtjkfogkpacmdlaaLanesApart26
import Derived.Test.YtjkfogkpacmdlaaLanesApart22
namespace Go.Proofs.Ytjkfogkpacmdlaa
open Go.RowKit

/-- W comes of v by draws and new blocks. -/
inductive Wex (v : World) : World → Prop where
  | refl : Wex v v
  | alloc {W : World} (o : Obj) : Wex v W → Wex v (W.alloc o)
  | drew {W : World} : Wex v W → Wex v W.drew
  | drewN {W : World} (q : Nat) : Wex v W → Wex v (W.drewN q)
theorem Wex.size {v W : World} (h : Wex v W) : v.heap.size ≤ W.heap.size := by
  induction h with
  | refl => exact Nat.le_refl _
  | alloc o _ ih => rw [size_alloc']; omega
  | drew _ ih => exact ih
  | drewN _ _ ih => exact ih
theorem Wex.bel {v W : World} (h : Wex v W) {B : Nat} {w : World} (hb : Below B w v) (hB : B ≤ v.heap.size) : Below B w W := by
  induction h with
  | refl => exact hb
  | alloc o hx ih => exact ih.alloc (Nat.le_trans hB hx.size) o
  | drew _ ih => exact ih.drew
  | drewN _ _ ih => exact below_drewN ih _
theorem Wex.blk {v W : World} (h : Wex v W) {g : Nat} {t : TypeId} {cs : Array Value} (k : Blk v g t cs) : Blk W g t cs := by
  induction h with
  | refl => exact k
  | alloc o _ ih => exact ih.alloc o
  | drew _ ih => exact ih.drew
  | drewN _ _ ih => exact ih.drewN _
theorem Wex.cell {v W : World} (h : Wex v W) {g : Nat} {t : TypeId} {cs : Array Value} (k : Blk v g t cs) (i : Nat) {u : Value} (hu : cs[i]? = some u) : W.cell? ⟨g, i, none⟩ = some u := by
  rw [← hu]
  exact (h.blk k).cell i
theorem Wex.own {v W : World} (h : Wex v W) {α : Type} {B c cap : Nat} {e : TypeId} {f : α → List Value} {A : Option Addr} {l : List α} (k : Own v B e c f A cap l) : Own W B e c f A cap l := by
  induction h with
  | refl => exact k
  | alloc o _ ih => exact ih.alloc o
  | drew _ ih => exact ih.drew
  | drewN _ _ ih => exact ih.drewN _
theorem Own.ne_blk {α : Type} {w : World} {B c cap g : Nat} {e t : TypeId} {f : α → List Value} {A : Option Addr} {l : List α} {cs : Array Value} (h : Own w B e c f A cap l) (hb : Blk w g t cs) (hne : t ≠ e) : some g ≠ blkOf A := by
  intro he
  rcases h.2.2 with ⟨hv, _⟩ | ⟨g', cp, cur, hv, _, hh, _⟩
  · injection hv with hv
    rw [hv] at he; cases he
  · injection hv with hv
    subst hv
    have hg : g = g' := by simpa [blkOf] using he
    subst hg
    unfold Blk at hb
    rw [hh] at hb
    injection hb with hb
    injection hb with _ h2
    exact hne h2.symm
theorem Blk.new_at {W : World} {g : Nat} {t : TypeId} {cs : Array Value} (h : W.heap.size = g) : Blk (W.alloc (.cells cs t)) g t cs := by
  subst h
  exact Blk.new _ _ _
end Go.Proofs.Ytjkfogkpacmdlaa

/- The reference's graph without some nodes. Conditions: the edges read as a list and may be. -/
namespace Go.Proofs.Ytjkfogkpacmdlaa
open Go.RowKit
attribute [local go_sem ↓] w_and w_or w_xor w_andNot w_and1 w_and255 w_xor1 w_or0 w_shl w_shl1 w_shr w_sub w_add w_sub1 w_add1
attribute [local go_sem] w_eq0 w_ne0 w_eq1 w_eq w_ne

set_option maxRecDepth 100000 in
set_option maxHeartbeats 1000000 in
theorem ref_Without (N : Nat) (A : Option Addr) (n c : Nat) (l : List Ed) (x : BitVec 32) (w : World) (hl : l.length = n) (hg : GoodG N l) (hr : Els w w.heap.size 3 Ed.cells A l) :
    Calls Try.prog 47 #[.agg #[.int .i64 N, .slice A n c], .int .u32 (wN x)] w fun e w' => ∃ A2 n2 c2, e = .returned (.agg #[.int .i64 N, .slice A2 n2 c2]) ∧ Below w.heap.size w w' ∧ (withoutE l x).length = n2 ∧ Els w' w'.heap.size 3 Ed.cells A2 (withoutE l x) := by
  have hm45 := hg.m45
  have HL := Lib.hid hl
  have HG := Lib.hid hg
  have HR := Lib.hid hr
  have hn45 : n ≤ 45 := by omega
  have hb0 : Below w.heap.size w (((w.alloc (.cells #[.int .i64 N, .slice A n c] 24)).alloc (.cells #[.int .i64 0, .slice none 0 0] 24)).alloc (.cells #[.int .i64 N, .slice none 0 0] 24)) := (((Below.refl _ _).alloc (Nat.le_refl _) _).alloc (by simp) _).alloc (by simp; omega) _
  have hk0 : Blk (((w.alloc (.cells #[.int .i64 N, .slice A n c] 24)).alloc (.cells #[.int .i64 0, .slice none 0 0] 24)).alloc (.cells #[.int .i64 N, .slice none 0 0] 24)) w.heap.size 24 #[.int .i64 N, .slice A n c] := ((Blk.new w _ _).alloc _).alloc _
  have hk1 : Blk (((w.alloc (.cells #[.int .i64 N, .slice A n c] 24)).alloc (.cells #[.int .i64 0, .slice none 0 0] 24)).alloc (.cells #[.int .i64 N, .slice none 0 0] 24)) (w.heap.size + 1) 24 #[.int .i64 0, .slice none 0 0] := (Blk.new_at (by simp)).alloc _
  have hk2 : Blk (((w.alloc (.cells #[.int .i64 N, .slice A n c] 24)).alloc (.cells #[.int .i64 0, .slice none 0 0] 24)).alloc (.cells #[.int .i64 N, .slice none 0 0] 24)) (w.heap.size + 1 + 1) 24 #[.int .i64 N, .slice none 0 0] := Blk.new_at (by simp)
  have HB0 := Lib.hid hb0
  have HK0 := Lib.hid hk0
  have HK1 := Lib.hid hk1
  have HK2 := Lib.hid hk2
  clear hl hg hr hm45 hb0 hk0 hk1 hk2
  go_enter Try.func47, Try.ntmps47
  go_wp2_with fail
  go_loopw [14] (fun s14 wr => ∃ (k : Nat) (A2 : Option Addr) (cap m : Nat), k ≤ n ∧ s14 = .int .i64 k ∧ (withoutE (l.take k) x).length = m ∧ Below w.heap.size w wr ∧ Blk wr w.heap.size 24 #[.int .i64 N, .slice A n c] ∧ Blk wr (w.heap.size + 1) 24 #[.int .i64 0, .slice none 0 0] ∧ Blk wr (w.heap.size + 1 + 1) 24 #[.int .i64 N, .slice A2 m cap] ∧ Own wr (w.heap.size + 1 + 1 + 1) 61 3 Ed.cells A2 cap (withoutE (l.take k) x)) (fun s14 _ => n - (intOf s14).toNat)
  case atStart => exact ⟨0, none, 0, 0, by omega, rfl, rfl, HB0.out, HK0.out, HK1.out, HK2.out, Own.nil _ _ _ (fun _ => rfl)⟩
  case round =>
    clear HB0 HK0 HK1 HK2
    rename World => wr
    obtain ⟨k, A2, cap, m, hk, rfl, hm, hb, hk0, hk1, hk2, ho⟩ := hrel
    have hz2 := hk2.lt
    have hz := hb.size
    have HB := Lib.hid hb
    have HK0 := Lib.hid hk0
    have HK1 := Lib.hid hk1
    have HK2 := Lib.hid hk2
    have HO := Lib.hid ho
    have HM := Lib.hid hm
    clear hm hb hk0 hk1 hk2 ho
    by_cases hlt : k < n
    · have hkl : k < l.length := by rw [HL.out]; exact hlt
      obtain ⟨b, off, rfl, hbb, g0, g1, g2⟩ := (HR.out.below HB.out).at3 hkl
      have hsn := without_snoc l x k hkl
      obtain ⟨e, he⟩ : ∃ e, e = l[k] := ⟨_, rfl⟩
      rw [← he] at g0 g1 g2 hsn
      obtain ⟨ea, eb, ew⟩ := e
      have hw0 := without_le (l.take k) x
      rw [List.length_take, HM.out] at hw0
      have hm45 : m ≤ 45 := by omega
      have hnew := Blk.new wr 61 #[.int .i64 ea, .int .i64 eb, .int .i64 ew]
      have e0 := hnew.cell 0
      have e1 := hnew.cell 1
      have e2 := hnew.cell 2
      have HB2 := Lib.hid (HB.out.alloc hz (.cells #[.int .i64 ea, .int .i64 eb, .int .i64 ew] 61))
      have HK02 := Lib.hid (HK0.out.alloc (.cells #[.int .i64 ea, .int .i64 eb, .int .i64 ew] 61))
      have HK12 := Lib.hid (HK1.out.alloc (.cells #[.int .i64 ea, .int .i64 eb, .int .i64 ew] 61))
      have hk22 := HK2.out.alloc (.cells #[.int .i64 ea, .int .i64 eb, .int .i64 ew] 61)
      have c1 := hk22.cell 1
      have HK22 := Lib.hid hk22
      have HO2 := Lib.hid (HO.out.alloc (.cells #[.int .i64 ea, .int .i64 eb, .int .i64 ew] 61))
      have HSN := Lib.hid hsn
      clear hnew hk22 he hsn hw0 HB HK0 HK1 HK2 HO
      go_wp2_with fail
      refine (Bit_any x ea _).mono ?_
      rintro e w' ⟨rfl, rfl⟩
      have hou : outE x ⟨ea, eb, ew⟩ = (!bitB x ea && !bitB x eb) := rfl
      obtain ⟨ba, hba⟩ : ∃ ba, ba = bitB x ea := ⟨_, rfl⟩
      obtain ⟨bb, hbb2⟩ : ∃ bb, bb = bitB x eb := ⟨_, rfl⟩
      rw [← hba, ← hbb2] at hou
      rw [← hba]
      have HOU := Lib.hid hou
      have HBB := Lib.hid hbb2
      clear hba hbb2 hou
      cases ba with
      | true =>
        have HW : Hid (withoutE (l.take (k + 1)) x = withoutE (l.take k) x) := Lib.hid (by rw [HSN.out, HOU.out]; simp)
        go_wp2_with fail
        go_roundw
        case rel => exact ⟨k + 1, A2, cap, m, by omega, by go_num, by rw [HW.out]; exact HM.out, HB2.out, HK02.out, HK12.out, HK22.out, by rw [HW.out]; exact HO2.out⟩
        case measure => simp [intOf]; omega
      | false =>
        go_wp2_with fail
        refine (Bit_any x eb _).mono ?_
        rintro e w' ⟨rfl, rfl⟩
        rw [← HBB.out]
        cases bb with
        | true =>
          have HW : Hid (withoutE (l.take (k + 1)) x = withoutE (l.take k) x) := Lib.hid (by rw [HSN.out, HOU.out]; simp)
          go_wp2_with fail
          go_roundw
          case rel => exact ⟨k + 1, A2, cap, m, by omega, by go_num, by rw [HW.out]; exact HM.out, HB2.out, HK02.out, HK12.out, HK22.out, by rw [HW.out]; exact HO2.out⟩
          case measure => simp [intOf]; omega
        | false =>
          have HW : Hid (withoutE (l.take (k + 1)) x = withoutE (l.take k) x ++ [⟨ea, eb, ew⟩]) := Lib.hid (by rw [HSN.out, HOU.out]; simp)
          have hzz : (wr.alloc (.cells #[.int .i64 ea, .int .i64 eb, .int .i64 ew] 61)).heap.size = wr.heap.size + 1 := size_alloc' _ _
          go_wp2_with (at_builtin; go_must (
            refine wpList_push rfl _ _ _ rfl (w.heap.size + 1 + 1 + 1) 3 61 (.agg #[.int .i64 0, .int .i64 0, .int .i64 0]) 24 Try.underlying22 (by kernel_rfl) rfl (by omega) Ed.cells _ #[.int .i64 ea, .int .i64 eb, .int .i64 ew] A2 m cap (withoutE (l.take k) x) HM.out rfl HO2.out 1 [⟨ea, eb, ew⟩] rfl rfl _ rfl (size_alloc' _ _) (by simp [Value.oneCell']) (by unfold maxLen; omega) (by omega) (by omega) ?_
            intro A3 cap3 w4 hown3 hgrow hloc
            have hrow : ∀ g, blkOf A2 = some g → w.heap.size + 1 + 1 + 1 ≤ g := fun g hg => (HO2.out.lt g hg).1
            have hk24 := (HK22.out.alloc (.cells #[.int .i64 ea, .int .i64 eb, .int .i64 ew] 61)).grown hgrow (fun h => by have := hrow _ h.symm; omega)
            have d1 := hk24.cell 1
            have d2 := hk24.frozen 1
            have HK24 := Lib.hid hk24
            have HROW := Lib.hid hrow
            have HO4 := Lib.hid hown3
            have HG4 := Lib.hid hgrow
            clear hrow hk24 hown3 hgrow hloc))
          go_roundw
          case rel =>
            refine ⟨k + 1, A3, cap3, m + 1, by omega, by go_num, by rw [HW.out, List.length_append, HM.out]; rfl, ?_, ?_, ?_, HK24.out.put 1 _, ?_⟩
            · exact ((HB2.out.alloc (by rw [size_alloc']; omega) _).grown HG4.out (by rw [size_alloc', size_alloc']; omega) (fun g hg => by have := HROW.out g hg; omega)).setCell (show w.heap.size ≤ w.heap.size + 1 + 1 by omega) _
            · exact ((HK02.out.alloc _).grown HG4.out (fun h => by have := HROW.out _ h.symm; omega)).far (p := ⟨w.heap.size + 1 + 1, 1, none⟩) (show w.heap.size ≠ w.heap.size + 1 + 1 by omega) _
            · exact ((HK12.out.alloc _).grown HG4.out (fun h => by have := HROW.out _ h.symm; omega)).far (p := ⟨w.heap.size + 1 + 1, 1, none⟩) (show w.heap.size + 1 ≠ w.heap.size + 1 + 1 by omega) _
            · rw [HW.out]
              exact HO4.out.low (show w.heap.size + 1 + 1 < w.heap.size + 1 + 1 + 1 by omega) _
          case measure => simp [intOf]; omega
    · obtain rfl : k = n := by omega
      have hall : l.take k = l := List.take_of_length_le (by rw [HL.out]; omega)
      have HALL := Lib.hid hall
      have c0 := HK2.out.cell 0
      have c1 := HK2.out.cell 1
      have d0 := HK1.out.cell 0
      have d1 := HK1.out.cell 1
      have f0 := HK1.out.frozen 0
      have f1 := HK1.out.frozen 1
      clear hall
      go_wp2_with fail
      have hv := (HK1.out.put 0 (.int .i64 N)).put 1 (.slice A2 m cap)
      have hv0 := hv.cell 0
      have hv1 := hv.cell 1
      refine bodyPost_ret (v := .agg #[.int .i64 N, .slice A2 m cap]) (by simp [results, Try.results47, go_sem, hv0, hv1]) rfl ?_
      have hbe := (HB.out.setCell (p := ⟨w.heap.size + 1, 0, none⟩) (show w.heap.size ≤ w.heap.size + 1 by omega) (.int .i64 N)).setCell (p := ⟨w.heap.size + 1, 1, none⟩) (show w.heap.size ≤ w.heap.size + 1 by omega) (.slice A2 m cap)
      have hoe := ((HO.out.low (p := ⟨w.heap.size + 1, 0, none⟩) (show w.heap.size + 1 < w.heap.size + 1 + 1 + 1 by omega) (.int .i64 N)).low (p := ⟨w.heap.size + 1, 1, none⟩) (show w.heap.size + 1 < w.heap.size + 1 + 1 + 1 by omega) (.slice A2 m cap)).els
      rw [HALL.out] at hoe
      exact ⟨A2, m, cap, rfl, hbe, by rw [← HM.out, HALL.out], hoe⟩
end Go.Proofs.Ytjkfogkpacmdlaa
