/- The program's words of neighbours; the reference's degree of a node. Conditions: the edges read as a list; for the words: the graph may be. -/
import Derived.Test.YtjkfogkpacmdlaaNearP
import Derived.Laws.EntriesVeiled
namespace Go.Proofs.Ytjkfogkpacmdlaa
open Go.RowKit
attribute [local go_sem ↓] w_and w_or w_xor w_andNot w_and1 w_and255 w_xor1 w_or0 w_shl w_shl1 w_shr w_sub w_add w_sub1 w_add1
attribute [local go_sem] w_eq0 w_ne0 w_eq1 w_eq w_ne

set_option maxRecDepth 100000 in
set_option maxHeartbeats 1000000 in
theorem graph_Near (N : Nat) (A : Option Addr) (n c : Nat) (l : List Ed) (w : World) (hl : l.length = n) (hg : GoodG N l) (hr : Els w w.heap.size 3 Ed.cells A l) :
    Calls Try.prog 45 #[.agg #[.int .i64 N, .slice A n c]] w fun e w' => ∃ A', e = .returned (.slice A' N N) ∧ Below w.heap.size w w' ∧ Own w' (w.heap.size + 1) 34 1 wcell A' N (nearL N l) := by
  have hN := hg.n10
  have hn : n ≤ 45 := by have := hg.m45; omega
  have HL := Lib.hid hl
  have HG := Lib.hid hg
  have HR := Lib.hid hr
  clear hl hg hr
  go_enter Try.func45, Try.ntmps45
  go_wp2_with (at_make; go_loud (refine wpList_make1 rfl _ _ _ rfl (w.heap.size + 1) 34 4 (fun x => .int .u32 (wN x)) w0 Try.underlying92 (by kernel_rfl) rfl _ .i64 .i64 N rfl rfl (by omega) (by unfold maxLen; omega) (by rw [size_alloc']; exact Nat.le_refl _) ?_; intro v1 hown1 hgrow1; have d0 : v1.cell? ⟨w.heap.size, 1, none⟩ = some (.slice A n c) := ((Blk.new w 24 #[.int .i64 N, .slice A n c]).grown hgrow1 (by simp)).cell 1))
  have hb0 : Blk v1 w.heap.size 24 #[.int .i64 N, .slice A n c] := (Blk.new w _ _).grown hgrow1 (by simp)
  have hb1 : Below w.heap.size w v1 := ((Below.refl w.heap.size w).alloc (Nat.le_refl _) _).grown hgrow1 (by rw [size_alloc']; omega) (fun g hg => by cases hg)
  rw [size_alloc'] at hown1
  have HB0 := Lib.hid hb0
  have HB1 := Lib.hid hb1
  have HO1 := Lib.hid hown1
  clear hb0 hb1 hown1 hgrow1
  go_loopw [12] (fun i wr => ∃ k : Nat, k ≤ n ∧ i = .int .i64 k ∧ Below w.heap.size w wr ∧ Blk wr w.heap.size 24 #[.int .i64 N, .slice A n c] ∧ Own wr (w.heap.size + 1) 34 1 wcell (some ⟨w.heap.size + 1, 0, none⟩) N (nearL N (l.take k))) (fun i _ => n - (intOf i).toNat)
  case atStart => exact ⟨0, by omega, rfl, HB1.out, HB0.out, HO1.out⟩
  case round =>
    clear HB0 HB1 HO1 d0
    rename World => wr
    obtain ⟨k, hk, rfl, hb, hblk, hown⟩ := hrel
    have hsz := hb.size
    have hlt2 := (hown.lt (w.heap.size + 1) rfl).2
    have HB := Lib.hid hb
    have HK := Lib.hid hblk
    have HO := Lib.hid hown
    clear hb hblk hown
    by_cases hlt : k < n
    · have hkl : k < l.length := by rw [HL.out]; exact hlt
      obtain ⟨b0, off, rfl, hbb, g0, g1, g2⟩ := (HR.out.below HB.out).at3 hkl
      obtain ⟨e, he⟩ : ∃ e, e = l[k] := ⟨_, rfl⟩
      have hge : GoodE N e := by rw [he]; exact HG.out.ed _ (List.getElem_mem hkl)
      have htk : l.take (k + 1) = l.take k ++ [e] := by rw [List.take_succ_eq_append_getElem hkl, he]
      have hsn := nearL_snoc N (l.take k) e
      rw [← htk] at hsn
      rw [← he] at g0 g1 g2
      obtain ⟨a, ha⟩ := Int.eq_ofNat_of_zero_le hge.a0
      obtain ⟨b, hb⟩ := Int.eq_ofNat_of_zero_le hge.b0
      have haN := hge.a1
      have hbN := hge.b1
      have hne := hge.ne
      have hab : a ≠ b := by omega
      have hba : b ≠ a := by omega
      have htl := nearL_length N (l.take k)
      obtain ⟨t, ht⟩ : ∃ t, t = nearL N (l.take k) := ⟨_, rfl⟩
      have HO2 : Hid (Own wr (w.heap.size + 1) 34 1 wcell (some ⟨w.heap.size + 1, 0, none⟩) N t) := by
        show Own wr (w.heap.size + 1) 34 1 wcell (some ⟨w.heap.size + 1, 0, none⟩) N t
        rw [ht]; exact HO.out
      rw [← ht] at hsn htl
      have hstep : nearStep t e = (t.set a (wOr (lw t a) (wShl w1 b))).set b (wOr (lw t b) (wShl w1 a)) := by
        unfold nearStep
        rw [ha, hb]
        rfl
      have HSN := Lib.hid (hsn.trans hstep)
      rw [ha] at g0 haN
      rw [hb] at g1 hbN
      have haN' : a < N := by omega
      have hbN' : b < N := by omega
      generalize e.w = ew at g2
      have hE0 := Blk.new wr 61 #[.int .i64 a, .int .i64 b, .int .i64 ew]
      have hO3 := HO2.out
      obtain ⟨q1, hq1, _, _, ca, fa⟩ := hO3.cell1 (f := fun x => .int .u32 (wN x)) (k := a) (by omega)
      obtain rfl : w.heap.size + 1 = q1 := by simpa using hq1
      rw [← lw_at t a (by omega)] at ca
      have hO4 := hO3.put1 (f := fun x => .int .u32 (wN x)) (k := a) (x := wOr (lw t a) (wShl w1 b)) (by omega)
      obtain ⟨q2, hq2, _, _, cb, fb⟩ := hO4.cell1 (f := fun x => .int .u32 (wN x)) (k := b) (by rw [List.length_set]; omega)
      obtain rfl : w.heap.size + 1 = q2 := by simpa using hq2
      rw [← lw_at _ b (by rw [List.length_set]; omega), lw_set t _ (by omega), if_neg hab] at cb
      have hO5 := hO4.put1 (f := fun x => .int .u32 (wN x)) (k := b) (x := wOr (lw t b) (wShl w1 a)) (by rw [List.length_set]; omega)
      have e0 := hE0.cell 0
      have e1 := hE0.cell 1
      have hE1 := hE0.far (p := ⟨w.heap.size + 1, a, none⟩) (show wr.heap.size ≠ w.heap.size + 1 by omega) (.int .u32 (wN (wOr (lw t a) (wShl w1 b))))
      have e0' := hE1.cell 0
      have e1' := hE1.cell 1
      have HO5 := Lib.hid hO5
      have HBA := Lib.hid hba
      have HAB := Lib.hid hab
      clear hsn hstep he hge htk ha hb hne htl ht hO3 hO4 hO5 hE0 hE1 hq1 hq2 hkl hba hab HO HO2
      go_wp2_with fail
      go_region
      go_wp2_with fail
      go_region
      go_wp2_with fail
      go_roundw
      case rel =>
        refine ⟨k + 1, by omega, by go_num, ?_, ?_, ?_⟩
        · exact (((HB.out.setCell (show w.heap.size ≤ w.heap.size + 1 by omega) _).setCell (show w.heap.size ≤ w.heap.size + 1 by omega) _).alloc (by simp; omega) _).drew.drew
        · exact (((HK.out.far (show w.heap.size ≠ w.heap.size + 1 by omega) _).far (show w.heap.size ≠ w.heap.size + 1 by omega) _).alloc _).drew.drew
        · rw [HSN.out]; exact (HO5.out.alloc _).drew.drew
      case measure => simp [intOf]; omega
    · obtain rfl : k = n := by omega
      have hall : l.take k = l := List.take_of_length_le (by rw [HL.out]; omega)
      have HA := Lib.hid hall
      clear hall
      go_wp2_with fail
      go_ret
      exact ⟨_, rfl, HB.out, by rw [← HA.out]; exact HO.out⟩

end Go.Proofs.Ytjkfogkpacmdlaa
