/- slices.Grow of nothing, slices.Concat at a slice of calls; a literal's row reads as a list. Conditions: what is joined reads as lists. -/
import Derived.Test.YtaldkafibemhnaaNewsA
import Derived.Test.YtaldkafibemhnaaOpen
import Derived.Lib.AppendZeros
namespace Go.Proofs.Ytaldkafibemhnaa
open Go.RowKit

theorem els_of_blk {α : Type} {w : World} {g : Nat} {t : TypeId} {cs : Array Value} (h : Blk w g t cs) (c : Nat) (f : α → List Value) (hf : ∀ a, (f a).length = c) (l : List α) (hcs : cs.toList = l.flatMap f) : Els w w.heap.size c f (some ⟨g, 0, none⟩) l := fun _ => by
  refine ⟨g, 0, rfl, h.lt, fun k a ha j u hu => ?_⟩
  rw [show (0 + k * c + j) = k * c + j from by omega, h.cell, ← Array.getElem?_toList, hcs]
  exact flat_at hf l k a ha j u hu

theorem grow_run {P : Program} {α : Type} (w : World) (t tn ty e : TypeId) (z : Value) (c bytes : Nat) (ht : P.underlying t = some (.slice e)) (htn : P.underlying tn = some (.int .i64)) (hI : (P.info? e).map (fun i => (i.zero, i.size, i.bytes)) = some (some z, c, bytes)) (hz1 : z.cells.size = c) (hc : 0 < c)
    (f : α → List Value) (hf : ∀ a, (f a).length = c) (n : Nat) (h0 : 0 < n) (hm : n ≤ maxLen) (h48 : n * bytes ≤ 281474976710656) :
    ∃ cap w', (Builtin.append_ #[t, tn] ty #[.slice none 0 0, .int .i64 n]).run P w = .ok (.slice (some ⟨w.heap.size, 0, none⟩) n cap) w' ∧ n ≤ cap ∧ Below w.heap.size w w' ∧ w.heap.size < w'.heap.size ∧ Own w' w.heap.size e c f (some ⟨w.heap.size, 0, none⟩) cap [] := by
  obtain ⟨i, hi, hz, hsz, hby⟩ := info_parts hI
  have hr := Lib.run_append_nil_zeros (P := P) w t tn ty e i z .i64 .i64 ht htn hi hz n h0 (by omega) (by unfold maxLen at hm; omega) (by rw [hby]; exact h48)
  have h1 := grownCap_ge w n 0 e
  refine ⟨_, _, hr, h1, (Below.refl _ _).drew.alloc (Nat.le_refl _) _, by simp, hf, by simp, .inr ⟨w.heap.size, _, _, rfl, Nat.le_refl _, heap_alloc_new w.drew _, Nat.zero_le _, grownCap_le_maxLen w n 0 e hm, ?_, by simp⟩⟩
  rw [Array.size_append, size_zeroCells, size_zeroCells, hz1, ← Nat.add_mul]
  congr 1
  omega

set_option maxRecDepth 100000 in
theorem Grow_calls (n : Nat) (w : World) (h0 : 0 < n) (hn : n ≤ 64) :
    Calls Try.prog 71 #[.slice none 0 0, .int .i64 n] w fun e w' => ∃ cap, e = .returned (.slice (some ⟨w.heap.size, 0, none⟩) 0 cap) ∧ Below w.heap.size w w' ∧ w.heap.size < w'.heap.size ∧ Own w' w.heap.size 99 2 ccell (some ⟨w.heap.size, 0, none⟩) cap [] := by
  obtain ⟨cap, w1, hr, hcap, hb, hlt, hown⟩ := grow_run (P := Try.prog) w 50 3 50 99 (.agg #[.int .i64 0, .int .i64 0]) 2 16 Try.underlying50 Try.underlying3 (by kernel_rfl) rfl (by omega) ccell (fun _ => rfl) n h0 (by unfold maxLen; omega) (by omega)
  have HR := Lib.hid hr
  have HO := Lib.hid hown
  have HB := Lib.hid hb
  clear hr hown hb
  go_enter Try.func71, Try.ntmps71
  go_wp2_with (at_builtin; go_loud (refine Lib.wpList_append_run _ rfl _ _ _ _ rfl _ _ rfl rfl _ _ HR.out ?_))
  go_ret
  exact ⟨cap, rfl, HB.out, hlt, HO.out⟩

abbrev slv {α : Type} (s : Sls α) : List Value := [s.val]
def lensTo {α : Type} (ss : List (Sls α)) : Nat := (ss.map fun s => s.l.length).sum
def joined {α : Type} (ss : List (Sls α)) : List α := ss.flatMap fun s => s.l
theorem joined_length {α : Type} (ss : List (Sls α)) : (joined ss).length = lensTo ss := by
  unfold joined lensTo
  rw [List.length_flatMap]
theorem lensTo_succ {α : Type} (ss : List (Sls α)) (k : Nat) (hk : k < ss.length) : lensTo (ss.take (k + 1)) = lensTo (ss.take k) + ss[k].l.length := by
  unfold lensTo
  rw [List.take_succ_eq_append_getElem hk, List.map_append, List.sum_append]
  rfl
theorem joined_succ {α : Type} (ss : List (Sls α)) (k : Nat) (hk : k < ss.length) : joined (ss.take (k + 1)) = joined (ss.take k) ++ ss[k].l := by
  unfold joined
  rw [List.take_succ_eq_append_getElem hk, List.flatMap_append, List.flatMap_singleton]
theorem lensTo_le {α : Type} (ss : List (Sls α)) (k : Nat) : lensTo (ss.take k) ≤ lensTo ss := by
  have h : lensTo ss = lensTo (ss.take k) + lensTo (ss.drop k) := by
    unfold lensTo
    rw [← List.sum_append, ← List.map_append, List.take_append_drop]
  omega

set_option maxRecDepth 100000 in
set_option maxHeartbeats 1000000 in
theorem Concat_calls (AA : Option Addr) (m cc : Nat) (ss : List (Sls Cl)) (w : World) (hm : ss.length = m) (hm8 : m ≤ 8) (hsum : lensTo ss ≤ 64) (hpos : 0 < lensTo ss) (hr : Els w w.heap.size 1 slv AA ss) (hs : ∀ s ∈ ss, Els w w.heap.size 2 ccell s.A s.l) :
    Calls Try.prog 61 #[.slice AA m cc] w fun e w' => ∃ A cap, e = .returned (.slice A (lensTo ss) cap) ∧ Below w.heap.size w w' ∧ Own w' w.heap.size 99 2 ccell A cap (joined ss) := by
  have HM := Lib.hid hm
  have HS := Lib.hid hs
  have HLE := Lib.hid (lensTo_le ss)
  have hall : ss.take m = ss := List.take_of_length_le (by omega)
  have HALL := Lib.hid hall
  clear hm hs hall
  obtain ⟨tot, ht⟩ : ∃ t, t = lensTo ss := ⟨_, rfl⟩
  rw [← ht] at hsum hpos HLE ⊢
  have HT := Lib.hid ht
  clear ht
  go_enter Try.func61, Try.ntmps61
  go_wp2_with fail
  go_loop [3, 11] (fun s i => ∃ k : Nat, k ≤ m ∧ i = .int .i64 k ∧ s = .int .i64 (lensTo (ss.take k) : Nat)) (fun _ i => m - (intOf i).toNat)
  case atStart => exact ⟨0, by omega, rfl, rfl⟩
  case round =>
    obtain ⟨k, hk, rfl, rfl⟩ := hrel
    have hle := HLE.out k
    by_cases hlt : k < m
    · have hkl : k < ss.length := by rw [HM.out]; exact hlt
      obtain ⟨b, off, rfl, hbb, g0⟩ := hr.at1 (f := fun s : Sls Cl => s.val) hkl
      have HSU := Lib.hid (lensTo_succ ss k hkl)
      have hle2 := HLE.out (k + 1)
      rw [HSU.out] at hle2
      obtain ⟨s, hs⟩ : ∃ s, s = ss[k] := ⟨_, rfl⟩
      have HSE := Lib.hid hs
      rw [← hs] at g0 hle2
      clear hs
      obtain ⟨sA, sc, sl⟩ := s
      obtain ⟨n0, hn0⟩ : ∃ n0, n0 = sl.length := ⟨_, rfl⟩
      have g0' : w.cell? ⟨b, off + k, none⟩ = some (.slice sA n0 sc) := by rw [hn0]; exact g0
      have hle3 : lensTo (ss.take k) + n0 ≤ tot := by rw [hn0]; exact hle2
      have HN0 := Lib.hid hn0
      clear g0 hle2 hn0
      have HSU2 : Hid (lensTo (ss.take (k + 1)) = lensTo (ss.take k) + n0) := by
        show lensTo (ss.take (k + 1)) = lensTo (ss.take k) + n0
        rw [HSU.out, ← HSE.out, HN0.out]
      go_wp2_with fail
      go_round
      case rel => exact ⟨k + 1, by omega, by go_num, by rw [HSU2.out]; go_num⟩
      case measure => simp [intOf]; omega
    · obtain rfl : k = m := by omega
      rw [HALL.out, ← HT.out]
      have HG := Lib.hid (Grow_calls tot w hpos hsum)
      go_wp2_with fail
      refine HG.out.mono ?_
      clear HG
      rintro e v1 ⟨cap, rfl, hb1, hlt1, hown1⟩
      have HO1 := Lib.hid hown1
      have HB1 := Lib.hid hb1
      clear hb1 hown1
      go_wp2_with fail
      go_loopw [6, 27] (fun s i wr => ∃ (q : Nat) (A : Option Addr) (cap : Nat), q ≤ k ∧ i = .int .i64 q ∧ s = .slice A (lensTo (ss.take q)) cap ∧ Below w.heap.size w wr ∧ Own wr w.heap.size 99 2 ccell A cap (joined (ss.take q))) (fun _ i _ => k - (intOf i).toNat)
      case atStart => exact ⟨0, _, _, by omega, rfl, rfl, HB1.out, HO1.out⟩
      case round =>
        clear HO1 HB1 hle
        rename World => wr
        obtain ⟨q, A, cap, hq, rfl, rfl, hb, hown⟩ := hrel
        have HO := Lib.hid hown
        have HB := Lib.hid hb
        have hle := HLE.out q
        have hz := hb.size
        clear hb hown
        by_cases hlt : q < k
        · have hkl : q < ss.length := by rw [HM.out]; exact hlt
          obtain ⟨b, off, rfl, hbb, g0⟩ := (hr.below HB.out).at1 (f := fun s : Sls Cl => s.val) hkl
          have HSU := Lib.hid (lensTo_succ ss q hkl)
          have HJ := Lib.hid (joined_succ ss q hkl)
          have hes := (HS.out _ (List.getElem_mem hkl)).below HB.out
          have hle2 := HLE.out (q + 1)
          rw [HSU.out] at hle2
          obtain ⟨s, hs⟩ : ∃ s, s = ss[q] := ⟨_, rfl⟩
          have HSE := Lib.hid hs
          rw [← hs] at g0 hle2 hes
          clear hs
          obtain ⟨sA, sc, sl⟩ := s
          obtain ⟨n0, hn0⟩ : ∃ n0, n0 = sl.length := ⟨_, rfl⟩
          have g0' : wr.cell? ⟨b, off + q, none⟩ = some (.slice sA n0 sc) := by rw [hn0]; exact g0
          have hle3 : lensTo (ss.take q) + n0 ≤ tot := by rw [hn0]; exact hle2
          have HN0 := Lib.hid hn0
          have HES := Lib.hid hes
          clear g0 hle2 hn0 hes
          have HSU2 : Hid (lensTo (ss.take (q + 1)) = lensTo (ss.take q) + n0) := by
            show lensTo (ss.take (q + 1)) = lensTo (ss.take q) + n0
            rw [HSU.out, ← HSE.out, HN0.out]
          go_wp2_with (at_builtin; go_loud (refine wpList_append_els rfl _ _ _ rfl w.heap.size 2 99 (.agg #[.int .i64 0, .int .i64 0]) 16 Try.underlying50 (by kernel_rfl) rfl (by omega) ccell wr A _ cap (joined (ss.take q)) (joined_length _) rfl HO.out sA n0 sc sl HN0.out.symm rfl w.heap.size HES.out (one_flat (by simp [Value.oneCell']) _) (by unfold maxLen; omega) (by omega) hz ?_; intro A2 cap2 w4 hown2 hgrow hloc))
          go_roundw
          case rel => exact ⟨q + 1, A2, cap2, by omega, by go_num, by rw [HSU2.out], HB.out.grown hgrow hz (fun g hg => (HO.out.lt g hg).1), by rw [HJ.out, ← HSE.out]; exact hown2⟩
          case measure => simp [intOf]; omega
        · obtain rfl : q = k := by omega
          have HO2 : Hid (Own wr w.heap.size 99 2 ccell A cap (joined ss)) := by
            show Own wr w.heap.size 99 2 ccell A cap (joined ss)
            have := HO.out
            rwa [HALL.out] at this
          rw [HALL.out, ← HT.out]
          go_wp2_with fail
          go_ret
          exact ⟨_, _, rfl, HB.out, HO2.out⟩
end Go.Proofs.Ytaldkafibemhnaa
