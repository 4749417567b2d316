/- slices.Collect of a word's bits. Conditions: the iterator is that of graph.Each, its box holds the word; the table. -/
import Derived.Test.YtbbdiondhnmnaaaDoorSpanMany14
import Derived.Test.YtbbdiondhnmnaaaDoorSpanMany33
import Derived.Test.YtbbdiondhnmnaaaDoorSpanMany24
import Derived.Test.YtbbdiondhnmnaaaDoorSpanMany6
import Derived.BigRegionIn
import Derived.Test.YtbbdiondhnmnaaaDoorSpanMany30
namespace Go.Proofs.YtbbdiondhnmnaaaDoor
open Go.RowKit Go.Shelf
attribute [local go_sem] Oper.semAt_some

def bitsI (x : BitVec 32) : List Int := (bitsL x).map fun j : Nat => (j : Int)
theorem bitsL_le (x : BitVec 32) : (bitsL x).length ≤ 32 := by
  unfold bitsL
  have := List.length_filter_le (fun j => x.getLsbD j) (List.range 32)
  simpa using this

set_option maxRecDepth 100000 in
set_option maxHeartbeats 1000000 in
theorem AppendSeq_bits (bx : Nat) (x : BitVec 32) (w : World) (hbox : Boxed w bx 37 (.int .u32 (wN x))) (htab : TabOk w) (h0 : 0 < bx) :
    Calls Tryd.prog 17 #[.slice none 0 0, .func (.func 18) #[] #[.pointer (some ⟨bx, 0, none⟩)]] w fun e w' => ∃ (A : Option Addr) (n cap : Nat), e = .returned (.slice A n cap) ∧ n = (bitsI x).length ∧ Held [bx] w w' ∧ Own w' (w.heap.size + 1) 3 1 icell A cap (bitsI x) := by
  refine (callsIn_wide (n := 9)).1 ?_
  refine callsIn_of_wp_marks Tryd.func17 rfl trivial ?_ rfl
  simp only [Tryd.ntmps17, List.size_toArray, List.length_cons, List.length_nil, Nat.reduceAdd, Nat.reduceSub, Array.replicate_succ, Array.replicate_zero, List.push_toArray, List.append_toArray, List.nil_append, List.cons_append]
  gi_wp2_with fail
  obtain ⟨S, hS⟩ : ∃ S, S = w.heap.size := ⟨_, rfl⟩
  obtain ⟨W1, hW1⟩ : ∃ W1, W1 = w.alloc (.cells #[.slice none 0 0] 40) := ⟨_, rfl⟩
  have hbS : bx < S := by rw [hS]; exact hbox.lt
  have hB1 : Below S w W1 := by rw [hW1, hS]; exact (Below.refl _ w).alloc (Nat.le_refl _) _
  have hk1 : Blk W1 S 40 #[.slice none 0 0] := by rw [hW1, hS]; exact Blk.new w _ _
  have hx1 : Boxed W1 bx 37 (.int .u32 (wN x)) := by rw [hW1]; exact hbox.alloc _
  have ht1 : TabOk W1 := htab.below hB1 (by omega)
  have hz1 : W1.heap.size = S + 1 := by rw [hW1, size_alloc', hS]
  rw [← hW1, ← hS]
  have HB1 := Lib.hid hB1
  have HK1 := Lib.hid hk1
  have HS := Lib.hid hS
  have h32 := bitsL_le x
  clear hW1 hS hB1 hbox htab
  refine wpIn_bits (p := 7) (q := 5) 9 18 bx 37 (.int .u32 (wN x)) (bitsL x) [bx, S] rfl (enters_of Tryd.func18 (by kernel_rfl) rfl)
    (Each1_seq _ _ _ h0) hx1 ht1 (by simp) (fun pre W => ∃ (A : Option Addr) (cap : Nat), Blk W S 40 #[.slice A pre.length cap] ∧ Own W (S + 1) 3 1 icell A cap (pre.map fun j : Nat => (j : Int))) (fun _ _ _ => False)
    (fun s X Y row h hg hrow => by obtain ⟨A, cap, h1, h2⟩ := h; exact ⟨A, cap, blk_kept h1 hg hrow, own_kept h2 hg hrow⟩) (fun _ _ _ _ _ h _ _ => h)
    (fun s X v h => by obtain ⟨A, cap, h1, h2⟩ := h; exact ⟨A, cap, h1.far (show S ≠ bx by omega) v, h2.low (show bx < S + 1 by omega) v⟩) ⟨none, 0, hk1, Own.nil _ _ _ (fun _ => rfl)⟩ ?assign ?body ?done (fun _ _ _ _ _ _ _ h _ => h.elim)
  case assign =>
    intro l' j W K hK
    simp only [List.setIfInBounds_toArray, List.set_cons_succ, List.set_cons_zero] at hK ⊢
    gi_wp2_with fail
    exact hK
  case body =>
    intro l' pre j W hh hi hpre
    obtain ⟨A, cap, hk, ho⟩ := hi
    have hpl : pre.length < 32 := by
      obtain ⟨z, hz⟩ := hpre
      have := congrArg List.length hz
      simp at this
      omega
    have hSW := hk.lt
    have c0 := hk.cell 0
    have c0a := (hk.alloc (.cells #[.int .i64 j] 3)).cell 0
    have HH := Lib.hid hh
    have HK := Lib.hid hk
    have HO := Lib.hid ho
    simp only [List.setIfInBounds_toArray, List.set_cons_succ, List.set_cons_zero]
    clear hh hk ho
    gi_wp2_with (gi_at_builtin; go_must (
      refine wpListIn_push rfl _ _ _ rfl (S + 1) 1 3 (.int .i64 0) 8 Tryd.underlying40 (by kernel_rfl) rfl (by omega) icell W #[.int .i64 j] A pre.length cap (pre.map fun j : Nat => (j : Int)) (by simp) rfl HO.out 1 [(j : Int)] rfl rfl _ rfl rfl (by simp [Value.oneCell']) (by unfold maxLen; omega) (by omega) (by omega) ?_
      intro A2 cap2 w4 hown4 hgrow4 hloc4
      have hne4 : some S ≠ blkOf A := fun h => by have := (HO.out.lt _ h.symm).1; omega
      have hk4 := (HK.out.alloc (.cells #[.int .i64 j] 3)).grown hgrow4 hne4
      have d1 := hk4.frozen 0
      have d0 := hk4.cell 0
      have HK4 := Lib.hid hk4
      have HO4 := Lib.hid hown4
      have HG4 := Lib.hid hgrow4
      clear hown4 hgrow4 hloc4 hk4 hne4))
    have hbW : Below (S + 1) W w4 := ((Below.refl (S + 1) W).alloc (by omega) _).grown HG4.out (by rw [size_alloc']; omega) (fun g hg => (HO.out.lt g hg).1)
    refine ⟨((KeepsFrom.below ((Below.refl _ W).alloc (Nat.le_refl _) _) (Nat.le_refl _)).trans (KeepsFrom.own (HO.out.alloc _) HG4.out)).trans (KeepsFrom.box (t := 40) HK4.out _), (KpE.below hbW (by omega) (by omega)).trans (KpE.setCell _ ⟨S, 0, none⟩ _ (show bx ≠ S by omega) (show 0 ≠ S by omega)),
      ((HH.out.alloc _).grown HG4.out (fun g hg => by have := (HO.out.lt g hg).1; omega)).setCell (p := ⟨S, 0, none⟩) (by simp) _, A2, cap2, ?_, ?_⟩
    · rw [List.length_append]
      exact HK4.out.put 0 _
    · rw [List.map_append]
      exact HO4.out.low (show S < S + 1 by omega) _
  case done =>
    intro D W hD hh hi hdef
    obtain ⟨A, cap, hk, ho⟩ := hi
    have c0 := hk.cell 0
    have HH := Lib.hid hh
    have HK := Lib.hid hk
    have HO := Lib.hid ho
    have HMK := Lib.hid (hh.mark (Marks.nil S W1) (by simp; exact ⟨⟨_, _, hx1⟩, ⟨_, _, HK1.out⟩⟩) (by omega) hD hdef)
    clear hh hk ho hdef ht1 hx1
    gi_wp2_with fail
    refine bodyPostM_ret HMK.out fun w' hw' => ⟨.slice A (bitsL x).length cap, by simp [results, Tryd.results17, go_sem], ?_⟩
    refine ⟨A, (bitsL x).length, cap, rfl, by simp [bitsI], ?_, by rw [← HS.out]; exact HO.out.shut hw'⟩
    have h1 := HB1.out
    have h2 := HH.out
    have h3 := hw'.1
    refine ⟨h3.os.trans (h2.os.trans h1.os), h3.tape.trans (h2.tape.trans h1.tape), h3.output.trans (h2.output.trans h1.output), Nat.le_trans h1.size (Nat.le_trans h2.size h3.size), fun k hk hx => ?_⟩
    have hkS : k < S := by rw [HS.out]; exact hk
    have hkn : k ∉ [bx, S] := by simp at hx ⊢; omega
    exact (h3.block k hkS).trans ((h2.block k (by omega) hkn).trans (h1.block k hkS))
theorem Collect_bits (bx : Nat) (x : BitVec 32) (w : World) (hbox : Boxed w bx 37 (.int .u32 (wN x))) (htab : TabOk w) (h0 : 0 < bx) :
    Calls Tryd.prog 11 #[.func (.func 18) #[] #[.pointer (some ⟨bx, 0, none⟩)]] w fun e w' => ∃ (A : Option Addr) (n cap : Nat), e = .returned (.slice A n cap) ∧ n = (bitsI x).length ∧ Held [bx] w w' ∧ Own w' (w.heap.size + 1) 3 1 icell A cap (bitsI x) := by
  have HC := Lib.hid (AppendSeq_bits bx x w hbox htab h0)
  clear hbox htab h0
  go_enter Tryd.func11, Tryd.ntmps11
  go_wp2_with fail
  refine HC.out.mono ?_
  clear HC
  rintro e w' ⟨A, n, cap, rfl, hn, hh, he⟩
  have HN := Lib.hid hn
  have HH := Lib.hid hh
  have HE := Lib.hid he
  clear hn hh he
  go_wp2_with fail
  go_ret
  exact ⟨A, n, cap, rfl, HN.out, HH.out, HE.out⟩
end Go.Proofs.YtbbdiondhnmnaaaDoor

/- graph.Spread by a word that is known. Conditions: those of Spread. -/
namespace Go.Proofs.YtbbdiondhnmnaaaDoor
open Go.RowKit

theorem word_to (f : Nat → Bool) : ∀ n, n ≤ 32 → ∃ y : BitVec 32, ∀ j, y.getLsbD j = (decide (j < n) && f j)
  | 0, _ => ⟨w0, fun j => by rw [b_0]; simp⟩
  | n + 1, h => by
    obtain ⟨y, hy⟩ := word_to f n (by omega)
    rcases hf : f n with _ | _
    · refine ⟨y, fun j => ?_⟩
      rw [hy]
      by_cases hj : j = n
      · subst hj; simp [hf]
      · have e : (j < n + 1) = (j < n) := by simp only [eq_iff_iff]; omega
        simp only [e]
    · refine ⟨wOr y (wShl w1 n), fun j => ?_⟩
      rw [b_or, hy, b_one]
      by_cases hj : j = n
      · subst hj; simp [hf]; omega
      · have e : (j < n + 1) = (j < n) := by simp only [eq_iff_iff]; omega
        simp only [e, hj, decide_false, Bool.and_false, Bool.or_false]
theorem spread_word (l : List (BitVec 32)) (fr wi : BitVec 32) : ∃ y : BitVec 32, ∀ j, y.getLsbD j = true ↔ ∃ i, fr.getLsbD i = true ∧ Rch (RS l wi) i j := by
  obtain ⟨y, hy⟩ := word_to (fun j => @decide (∃ i, fr.getLsbD i = true ∧ Rch (RS l wi) i j) (Classical.propDecidable _)) 32 (Nat.le_refl _)
  refine ⟨y, fun j => ?_⟩
  rw [hy, Bool.and_eq_true, @decide_eq_true_iff, @decide_eq_true_iff _ (Classical.propDecidable _)]
  refine ⟨fun h => h.2, fun h => ⟨?_, h⟩⟩
  obtain ⟨i, hi, m, hm⟩ := h
  cases hm with
  | start =>
    rcases Nat.lt_or_ge j 32 with e | e
    · exact e
    · rw [b_ge fr e] at hi; cases hi
  | step _ hs =>
    rcases Nat.lt_or_ge j 32 with e | e
    · exact e
    · have := hs.2
      rw [b_ge wi e] at this; cases this
theorem graph_Spread_at (A : Option Addr) (n c : Nat) (l : List (BitVec 32)) (fr wi y : BitVec 32) (w : World) (hl : l.length = n) (hn : n ≤ 32) (hr : Els w w.heap.size 1 wcell A l) (htab : TabOk w) (h0 : 0 < w.heap.size)
    (hfr : ∀ j, fr.getLsbD j = true → j < n) (hwi : ∀ j, wi.getLsbD j = true → j < n) (hy : ∀ j, y.getLsbD j = true ↔ ∃ i, fr.getLsbD i = true ∧ Rch (RS l wi) i j) :
    Calls Tryd.prog 9 #[.slice A n c, .int .u32 (wN fr), .int .u32 (wN wi)] w fun e w' => e = .returned (.int .u32 (wN y)) ∧ Below w.heap.size w w' := by
  refine (graph_Spread A n c l fr wi w hl hn hr htab h0 hfr hwi).mono ?_
  rintro e w' ⟨x, rfl, hb, hx⟩
  have e : x = y := w_ext fun j _ => by rw [Bool.eq_iff_iff, hx, hy]
  rw [e]
  exact ⟨rfl, hb⟩
end Go.Proofs.YtbbdiondhnmnaaaDoor
