/- slices.Collect of a word's bits. Conditions: the iterator is that of graph.Each, its box holds the word; the table. -/
import Derived.Test.YtlflnfelhndohaaDoorMapsHoles22
import Derived.Test.YtlflnfelhndohaaDoorMapsHoles15
import Derived.Test.YtlflnfelhndohaaDoorMapsHoles7
import Derived.BigRegionIn
import Derived.Test.YtlflnfelhndohaaDoorMapsHoles16
import Derived.Test.YtlflnfelhndohaaDoorMapsHoles20
import Derived.Test.YtlflnfelhndohaaDoorMapsHoles11
namespace Go.Proofs.YtlflnfelhndohaaDoor
open Go.RowKit Go.Shelf
attribute [local go_sem] Oper.semAt_some

def bitsI (x : BitVec 32) : List Int := (bitsL x).map fun j : Nat => (j : Int)
theorem bitsL_le (x : BitVec 32) : (bitsL x).length ≤ 32 := by
  unfold bitsL
  have := List.length_filter_le (fun j => x.getLsbD j) (List.range 32)
  simpa using this

set_option maxRecDepth 100000 in
set_option maxHeartbeats 1000000 in
theorem AppendSeq_bits (bx : Nat) (x : BitVec 32) (w : World) (hbox : Boxed w bx 46 (.int .u32 (wN x))) (htab : TabOk w) (h0 : 0 < bx) :
    Calls Tryd.prog 50 #[.slice none 0 0, .func (.func 46) #[] #[.pointer (some ⟨bx, 0, none⟩)]] w fun e w' => ∃ (A : Option Addr) (n cap : Nat), e = .returned (.slice A n cap) ∧ n = (bitsI x).length ∧ Held [bx] w w' ∧ Own w' (w.heap.size + 1) 3 1 icell A cap (bitsI x) := by
  refine (callsIn_wide (n := 9)).1 ?_
  refine callsIn_of_wp_marks Tryd.func50 rfl trivial ?_ rfl
  simp only [Tryd.ntmps50, List.size_toArray, List.length_cons, List.length_nil, Nat.reduceAdd, Nat.reduceSub, Array.replicate_succ, Array.replicate_zero, List.push_toArray, List.append_toArray, List.nil_append, List.cons_append]
  gi_wp2_with fail
  obtain ⟨S, hS⟩ : ∃ S, S = w.heap.size := ⟨_, rfl⟩
  obtain ⟨W1, hW1⟩ : ∃ W1, W1 = w.alloc (.cells #[.slice none 0 0] 25) := ⟨_, rfl⟩
  have hbS : bx < S := by rw [hS]; exact hbox.lt
  have hB1 : Below S w W1 := by rw [hW1, hS]; exact (Below.refl _ w).alloc (Nat.le_refl _) _
  have hk1 : Blk W1 S 25 #[.slice none 0 0] := by rw [hW1, hS]; exact Blk.new w _ _
  have hx1 : Boxed W1 bx 46 (.int .u32 (wN x)) := by rw [hW1]; exact hbox.alloc _
  have ht1 : TabOk W1 := htab.below hB1 (by omega)
  have hz1 : W1.heap.size = S + 1 := by rw [hW1, size_alloc', hS]
  rw [← hW1, ← hS]
  have HB1 := Lib.hid hB1
  have HK1 := Lib.hid hk1
  have HS := Lib.hid hS
  have h32 := bitsL_le x
  clear hW1 hS hB1 hbox htab
  refine wpIn_bits (p := 7) (q := 5) 9 46 bx 46 (.int .u32 (wN x)) (bitsL x) [bx, S] rfl (enters_of Tryd.func46 (by kernel_rfl) rfl)
    (Each1_seq _ _ _ h0) hx1 ht1 (by simp) (fun pre W => ∃ (A : Option Addr) (cap : Nat), Blk W S 25 #[.slice A pre.length cap] ∧ Own W (S + 1) 3 1 icell A cap (pre.map fun j : Nat => (j : Int))) (fun _ _ _ => False)
    (fun s X Y row h hg hrow => by obtain ⟨A, cap, h1, h2⟩ := h; exact ⟨A, cap, blk_kept h1 hg hrow, own_kept h2 hg hrow⟩) (fun _ _ _ _ _ h _ _ => h)
    (fun s X v h => by obtain ⟨A, cap, h1, h2⟩ := h; exact ⟨A, cap, h1.far (show S ≠ bx by omega) v, h2.low (show bx < S + 1 by omega) v⟩) ⟨none, 0, hk1, Own.nil _ _ _ (fun _ => rfl)⟩ ?assign ?body ?done (fun _ _ _ _ _ _ _ h _ => h.elim)
  case assign =>
    intro l' j W K hK
    simp only [List.setIfInBounds_toArray, List.set_cons_succ, List.set_cons_zero] at hK ⊢
    gi_wp2_with fail
    exact hK
  case body =>
    intro l' pre j W hh hi hpre
    obtain ⟨A, cap, hk, ho⟩ := hi
    have hpl : pre.length < 32 := by
      obtain ⟨z, hz⟩ := hpre
      have := congrArg List.length hz
      simp at this
      omega
    have hSW := hk.lt
    have c0 := hk.cell 0
    have c0a := (hk.alloc (.cells #[.int .i64 j] 3)).cell 0
    have HH := Lib.hid hh
    have HK := Lib.hid hk
    have HO := Lib.hid ho
    simp only [List.setIfInBounds_toArray, List.set_cons_succ, List.set_cons_zero]
    clear hh hk ho
    gi_wp2_with (gi_at_builtin; go_must (
      refine wpListIn_push rfl _ _ _ rfl (S + 1) 1 3 (.int .i64 0) 8 Tryd.underlying25 (by kernel_rfl) rfl (by omega) icell W #[.int .i64 j] A pre.length cap (pre.map fun j : Nat => (j : Int)) (by simp) rfl HO.out 1 [(j : Int)] rfl rfl _ rfl rfl (by simp [Value.oneCell']) (by unfold maxLen; omega) (by omega) (by omega) ?_
      intro A2 cap2 w4 hown4 hgrow4 hloc4
      have hne4 : some S ≠ blkOf A := fun h => by have := (HO.out.lt _ h.symm).1; omega
      have hk4 := (HK.out.alloc (.cells #[.int .i64 j] 3)).grown hgrow4 hne4
      have d1 := hk4.frozen 0
      have d0 := hk4.cell 0
      have HK4 := Lib.hid hk4
      have HO4 := Lib.hid hown4
      have HG4 := Lib.hid hgrow4
      clear hown4 hgrow4 hloc4 hk4 hne4))
    have hbW : Below (S + 1) W w4 := ((Below.refl (S + 1) W).alloc (by omega) _).grown HG4.out (by rw [size_alloc']; omega) (fun g hg => (HO.out.lt g hg).1)
    refine ⟨((KeepsFrom.below ((Below.refl _ W).alloc (Nat.le_refl _) _) (Nat.le_refl _)).trans (KeepsFrom.own (HO.out.alloc _) HG4.out)).trans (KeepsFrom.box (t := 25) HK4.out _), (KpE.below hbW (by omega) (by omega)).trans (KpE.setCell _ ⟨S, 0, none⟩ _ (show bx ≠ S by omega) (show 0 ≠ S by omega)),
      ((HH.out.alloc _).grown HG4.out (fun g hg => by have := (HO.out.lt g hg).1; omega)).setCell (p := ⟨S, 0, none⟩) (by simp) _, A2, cap2, ?_, ?_⟩
    · rw [List.length_append]
      exact HK4.out.put 0 _
    · rw [List.map_append]
      exact HO4.out.low (show S < S + 1 by omega) _
  case done =>
    intro D W hD hh hi hdef
    obtain ⟨A, cap, hk, ho⟩ := hi
    have c0 := hk.cell 0
    have HH := Lib.hid hh
    have HK := Lib.hid hk
    have HO := Lib.hid ho
    have HMK := Lib.hid (hh.mark (Marks.nil S W1) (by simp; exact ⟨⟨_, _, hx1⟩, ⟨_, _, HK1.out⟩⟩) (by omega) hD hdef)
    clear hh hk ho hdef ht1 hx1
    gi_wp2_with fail
    refine bodyPostM_ret HMK.out fun w' hw' => ⟨.slice A (bitsL x).length cap, by simp [results, Tryd.results50, go_sem], ?_⟩
    refine ⟨A, (bitsL x).length, cap, rfl, by simp [bitsI], ?_, by rw [← HS.out]; exact HO.out.shut hw'⟩
    have h1 := HB1.out
    have h2 := HH.out
    have h3 := hw'.1
    refine ⟨h3.os.trans (h2.os.trans h1.os), h3.tape.trans (h2.tape.trans h1.tape), h3.output.trans (h2.output.trans h1.output), Nat.le_trans h1.size (Nat.le_trans h2.size h3.size), fun k hk hx => ?_⟩
    have hkS : k < S := by rw [HS.out]; exact hk
    have hkn : k ∉ [bx, S] := by simp at hx ⊢; omega
    exact (h3.block k hkS).trans ((h2.block k (by omega) hkn).trans (h1.block k hkS))
theorem Collect_bits (bx : Nat) (x : BitVec 32) (w : World) (hbox : Boxed w bx 46 (.int .u32 (wN x))) (htab : TabOk w) (h0 : 0 < bx) :
    Calls Tryd.prog 34 #[.func (.func 46) #[] #[.pointer (some ⟨bx, 0, none⟩)]] w fun e w' => ∃ (A : Option Addr) (n cap : Nat), e = .returned (.slice A n cap) ∧ n = (bitsI x).length ∧ Held [bx] w w' ∧ Own w' (w.heap.size + 1) 3 1 icell A cap (bitsI x) := by
  have HC := Lib.hid (AppendSeq_bits bx x w hbox htab h0)
  clear hbox htab h0
  go_enter Tryd.func34, Tryd.ntmps34
  go_wp2_with fail
  refine HC.out.mono ?_
  clear HC
  rintro e w' ⟨A, n, cap, rfl, hn, hh, he⟩
  have HN := Lib.hid hn
  have HH := Lib.hid hh
  have HE := Lib.hid he
  clear hn hh he
  go_wp2_with fail
  go_ret
  exact ⟨A, n, cap, rfl, HN.out, HH.out, HE.out⟩
end Go.Proofs.YtlflnfelhndohaaDoor

/- Rounds of a node's neighbours: in order they are the neighbours; as the reference looks at them; in plain Lean. Conditions: the graph may be. -/
namespace Go.Proofs.YtlflnfelhndohaaDoor
open Go.RowKit

def nearI (N : Nat) (l : List Ed) (i : Nat) : List Int := bitsI (lw (nearL N l) i)
def rowOk (N : Nat) (l : List Ed) (i : Nat) (row : List Int) : Bool := decide (sortI row = nearI N l i)
def rowBadR (l : List Ed) (i : Nat) (row : List Int) (k : Nat) : Bool := hasB (row.take k) (row.getD k 0) || !adjI l i (row.getD k 0)
def rowOkR (l : List Ed) (i : Nat) (row : List Int) : Bool := decide ((row.length : Int) = deg l i) && !(List.range row.length).any (rowBadR l i row)
theorem bitsL_up (x : BitVec 32) : (bitsL x).Pairwise (· < ·) := List.Pairwise.filter _ List.pairwise_lt_range
theorem bitsI_up (x : BitVec 32) : (bitsI x).Pairwise (· < ·) := by
  unfold bitsI
  rw [List.pairwise_map]
  exact (bitsL_up x).imp fun h => by omega
theorem sorted_perm_eq : ∀ {a b : List Int}, a.Perm b → a.Pairwise (· ≤ ·) → b.Pairwise (· ≤ ·) → a = b
  | [], b, h, _, _ => (List.nil_perm.1 h).symm
  | x :: a, [], h, _, _ => absurd h.length_eq (by simp)
  | x :: a, y :: b, h, ha, hb => by
    have hxy : x = y := by
      have h1 : x ∈ y :: b := h.mem_iff.1 (List.mem_cons_self ..)
      have h2 : y ∈ x :: a := h.mem_iff.2 (List.mem_cons_self ..)
      have h3 : y ≤ x := by
        rcases List.mem_cons.1 h1 with e | e
        · omega
        · exact (List.pairwise_cons.1 hb).1 x e
      have h4 : x ≤ y := by
        rcases List.mem_cons.1 h2 with e | e
        · omega
        · exact (List.pairwise_cons.1 ha).1 y e
      omega
    subst hxy
    rw [sorted_perm_eq (List.Perm.cons_inv h) (List.pairwise_cons.1 ha).2 (List.pairwise_cons.1 hb).2]
theorem nearI_mem {N : Nat} {l : List Ed} (hg : GoodG N l) {i : Nat} (hi : i < N) (x : Int) : x ∈ nearI N l i ↔ adjI l i x = true := by
  unfold nearI bitsI
  rw [List.mem_map]
  constructor
  · rintro ⟨j, hj, rfl⟩
    rw [mem_bitsL, near_bit hg hi] at hj
    exact hj
  · intro h
    have h0 : 0 ≤ x := by
      obtain ⟨e, he, hj⟩ := List.any_eq_true.1 h
      have := hg.ed e he
      have h1 := this.a0
      have h2 := this.b0
      unfold joinsI at hj
      have := of_decide_eq_true hj
      omega
    obtain ⟨j, rfl⟩ := Int.eq_ofNat_of_zero_le h0
    exact ⟨j, by rw [mem_bitsL, near_bit hg hi]; exact h, rfl⟩
theorem nearI_len {N : Nat} {l : List Ed} (hg : GoodG N l) {i : Nat} (hi : i < N) : (nearI N l i).length = deg l i := by
  unfold nearI bitsI bitsL
  rw [List.length_map, ← List.countP_eq_length_filter, ← deg_count (by have := hg.n10; omega) i l hg.ed hg.nd]
  exact countP_range_same 32 fun j _ => near_bit hg hi j
theorem row_perm {N : Nat} {l : List Ed} (hg : GoodG N l) {i : Nat} (hi : i < N) (row : List Int) : rowOk N l i row = true ↔ row.Perm (nearI N l i) := by
  unfold rowOk
  rw [decide_eq_true_eq]
  constructor
  · intro h
    rw [← h]
    exact (sortI_perm row).symm
  · intro h
    exact sorted_perm_eq ((sortI_perm row).trans h) (sortI_sorted row) ((bitsI_up _).imp fun h => by omega)
theorem row_same {N : Nat} {l : List Ed} (hg : GoodG N l) {i : Nat} (hi : i < N) (row : List Int) : rowOk N l i row = rowOkR l i row := by
  rw [Bool.eq_iff_iff, row_perm hg hi]
  unfold rowOkR
  rw [Bool.and_eq_true, decide_eq_true_eq, Bool.not_eq_true', List.any_eq_false]
  constructor
  · intro h
    have hnd : row.Nodup := h.nodup_iff.2 ((bitsI_up _).imp fun {a b} hab => by omega)
    refine ⟨by rw [h.length_eq, nearI_len hg hi], fun k hk => ?_⟩
    have hk := List.mem_range.1 hk
    unfold rowBadR
    rw [getD_at row k hk]
    have h1 : adjI l i row[k] = true := (nearI_mem hg hi _).1 (h.mem_iff.1 (List.getElem_mem hk))
    have h2 : hasB (row.take k) row[k] = false := hasB_not.2 fun hm => by
      rw [List.mem_take_iff_getElem] at hm
      obtain ⟨j, hj, he⟩ := hm
      exact List.pairwise_iff_getElem.1 (List.nodup_iff_pairwise_ne.1 hnd) j k (by omega) hk (by omega) he
    rw [h1, h2]
    simp
  · rintro ⟨h1, h2⟩
    have hk : ∀ k, ∀ hk : k < row.length, row[k] ∉ row.take k ∧ adjI l i row[k] = true := fun k hk => by
      have := h2 k (List.mem_range.2 hk)
      unfold rowBadR at this
      rw [getD_at row k hk] at this
      simp only [Bool.or_eq_true, Bool.not_eq_true', not_or] at this
      exact ⟨hasB_not.1 (by simpa using this.1), by simpa using this.2⟩
    have hnd : row.Nodup := by
      rw [List.nodup_iff_pairwise_ne, List.pairwise_iff_getElem]
      intro i j hi hj hij he
      refine (hk j hj).1 ?_
      rw [List.mem_take_iff_getElem]
      exact ⟨i, by omega, he⟩
    have hnn : (nearI N l i).Nodup := (bitsI_up _).imp fun {a b} hab => by omega
    rw [List.perm_ext_iff_of_nodup hnd hnn]
    have hsub : ∀ x ∈ row, x ∈ nearI N l i := fun x hx => by
      obtain ⟨k, hkl, rfl⟩ := List.mem_iff_getElem.1 hx
      exact (nearI_mem hg hi _).2 (hk k hkl).2
    intro x
    refine ⟨hsub x, fun hx => Classical.byContradiction fun hno => ?_⟩
    have h3 := hnd.length_le_of_subset (l₂ := (nearI N l i).erase x) (fun y hy => by
      rw [hnn.mem_erase_iff]
      exact ⟨fun e => hno (e ▸ hy), hsub y hy⟩)
    rw [List.length_erase_of_mem hx, nearI_len hg hi] at h3
    have : 0 < (nearI N l i).length := List.length_pos_of_mem hx
    rw [nearI_len hg hi] at this
    omega
/-- What is wrong with a map. -/
def mapCode (N : Int) (l : List Ed) (R : List (List Int)) : Int := if graphCheck N l ≠ 0 then graphCheck N l else if (R.length : Int) ≠ N then 3 else if (List.range R.length).any (fun i => !rowOk N.toNat l i (R.getD i [])) = true then 3 else 0
theorem map_bad {N : Int} {l : List Ed} {R : List (List Int)} (h : graphCheck N l ≠ 0) : mapCode N l R = graphCheck N l := by unfold mapCode; rw [if_pos h]
theorem map_long {N : Int} {l : List Ed} {R : List (List Int)} (h : graphCheck N l = 0) (h2 : (R.length : Int) ≠ N) : mapCode N l R = 3 := by unfold mapCode; rw [if_neg (fun h3 => h3 h), if_pos h2]
theorem map_rows {N : Nat} {l : List Ed} {R : List (List Int)} (h : graphCheck N l = 0) (h2 : R.length = N) : mapCode N l R = if (List.range N).any (fun i => !rowOk N l i (R.getD i [])) = true then 3 else 0 := by
  unfold mapCode; rw [if_neg (fun h3 => h3 h), if_neg (by omega), h2, Int.toNat_natCast]
end Go.Proofs.YtlflnfelhndohaaDoor
