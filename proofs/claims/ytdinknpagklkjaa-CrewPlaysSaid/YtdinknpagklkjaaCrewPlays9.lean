/- slices.Repeat of one word. Conditions: the slice reads as a list of one; the count is small. -/
import Derived.Test.YtdinknpagklkjaaProg
import Derived.Test.YtdinknpagklkjaaCrewPlays2
import Derived.Test.YtdinknpagklkjaaCrewPlays4
import Derived.Test.YtdinknpagklkjaaCrewPlays8
import Derived.Laws.IdiomCopy
import Derived.Test.YtdinknpagklkjaaCrewPlays6
import Derived.Test.YtdinknpagklkjaaCrewPlays1
import Derived.Test.YtdinknpagklkjaaCrewPlays7
import Derived.RangeFuncNested
import Derived.RangeFuncBound
import Derived.RangeFuncCalls
import Derived.RangeFuncLeaves
import Derived.Shelf.Abstract
import Derived.Shelf.RegionOpen
import Derived.OwnWalkIn
import Derived.TacticsInMore
import Derived.LoopNIn
import Derived.LoopIn
namespace Go.Proofs.Ytdinknpagklkjaa
open Go.RowKit
attribute [local go_sem] Oper.semAt_some

set_option maxRecDepth 100000 in
theorem Mul64_oneW (y : Nat) (hy : y < 32) (w : World) : Calls Try.prog 126 #[.int .u64 1, .int .u64 (y : Int)] w fun e w' => e = .returned (.tuple #[.int .u64 0, .int .u64 (y : Int)]) ∧ w' = w := by
  go_enter Try.func126, Try.ntmps126
  go_wp2_with fail
  refine bodyPost_ret (v := .tuple #[.int .u64 0, .int .u64 (y : Int)]) ?_ rfl ⟨rfl, rfl⟩
  simp [results, Try.results126, go_sem]
  clear w
  revert y
  decide +kernel

set_option maxRecDepth 100000 in
theorem Mul_oneW (y : Nat) (hy : y < 32) (w : World) : Calls Try.prog 100 #[.int .u64 1, .int .u64 (y : Int)] w fun e w' => e = .returned (.tuple #[.int .u64 0, .int .u64 (y : Int)]) ∧ w' = w := by
  have H := Lib.hid (Mul64_oneW y hy w)
  go_enter Try.func100, Try.ntmps100
  go_wp2_with fail
  refine H.out.mono ?_
  clear H
  rintro e w' ⟨rfl, rfl⟩
  go_wp2_with fail
  refine bodyPost_ret (v := .tuple #[.int .u64 0, .int .u64 (y : Int)]) ?_ rfl ⟨rfl, rfl⟩
  simp [results, Try.results100, go_sem]

/-- A row of k whose first n are x. -/
def rowW (n k : Nat) (x : BitVec 32) : Array Value := (List.replicate n (Value.int .u32 (wN x)) ++ List.replicate (k - n) (Value.int .u32 0)).toArray
theorem rowW_size {n k : Nat} (h : n ≤ k) (x : BitVec 32) : (rowW n k x).size = k := by simp [rowW]; omega
theorem rowW_zero (k : Nat) (x : BitVec 32) : madeCells #[.int .u32 0] k = rowW 0 k x := by
  refine Array.ext' ?_
  rw [show madeCells #[Value.int .u32 0] k = madeCells #[Value.int .u32 (wN w0)] k from rfl, made_flat (fun y : BitVec 32 => Value.int .u32 (wN y)) w0 k, flat1]
  simp [rowW, wN_0]
theorem rowW_full (k : Nat) (x : BitVec 32) : rowW k k x = madeCells #[.int .u32 (wN x)] k := by
  refine Array.ext' ?_
  rw [made_flat (fun y : BitVec 32 => Value.int .u32 (wN y)) x k, flat1]
  simp [rowW]
theorem rowW_step {n m k : Nat} (h : n + m ≤ k) (x : BitVec 32) : ((rowW n k x).toList.take n ++ List.replicate m (Value.int .u32 (wN x)) ++ (rowW n k x).toList.drop (n + m)).toArray = rowW (n + m) k x := by
  unfold rowW
  congr 1
  rw [List.take_left' (by simp), List.drop_append, List.drop_of_length_le (by simp), List.nil_append]
  simp only [List.length_replicate, List.drop_replicate]
  rw [List.replicate_append_replicate]
  congr 2
  omega
theorem copy_stepW {W : World} {g n m k sc dc : Nat} {x : BitVec 32} {a : Addr} {sl : Nat} (hg : Blk W g 26 (rowW n k x)) (h : n + m ≤ k) (hm : m = Nat.min sl (k - n)) (hc : ∀ j, j < m → W.cell? (a.add j) = some (.int .u32 (wN x))) :
    ∃ W', (Builtin.copy_ #[23, 23] 3 #[.slice (some ⟨g, n, none⟩) (k - n) dc, .slice (some a) sl sc]).run Try.prog W = .ok (goInt m) W' ∧ Blk W' g 26 (rowW (n + m) k x) ∧ Below g W W' := by
  have hlen : (List.replicate m (Value.int .u32 (wN x))).length = m := by simp
  have := run_copy_row (P := Try.prog) W 23 23 3 26 g n (k - n) dc a sl sc (rowW n k x) 26 (List.replicate m (Value.int .u32 (wN x))) (by kernel_rfl) (by kernel_rfl) hg (by rw [hlen]; exact hm)
    (fun j v hv => by
      rw [List.getElem?_replicate] at hv
      split at hv
      · rename_i hj
        injection hv with hv
        rw [← hv]
        exact hc j hj
      · cases hv) (by rw [hlen, rowW_size (by omega)]; exact h) (fun v hv => by rw [List.eq_of_mem_replicate hv]; rfl)
  rw [hlen, rowW_step h] at this
  exact ⟨_, this, setRow_heap W g (rowW n k x) _ 26 (0, 0) hg, below_setRow (Below.refl g W) (Nat.le_refl _) _⟩

set_option maxRecDepth 100000 in
set_option maxHeartbeats 1000000 in
theorem Repeat_words (x : BitVec 32) (A : Option Addr) (c k B : Nat) (w : World) (hk : k ≤ 16) (hr : Els w B 1 wcell A [x]) :
    Calls Try.prog 115 #[.slice A 1 c, .int .i64 k] w fun e w' => e = .returned (.slice (some ⟨w.heap.size, 0, none⟩) k k) ∧ Below w.heap.size w w' ∧ Own w' w.heap.size 26 1 wcell (some ⟨w.heap.size, 0, none⟩) k (List.replicate k x) := by
  have HMUL := Lib.hid (Mul_oneW k (by omega) w)
  obtain ⟨S, hS⟩ : ∃ S, S = w.heap.size := ⟨_, rfl⟩
  have HS := Lib.hid hS
  obtain ⟨b, off, rfl, hbB, e0⟩ := hr.at1 (k := 0) (by simp)
  have hi1 : (Try.prog.info? 26).map (fun i => (i.zero, i.size, i.bytes)) = some (some (.int .u32 0), 1, 4) := rfl
  obtain ⟨i1, a1, b1, c1', d1⟩ := info_parts hi1
  have hm1 : ∀ W : World, (Instr.makeSlice 23 (.int .i64 k) (.int .i64 k)).run Try.prog W = .ok (.slice (some ⟨W.heap.size, 0, none⟩) k k) (W.alloc (.cells (madeCells #[.int .u32 0] k) 26)) := fun W => by
    have := run_make (P := Try.prog) W 23 26 i1 (.int .u32 0) (by kernel_rfl) a1 b1 .i64 .i64 k k (by omega) (Int.le_refl _) (by rw [d1]; omega) (by omega)
    rw [c1', Nat.mul_one, show (Value.int .u32 0).cells = #[Value.int .u32 0] from rfl] at this
    simpa using this
  clear hi1 a1 b1 c1' d1
  have hwk : IntKind.u64.wrap (k : Int) = (k : Int) := by rw [IntKind.wrap_u64]; omega
  have hwi : IntKind.i64.wrap (k : Int) = (k : Int) := by rw [IntKind.wrap_i64]; omega
  have hk0 : ¬ ((k : Int) < 0) := by omega
  have hkb : decide ((9223372036854775807 : Int) < (k : Int)) = false := decide_eq_false (by omega)
  have hkb' : ¬ ((9223372036854775807 : Int) < (k : Int)) := by omega
  obtain ⟨W1, hW1⟩ : ∃ W1, W1 = w.alloc (.cells (madeCells #[.int .u32 0] k) 26) := ⟨_, rfl⟩
  have hb1 : Below S w W1 := by rw [hW1, hS]; exact (Below.refl _ w).alloc (Nat.le_refl _) _
  have hk1 : Blk W1 S 26 (rowW 0 k x) := by rw [hW1, hS, ← rowW_zero]; exact Blk.new w _ _
  have hlt : b < S := by rw [hS]; exact World.block_lt_of_cell? w _ e0
  have e1 : W1.cell? ⟨b, off, none⟩ = some (.int .u32 (wN x)) := (hb1.cell hlt).trans e0
  have hmk := hm1 w
  rw [← hW1, ← hS] at hmk
  obtain ⟨m0, hm0⟩ : ∃ m0, m0 = Nat.min 1 k := ⟨_, rfl⟩
  have hm0k : m0 ≤ k := by rw [hm0]; exact Nat.min_le_right _ _
  have hm01 : k = 0 ∨ 1 ≤ m0 := by
    rw [hm0]
    rcases Nat.eq_zero_or_pos k with h | h
    · exact .inl h
    · exact .inr (Nat.le_min.2 ⟨Nat.le_refl 1, h⟩)
  have hm1' : m0 ≤ 1 := by rw [hm0]; exact Nat.min_le_left _ _
  obtain ⟨W2, hcp, hk2, hb2⟩ := copy_stepW (sc := c) (dc := k) (sl := 1) (a := ⟨b, off, none⟩) hk1 (by omega) hm0 (fun j hj => by
    obtain rfl : j = 0 := by omega
    exact e1)
  rw [Nat.sub_zero] at hcp
  rw [Nat.zero_add] at hk2
  have HB2 : Hid (Below S w W2) := Lib.hid (hb1.trans hb2)
  have HK2 := Lib.hid hk2
  have hg0 : goInt m0 = .int .i64 (m0 : Int) := rfl
  rw [hg0] at hcp
  rw [← hS]
  clear hr hb1 e0 hS hW1 hbB e1 hm1 hm0 hk1 hk2 hb2 hg0 hlt
  go_enter Try.func115, Try.ntmps115
  go_wp2_with fail
  refine HMUL.out.mono ?_
  clear HMUL
  rintro e w' ⟨rfl, rfl⟩
  go_wp2_with fail
  clear hmk hcp
  go_loopw [8] (fun v wr => ∃ n : Nat, n ≤ k ∧ (k = 0 ∨ 1 ≤ n) ∧ v = .int .i64 n ∧ Below S w' wr ∧ Blk wr S 26 (rowW n k x)) (fun v _ => k - (intOf v).toNat)
  case atStart => exact ⟨m0, hm0k, hm01, rfl, HB2.out, HK2.out⟩
  case round =>
    clear HB2 HK2 hm0k hm01 hm1'
    rename World => wr
    obtain ⟨n, hn, hn1, rfl, hb, hk⟩ := hrel
    by_cases hlt : n < k
    · have hlti : (n : Int) < (k : Int) := by omega
      have HKN : Hid (¬ k = n) := Lib.hid (by omega)
      obtain ⟨m, hm⟩ : ∃ m, m = Nat.min n (k - n) := ⟨_, rfl⟩
      have hmn : m ≤ n := by rw [hm]; exact Nat.min_le_left _ _
      have hmk2 : m ≤ k - n := by rw [hm]; exact Nat.min_le_right _ _
      have hm1 : 1 ≤ m := by rw [hm]; exact Nat.le_min.2 ⟨by omega, by omega⟩
      obtain ⟨W3, hcp, hk3, hb3⟩ := copy_stepW (sc := k) (dc := k - n) (sl := n) (a := ⟨S, 0, none⟩) hk.drew (by omega) hm (fun j hj => by
        have hjn : j < n := by omega
        have h1 := hk.drew.cell j
        have h2 : (rowW n k x)[j]? = some (.int .u32 (wN x)) := by simp [rowW, List.getElem?_append, List.getElem?_replicate, hjn]
        rw [h2] at h1
        have h3 : (⟨S, 0, none⟩ : Addr).add j = ⟨S, j, none⟩ := by rw [addr_add, Nat.zero_add]
        rw [h3]
        exact h1)
      have hg0 : goInt m = .int .i64 (m : Int) := rfl
      rw [hg0] at hcp
      have HB3 : Hid (Below S w' W3) := Lib.hid (hb.drew.trans hb3)
      have HK3 := Lib.hid hk3
      have hw1 : IntKind.i64.wrap ((n : Int) + (m : Int)) = ((n + m : Nat) : Int) := by rw [IntKind.wrap_i64]; omega
      clear hk hb hk3 hb3 hm hg0
      go_wp2_with fail
      refine region_plain 99 10 (fun _ => True) (by kernel_rfl) rfl ?_
      refine anyC_reads (by kernel_rfl) [0, 1, 2, 3, 4, 5, 6] ?opl ?ohl 3 _ _ _ (by kernel_rfl) ?okk
      case ohl => (simp only [List.filterMap_cons, List.filterMap_nil, List.getElem?_toArray, List.getElem?_cons_zero, List.getElem?_cons_succ]; try rfl)
      repeat (
        refine readC_step (v := ?_) rfl (fun w' hw' => ?_) ?_
        rotate_left
        focus (clear hw'; go_simp; try with_reducible rfl)
        go_simp)
      refine readC_nil ?_
      refine anyC_one (i := 7) (by kernel_rfl) rfl rfl (.inr trivial) ?_
      go_simp
      rw [if_neg HKN.out, hcp]
      go_simp
      refine anyC_one (i := 8) (by kernel_rfl) rfl rfl (.inr trivial) ?_
      go_simp
      refine anyC_one (i := 9) (by kernel_rfl) rfl rfl (.inr trivial) ?_
      go_simp
      refine anyC_end (by kernel_rfl) (.inr trivial) ?_
      go_wp2_with fail
      go_roundw
      case rel => exact ⟨n + m, by omega, .inr (by omega), by go_num, HB3.out, HK3.out⟩
      case measure => simp [intOf]; omega
    · have hnk : n = k := by omega
      have hlti : ¬ ((n : Int) < (k : Int)) := by omega
      have HO : Hid (Own wr S 26 1 wcell (some ⟨S, 0, none⟩) k (List.replicate k x)) := Lib.hid (by
        rw [hnk, rowW_full] at hk
        exact Own.block1 (f := fun x => .int .u32 (wN x)) (x0 := x) hk (by unfold maxLen; omega) (Nat.le_refl _))
      have HB := Lib.hid hb
      clear hk hb hnk
      go_wp2_with fail
      go_ret
      exact ⟨rfl, HB.out, HO.out⟩
end Go.Proofs.Ytdinknpagklkjaa

/- May a task be with a worker: the program. Conditions: none. -/
namespace Go.Proofs.Ytdinknpagklkjaa
open Go.RowKit
attribute [local go_sem ↓] w_and w_or w_xor w_andNot w_and1 w_and255 w_xor1 w_or0 w_shl w_shl1 w_shr w_sub w_add w_sub1 w_add1
attribute [local go_sem] w_eq0 w_ne0 w_eq1 w_eq w_ne

theorem plc_may (a : Wk) (t : BitVec 32) (w : World) :
    Calls Try.prog 47 #[.agg #[.int .i64 a.1, .int .u32 (wN a.2)], .int .u32 (wN t)] w fun e w' => e = .returned (.bool (mayW t a)) ∧ w.alloc (.cells #[.int .i64 a.1, .int .u32 (wN a.2)] 39) = w' := by
  have h1 := (Blk.new w 39 #[.int .i64 a.1, .int .u32 (wN a.2)]).cell 1
  go_enter Try.func47, Try.ntmps47
  go_wp2_with fail
  go_ret
  exact ⟨rfl, rfl⟩
end Go.Proofs.Ytdinknpagklkjaa

/- The net of workers and tasks is made: one arc more. Conditions: none. -/
namespace Go.Proofs.Ytdinknpagklkjaa
open Go.RowKit

/-- A block of another kind stays, when a row is appended to. -/
theorem Blk.past {α : Type} {w w' : World} {q lo c cap : Nat} {e t : TypeId} {cs : Array Value} {f : α → List Value} {A : Option Addr} {l : List α} (h : Blk w q t cs) (hg : w.grownBy w' (blkOf A)) (ho : Own w lo e c f A cap l) (ht : e ≠ t) : Blk w' q t cs := by
  refine h.grown hg fun hgA => ?_
  rcases ho.2.2 with hn | ⟨g', cp, cur', hv, hb', hg', r⟩
  · have hAn : A = none := by
      have := hn.1
      simp only [Value.slice.injEq] at this
      exact this.1
    rw [hAn] at hgA
    cases hgA
  · have hA' : A = some ⟨g', 0, none⟩ := by
      simp only [Value.slice.injEq] at hv
      exact hv.1
    rw [hA'] at hgA
    have : q = g' := by simpa [blkOf] using hgA
    subst this
    have h2 : Blk w q e cur' := hg'
    exact h2.differ h ht rfl
theorem own_far_blk {α : Type} {w : World} {q lo c cap : Nat} {e t : TypeId} {cs : Array Value} {f : α → List Value} {A : Option Addr} {l : List α} (ho : Own w lo e c f A cap l) (h : Blk w q t cs) (ht : e ≠ t) : blkOf A ≠ some q := by
  intro hgA
  rcases ho.2.2 with hn | ⟨g', cp, cur', hv, hb', hg', r⟩
  · have hAn : A = none := by
      have := hn.1
      simp only [Value.slice.injEq] at this
      exact this.1
    rw [hAn] at hgA
    cases hgA
  · have hA' : A = some ⟨g', 0, none⟩ := by
      simp only [Value.slice.injEq] at hv
      exact hv.1
    rw [hA'] at hgA
    have : g' = q := by simpa [blkOf] using hgA
    subst this
    have h2 : Blk w g' e cur' := hg'
    exact h2.differ h ht rfl
/-- What a step that makes one arc more leaves alone. -/
structure ArcKept (P lo : Nat) (w w' : World) : Prop where
  blk : ∀ q t cs, Blk w q t cs → q ≠ P → t ≠ 70 → Blk w' q t cs
  bel : ∀ B, B ≤ P → B ≤ lo → Below B w w'
theorem place_arc (P lo N m cap : Nat) (A : Option Addr) (l : List Arc) (f t mst : Int) (w : World) (hl : l.length = m) (hm : m ≤ 1000) (hlo : lo ≤ w.heap.size) (hk : Blk w P 64 #[.int .i64 N, .slice A m cap]) (ho : Own w lo 70 4 Arc.cells A cap l) :
    Calls Try.prog 90 #[.int .i64 f, .int .i64 t, .int .i64 mst, .pointer (some ⟨P, 0, none⟩)] w fun e w' => (∃ v, e = .returned v) ∧ ∃ A' cap', Blk w' P 64 #[.int .i64 N, .slice A' (m + 1) cap'] ∧ Own w' lo 70 4 Arc.cells A' cap' (l ++ [⟨f, t, mst, 0⟩]) ∧ ArcKept P lo w w' := by
  have c1 := hk.cell 1
  have HK := Lib.hid hk
  have HO := Lib.hid ho
  have HL := Lib.hid hl
  clear hk ho hl
  go_enter Try.func90, Try.ntmps90
  go_wp2_with (at_builtin; go_loud (
    refine wpList_push rfl _ _ _ rfl lo 4 70 (.agg #[.int .i64 0, .int .i64 0, .int .i64 0, .int .i64 0]) 32 Try.underlying62 (by kernel_rfl) rfl (by omega) Arc.cells w #[.int .i64 f, .int .i64 t, .int .i64 mst, .int .i64 0] A m cap l HL.out rfl HO.out 1 [⟨f, t, mst, 0⟩] rfl rfl _ rfl rfl (by simp [Value.oneCell']) (by unfold maxLen; omega) (by omega) hlo ?_
    intro A7 cap7 w7 hown7 hgrow7 hloc7
    have hk7 := (HK.out.alloc (.cells #[.int .i64 f, .int .i64 t, .int .i64 mst, .int .i64 0] 70)).past hgrow7 (HO.out.alloc _) (by decide)
    have f7 := hk7.frozen 1
    have d7 := hk7.cell 1
    have HK7 := Lib.hid hk7
    have HO7 := Lib.hid hown7
    have HG7 := Lib.hid hgrow7
    clear hown7 hgrow7 hloc7 hk7))
  go_end0
  have hb1 : ∀ B, B ≤ P → B ≤ lo → Below B w w7 := fun B h1 h2 => ((Below.refl B w).alloc (by omega) (.cells #[.int .i64 f, .int .i64 t, .int .i64 mst, .int .i64 0] 70)).grown HG7.out (by rw [size_alloc']; omega) (fun g e => by have := (HO.out.lt g e).1; omega)
  refine ⟨⟨_, rfl⟩, A7, cap7, by have := HK7.out.put 1 (.slice A7 (m + 1) cap7); exact this, ?_, ⟨fun q ty cs hq hne ht => ?_, fun B h1 h2 => (hb1 B h1 h2).setCell (p := ⟨P, 1, none⟩) h1 _⟩⟩
  · refine HO7.out.far (p := ⟨P, 1, none⟩) (fun e => ?_) _
    exact own_far_blk HO7.out HK7.out (by decide) e
  · exact ((hq.alloc (.cells #[.int .i64 f, .int .i64 t, .int .i64 mst, .int .i64 0] 70)).past HG7.out (HO.out.alloc _) (fun e => ht e.symm)).far (p := ⟨P, 1, none⟩) hne _
end Go.Proofs.Ytdinknpagklkjaa

/- A range over an iterator that keeps blocks of its own: what a caller owes, what the iterator owes. Conditions: none. -/
namespace Go.Proofs.Ytdinknpagklkjaa
open Go.RowKit Go.Shelf

/-- The iterator's word: Ini: what it begins at; At: what lies there as it hands over; KP: what a round that goes on keeps; St: what it does itself between two rounds. -/
def SeqV {β : Type} (P : Program) (gf : FuncId) (caps : Array Value) (args : β → Array Value) (Ini : World → Prop) (At : β → World → Prop) (KP St : World → World → Prop) (xs : List β) : Prop :=
  ∀ (n l : Nat) (J Jx : List β → World → Prop) (W : World), Ini W → (∀ s A B, J s A → St A B → J s B) → (∀ s A B, Jx s A → St A B → Jx s B) →
    (∀ m pre x W1, J pre W1 → At x W1 → pre ++ [x] <+: xs → YieldAt Fence.wide m P l (args x) W1 fun e W' =>
      (e = .returned (.bool true) ∧ J (pre ++ [x]) W' ∧ KP W1 W') ∨ (e = .returned (.bool false) ∧ Jx (pre ++ [x]) W')) →
    J [] W →
    CallsIn Fence.wide n P gf (#[.func (.yield l) #[] #[]] ++ caps) W fun e W' => (∃ v, e = .returned v) ∧ (J xs W' ∨ ∃ pre, pre <+: xs ∧ Jx pre W')

theorem wpIn_iter {β : Type} {P : Program} {g : Operand} {ps : Array Tmp} {assign body : Code} {Q : Exit → Act → World → Prop} {a : Act} {w : World} (n : Nat) (gf : FuncId) (caps : Array Value) (args : β → Array Value) (Ini : World → Prop) (At : β → World → Prop) (KP St : World → World → Prop) (xs : List β)
    (hg : a.eval g = .func (.func gf) #[] caps) (eg : ∀ args w, (callFunc gf args).run P w = .ok (.enter gf args) w)
    (hseq : SeqV P gf caps args Ini At KP St xs) (hps : ∀ x, (args x).size = ps.size)
    (hIni : ∀ V, Below w.heap.size w V → V.heap.size = w.heap.size + 1 + 1 → Ini V)
    (hSt : ∀ A B k, St A B → k < A.heap.size → w.heap.size ≤ k → k < w.heap.size + 1 + 1 → B.heap[k]? = A.heap[k]?)
    (hAt : ∀ x W o, w.heap.size + 1 < W.heap.size → At x W → At x (W.putObj (w.heap.size + 1) o)) (hKr : ∀ W o, w.heap.size + 1 < W.heap.size → KP W (W.putObj (w.heap.size + 1) o)) (hKt : ∀ {A B C}, KP A B → KP B C → KP A C)
    (I : List β → World → Prop) (Ix : Code → List β → World → Prop) (hI : OwnFrom w.heap.size I) (hIx : ∀ c, OwnFrom w.heap.size (Ix c)) (hst : ∀ s A B, I s A → St A B → I s B) (hstx : ∀ c s A B, Ix c s A → St A B → Ix c s B) (h0 : I [] w) (a₁ : β → Act)
    (hassign : ∀ (m l : Nat) (x : β) (W : World) (K : Act → World → Prop), K (a₁ x) W →
      assign.wpIn (Fence.wide.inRound l) m P (Exit.then K (fun _ _ _ => False)) { tmps := (ps.zip (args x)).foldl (fun t (p, v) => t.setIfInBounds p v) a.tmps, defers := [] } W)
    (hbody : ∀ (m l : Nat) (pre : List β) (x : β) (W : World), I pre W → At x W → pre ++ [x] <+: xs → body.wpIn (Fence.wide.inRound l) m P (ownPostG w.heap.size KP I Ix (pre ++ [x]) W) (a₁ x) W)
    (hdone : ∀ (D : Nat) (W : World), w.heap.size ≤ D → I xs W → W.heap[D]? = some (.deferred (some [])) → Q .normal { a with defers := { target := .collected D, args := #[] } :: a.defers } W)
    (hstop : ∀ (D : Nat) (c : Code) (pre : List β) (W : World), w.heap.size ≤ D → pre <+: xs → Ix c pre W → W.heap[D]? = some (.deferred (some [])) → c.wpIn Fence.wide n P Q { a with defers := { target := .collected D, args := #[] } :: a.defers } W) :
    (Code.rangeFunc g ps assign body).wpIn Fence.wide n P Q a w := by
  refine wpIn_rangeFunc fun fn hfn => ?_
  obtain ⟨D, hD⟩ : ∃ D, w.heap.size = D := ⟨_, rfl⟩
  let R : LoopState → Option Code → Loop := fun st pe => { state := st, pending := pe, fn := fn, tmps := a.tmps, params := ps, assign := assign, body := body, defers := D }
  obtain ⟨V, hV⟩ : ∃ V, V = (w.alloc (.deferred (some []))).alloc (.loop (R .ready none)) := ⟨_, rfl⟩
  have hrec : V.heap[D + 1]? = some (.loop (R .ready none)) := by
    have := World.alloc_heap_new (w.alloc (.deferred (some []))) (.loop (R .ready none))
    rw [World.size_alloc, hD] at this
    rw [hV]; exact this
  have hdef : V.heap[D]? = some (.deferred (some [])) := by
    rw [hV, ← hD]
    exact (Below.heap_alloc _ _ _ (by simp)).trans (World.alloc_heap_new w _)
  have hVI : I [] V := by rw [hV]; exact hI.alloc _ (hI.alloc _ h0)
  have hVb : Below w.heap.size w V := by rw [hV]; exact ((Below.refl _ w).alloc (Nat.le_refl _) _).alloc (by simp) _
  have hVs : V.heap.size = w.heap.size + 1 + 1 := by rw [hV]; simp
  have hVi := hIni V hVb hVs
  refine ⟨D + 1, [{ target := .collected D, args := #[] }], V, { target := .fn (.func gf) caps, args := #[.func (.yield (D + 1)) #[] #[]] }, V, gf,
    #[.func (.yield (D + 1)) #[] #[]] ++ caps, V, ?_, ?_, ?_, ?_, ?_, ?_⟩
  · have := run_enterLoop_outer (P := P) (w := w) fn a.tmps ps assign body
    rw [hD] at this
    rw [hV]; exact this
  · simp only [resolve, hg]
    simp [go_sem]
  · intro f' hf'
    trivial
  · simp [invoke, go_sem, eg]
  · intro h
    cases h
  · rw [hD] at hI hIx hbody hdone hstop hVb hSt hAt hKr
    have keep : ∀ {A B : World} {k : Nat} {o : Obj}, St A B → D ≤ k → k < D + 1 + 1 → A.heap[k]? = some o → B.heap[k]? = some o := fun {A B k o} hs h1 h2 ho =>
      (hSt A B k hs (Array.getElem?_eq_some_iff.1 ho).1 h1 h2).trans ho
    refine (hseq (n - 1) (D + 1) (fun pre W => I pre W ∧ W.heap[D + 1]? = some (.loop (R .ready none)) ∧ W.heap[D]? = some (.deferred (some [])))
      (fun pre W => ∃ c, Ix c pre W ∧ W.heap[D + 1]? = some (.loop (R .done (some c))) ∧ W.heap[D]? = some (.deferred (some []))) V hVi ?_ ?_ ?_ ⟨hVI, hrec, hdef⟩).mono ?_
    · rintro s A B ⟨h1, h2, h3⟩ hs
      exact ⟨hst s A B h1 hs, keep hs (by omega) (by omega) h2, keep hs (Nat.le_refl _) (by omega) h3⟩
    · rintro s A B ⟨c, h1, h2, h3⟩ hs
      exact ⟨c, hstx c s A B h1 hs, keep hs (by omega) (by omega) h2, keep hs (Nat.le_refl _) (by omega) h3⟩
    · -- one round
      rintro m pre x W ⟨hi, hl, hk⟩ hat hpx
      have hlt : D + 1 < W.heap.size := (Array.getElem?_eq_some_iff.1 hl).1
      have hy : (Instr.yield (D + 1) (args x)).run P W = .ok (.round (D + 1) fn ((ps.zip (args x)).foldl (fun t (p, v) => t.setIfInBounds p v) a.tmps) assign body) W :=
        run_yield hl (hps x)
      refine ⟨fn, _, assign, body, hy, roundIn_of_wpIn hfn (hassign _ _ x W _ ⟨_, run_beginRound hl rfl, ?_⟩)⟩
      obtain ⟨W2, hW2⟩ : ∃ W2, W2 = W.putObj (D + 1) (.loop { R .ready none with state := .busy }) := ⟨_, rfl⟩
      rw [← hW2]
      have hl2 : W2.heap[D + 1]? = some (.loop { R .ready none with state := .busy }) := by rw [hW2]; exact World.putObj_heap_same hlt
      have hk2 : W2.heap[D]? = some (.deferred (some [])) := by rw [hW2]; exact (World.putObj_heap_other (by omega)).trans hk
      have hi2 : I pre W2 := by rw [hW2]; exact hI.putObj _ hi (by omega) hl rfl
      have hp2 : KP W W2 := by rw [hW2]; exact hKr W _ hlt
      have hat2 : At x W2 := by rw [hW2]; exact hAt x W _ hlt hat
      refine wpIn_mono (hbody _ _ pre x W2 hi2 hat2 hpx) ?_
      have leave : ∀ (c : Code) (W3 : World), KeepsFrom D W2 W3 → Ix c (pre ++ [x]) W3 →
          ∃ v W4, (Instr.endRound (D + 1) (some c)).run P W3 = .ok v W4 ∧ ((Ending.returned v = .returned (.bool true) ∧ (I (pre ++ [x]) W4 ∧ W4.heap[D + 1]? = some (.loop (R .ready none)) ∧ W4.heap[D]? = some (.deferred (some []))) ∧ KP W W4) ∨
            (Ending.returned v = .returned (.bool false) ∧ ∃ c, Ix c (pre ++ [x]) W4 ∧ W4.heap[D + 1]? = some (.loop (R .done (some c))) ∧ W4.heap[D]? = some (.deferred (some [])))) := by
        intro c W3 hk3 hi3
        have hl3 := hk3.same _ _ (by omega) hl2 rfl
        exact ⟨_, _, run_endRound (some c) hl3, .inr ⟨rfl, c, (hIx c).putObj _ hi3 (by omega) hl3 rfl, World.putObj_heap_same (Array.getElem?_eq_some_iff.1 hl3).1, (World.putObj_heap_other (by omega)).trans (hk3.same _ _ (Nat.le_refl _) hk2 rfl)⟩⟩
      rintro e a3 W3 hp
      cases e with
      | normal =>
        obtain ⟨hk3, hkp, hi3⟩ := hp
        have hl3 := hk3.same _ _ (by omega) hl2 rfl
        exact ⟨_, _, run_endRound none hl3, .inl ⟨rfl, ⟨hI.putObj _ hi3 (by omega) hl3 rfl, World.putObj_heap_same (Array.getElem?_eq_some_iff.1 hl3).1, (World.putObj_heap_other (by omega)).trans (hk3.same _ _ (Nat.le_refl _) hk2 rfl)⟩, hKt (hKt hp2 hkp) (hKr W3 _ (Array.getElem?_eq_some_iff.1 hl3).1)⟩⟩
      | ret => exact leave .ret W3 hp.1 hp.2
      | exit id => exact leave (.exit id) W3 hp.1 hp.2
      | goto t => exact leave (.goto t) W3 hp.1 hp.2
      | panic ch => exact hp.elim
      | outgrown => exact hp.elim
    · -- the iterator has returned
      rintro e W2 ⟨⟨v, rfl⟩, ⟨hi, hl, hk⟩ | ⟨pre, hpre, c, hi, hl, hk⟩⟩
      · exact ⟨none, _, run_endLoop hl (by intro h; cases h), hdone D _ (Nat.le_refl _) (hI.putObj _ hi (by omega) hl rfl) ((World.putObj_heap_other (by omega)).trans hk)⟩
      · exact ⟨some c, _, run_endLoop hl (by intro h; cases h), hstop D c pre _ (Nat.le_refl _) hpre ((hIx c).putObj _ hi (by omega) hl rfl) ((World.putObj_heap_other (by omega)).trans hk)⟩
/-- The same for an iterator that hands over one value, the loop's variable in a slot of its own. -/
theorem wpIn_iter1 {β : Type} {P : Program} {p q : Nat} {g : Operand} {assign body : Code} {Q : Exit → Act → World → Prop} {t : Array Value} {ds : List Deferred} {w : World} (n : Nat) (gf : FuncId) (caps : Array Value) (val : β → Value) (Ini : World → Prop) (At : β → World → Prop) (KP St : World → World → Prop) (xs : List β)
    (hg : ({ tmps := t, defers := ds } : Act).eval g = .func (.func gf) #[] caps) (eg : ∀ args w, (callFunc gf args).run P w = .ok (.enter gf args) w)
    (hseq : SeqV P gf caps (fun x => #[val x]) Ini At KP St xs)
    (hIni : ∀ V, Below w.heap.size w V → V.heap.size = w.heap.size + 1 + 1 → Ini V)
    (hSt : ∀ A B k, St A B → k < A.heap.size → w.heap.size ≤ k → k < w.heap.size + 1 + 1 → B.heap[k]? = A.heap[k]?)
    (hAt : ∀ x W o, w.heap.size + 1 < W.heap.size → At x W → At x (W.putObj (w.heap.size + 1) o)) (hKr : ∀ W o, w.heap.size + 1 < W.heap.size → KP W (W.putObj (w.heap.size + 1) o)) (hKt : ∀ {A B C}, KP A B → KP B C → KP A C)
    (I : List β → World → Prop) (Ix : Code → List β → World → Prop) (hI : OwnFrom w.heap.size I) (hIx : ∀ c, OwnFrom w.heap.size (Ix c)) (hst : ∀ s A B, I s A → St A B → I s B) (hstx : ∀ c s A B, Ix c s A → St A B → Ix c s B) (h0 : I [] w)
    (hassign : ∀ (m l : Nat) (x : β) (W : World) (K : Act → World → Prop), K { tmps := (t.setIfInBounds p (val x)).setIfInBounds q (val x), defers := [] } W →
      assign.wpIn (Fence.wide.inRound l) m P (Exit.then K (fun _ _ _ => False)) { tmps := t.setIfInBounds p (val x), defers := [] } W)
    (hbody : ∀ (m l : Nat) (pre : List β) (x : β) (W : World), I pre W → At x W → pre ++ [x] <+: xs → body.wpIn (Fence.wide.inRound l) m P (ownPostG w.heap.size KP I Ix (pre ++ [x]) W) { tmps := (t.setIfInBounds p (val x)).setIfInBounds q (val x), defers := [] } W)
    (hdone : ∀ (D : Nat) (W : World), w.heap.size ≤ D → I xs W → W.heap[D]? = some (.deferred (some [])) → Q .normal { tmps := t, defers := { target := .collected D, args := #[] } :: ds } W)
    (hstop : ∀ (D : Nat) (c : Code) (pre : List β) (W : World), w.heap.size ≤ D → pre <+: xs → Ix c pre W → W.heap[D]? = some (.deferred (some [])) → c.wpIn Fence.wide n P Q { tmps := t, defers := { target := .collected D, args := #[] } :: ds } W) :
    (Code.rangeFunc g #[p] assign body).wpIn Fence.wide n P Q { tmps := t, defers := ds } w :=
  wpIn_iter n gf caps (fun x => #[val x]) Ini At KP St xs hg eg hseq (fun _ => rfl) hIni hSt hAt hKr hKt I Ix hI hIx hst hstx h0 (fun x => { tmps := (t.setIfInBounds p (val x)).setIfInBounds q (val x), defers := [] })
    (fun m l x W K hK => by simpa using hassign m l x W K hK) hbody hdone hstop
/-- The same for an iterator that hands over two values, of which the loop keeps the second. -/
theorem wpIn_iter2 {β : Type} {P : Program} {p1 p2 q : Nat} {g : Operand} {assign body : Code} {Q : Exit → Act → World → Prop} {t : Array Value} {ds : List Deferred} {w : World} (n : Nat) (gf : FuncId) (caps : Array Value) (v1 v2 : β → Value) (Ini : World → Prop) (At : β → World → Prop) (KP St : World → World → Prop) (xs : List β)
    (hg : ({ tmps := t, defers := ds } : Act).eval g = .func (.func gf) #[] caps) (eg : ∀ args w, (callFunc gf args).run P w = .ok (.enter gf args) w)
    (hseq : SeqV P gf caps (fun x => #[v1 x, v2 x]) Ini At KP St xs)
    (hIni : ∀ V, Below w.heap.size w V → V.heap.size = w.heap.size + 1 + 1 → Ini V)
    (hSt : ∀ A B k, St A B → k < A.heap.size → w.heap.size ≤ k → k < w.heap.size + 1 + 1 → B.heap[k]? = A.heap[k]?)
    (hAt : ∀ x W o, w.heap.size + 1 < W.heap.size → At x W → At x (W.putObj (w.heap.size + 1) o)) (hKr : ∀ W o, w.heap.size + 1 < W.heap.size → KP W (W.putObj (w.heap.size + 1) o)) (hKt : ∀ {A B C}, KP A B → KP B C → KP A C)
    (I : List β → World → Prop) (Ix : Code → List β → World → Prop) (hI : OwnFrom w.heap.size I) (hIx : ∀ c, OwnFrom w.heap.size (Ix c)) (hst : ∀ s A B, I s A → St A B → I s B) (hstx : ∀ c s A B, Ix c s A → St A B → Ix c s B) (h0 : I [] w)
    (hassign : ∀ (m l : Nat) (x : β) (W : World) (K : Act → World → Prop), K { tmps := ((t.setIfInBounds p1 (v1 x)).setIfInBounds p2 (v2 x)).setIfInBounds q (v2 x), defers := [] } W →
      assign.wpIn (Fence.wide.inRound l) m P (Exit.then K (fun _ _ _ => False)) { tmps := (t.setIfInBounds p1 (v1 x)).setIfInBounds p2 (v2 x), defers := [] } W)
    (hbody : ∀ (m l : Nat) (pre : List β) (x : β) (W : World), I pre W → At x W → pre ++ [x] <+: xs → body.wpIn (Fence.wide.inRound l) m P (ownPostG w.heap.size KP I Ix (pre ++ [x]) W) { tmps := ((t.setIfInBounds p1 (v1 x)).setIfInBounds p2 (v2 x)).setIfInBounds q (v2 x), defers := [] } W)
    (hdone : ∀ (D : Nat) (W : World), w.heap.size ≤ D → I xs W → W.heap[D]? = some (.deferred (some [])) → Q .normal { tmps := t, defers := { target := .collected D, args := #[] } :: ds } W)
    (hstop : ∀ (D : Nat) (c : Code) (pre : List β) (W : World), w.heap.size ≤ D → pre <+: xs → Ix c pre W → W.heap[D]? = some (.deferred (some [])) → c.wpIn Fence.wide n P Q { tmps := t, defers := { target := .collected D, args := #[] } :: ds } W) :
    (Code.rangeFunc g #[p1, p2] assign body).wpIn Fence.wide n P Q { tmps := t, defers := ds } w :=
  wpIn_iter n gf caps (fun x => #[v1 x, v2 x]) Ini At KP St xs hg eg hseq (fun _ => rfl) hIni hSt hAt hKr hKt I Ix hI hIx hst hstx h0 (fun x => { tmps := ((t.setIfInBounds p1 (v1 x)).setIfInBounds p2 (v2 x)).setIfInBounds q (v2 x), defers := [] })
    (fun m l x W K hK => by simpa using hassign m l x W K hK) hbody hdone hstop
/-- A call in a walk at the wide fence by the callee's fenced contract; in a round. -/
theorem wide_callF {n m : Nat} {P : Program} {f : FuncId} {args : Array Value} {w : World} {R : Ending → World → Prop} (h : CallsIn Fence.wide m P f args w R) : Fence.wide.fn f ∧ (Fence.wide.depth.isSome = true → 1 ≤ n) ∧ CallsIn Fence.wide m P f args w R :=
  ⟨trivial, (fun h => by cases h), h⟩
theorem wide_callI {n m : Nat} {P : Program} {f : FuncId} {args : Array Value} {w : World} {R : Ending → World → Prop} (h : Calls P f args w R) : Fence.wide.fn f ∧ (Fence.wide.depth.isSome = true → 1 ≤ n) ∧ CallsIn Fence.wide m P f args w R :=
  ⟨trivial, (fun h => by cases h), callsIn_wide.2 h⟩
theorem round_callI {n m l : Nat} {P : Program} {f : FuncId} {args : Array Value} {w : World} {R : Ending → World → Prop} (h : Calls P f args w R) : (Fence.wide.inRound l).fn f ∧ ((Fence.wide.inRound l).depth.isSome = true → 1 ≤ n) ∧ CallsIn (Fence.wide.inRound l) m P f args w R :=
  ⟨trivial, (fun h => by cases h), CallsIn.inRound l (callsIn_wide.2 h)⟩
end Go.Proofs.Ytdinknpagklkjaa

/- A range over a bound method that iterates: XIter's laws with arguments ahead. Conditions: none. -/
namespace Go.Proofs.Ytdinknpagklkjaa
open Go.RowKit Go.Shelf

/-- The iterator's word: Ini: what it begins at; At: what lies there as it hands over; KP: what a round that goes on keeps; St: what it does itself between two rounds. -/
def SeqM {β : Type} (P : Program) (gf : FuncId) (bnd caps : Array Value) (args : β → Array Value) (Ini : World → Prop) (At : β → World → Prop) (KP St : World → World → Prop) (xs : List β) : Prop :=
  ∀ (n l : Nat) (J Jx : List β → World → Prop) (W : World), Ini W → (∀ s A B, J s A → St A B → J s B) → (∀ s A B, Jx s A → St A B → Jx s B) →
    (∀ m pre x W1, J pre W1 → At x W1 → pre ++ [x] <+: xs → YieldAt Fence.wide m P l (args x) W1 fun e W' =>
      (e = .returned (.bool true) ∧ J (pre ++ [x]) W' ∧ KP W1 W') ∨ (e = .returned (.bool false) ∧ Jx (pre ++ [x]) W')) →
    J [] W →
    CallsIn Fence.wide n P gf (bnd ++ #[.func (.yield l) #[] #[]] ++ caps) W fun e W' => (∃ v, e = .returned v) ∧ (J xs W' ∨ ∃ pre, pre <+: xs ∧ Jx pre W')

theorem wpIn_iterM {β : Type} {P : Program} {g : Operand} {ps : Array Tmp} {assign body : Code} {Q : Exit → Act → World → Prop} {a : Act} {w : World} (n : Nat) (gf : FuncId) (bnd caps : Array Value) (args : β → Array Value) (Ini : World → Prop) (At : β → World → Prop) (KP St : World → World → Prop) (xs : List β)
    (hg : a.eval g = .func (.func gf) bnd caps) (eg : ∀ args w, (callFunc gf args).run P w = .ok (.enter gf args) w)
    (hseq : SeqM P gf bnd caps args Ini At KP St xs) (hps : ∀ x, (args x).size = ps.size)
    (hIni : ∀ V, Below w.heap.size w V → V.heap.size = w.heap.size + 1 + 1 → Ini V)
    (hSt : ∀ A B k, St A B → k < A.heap.size → w.heap.size ≤ k → k < w.heap.size + 1 + 1 → B.heap[k]? = A.heap[k]?)
    (hAt : ∀ x W o, w.heap.size + 1 < W.heap.size → At x W → At x (W.putObj (w.heap.size + 1) o)) (hKr : ∀ W o, w.heap.size + 1 < W.heap.size → KP W (W.putObj (w.heap.size + 1) o)) (hKt : ∀ {A B C}, KP A B → KP B C → KP A C)
    (I : List β → World → Prop) (Ix : Code → List β → World → Prop) (hI : OwnFrom w.heap.size I) (hIx : ∀ c, OwnFrom w.heap.size (Ix c)) (hst : ∀ s A B, I s A → St A B → I s B) (hstx : ∀ c s A B, Ix c s A → St A B → Ix c s B) (h0 : I [] w) (a₁ : β → Act)
    (hassign : ∀ (m l : Nat) (x : β) (W : World) (K : Act → World → Prop), K (a₁ x) W →
      assign.wpIn (Fence.wide.inRound l) m P (Exit.then K (fun _ _ _ => False)) { tmps := (ps.zip (args x)).foldl (fun t (p, v) => t.setIfInBounds p v) a.tmps, defers := [] } W)
    (hbody : ∀ (m l : Nat) (pre : List β) (x : β) (W : World), I pre W → At x W → pre ++ [x] <+: xs → body.wpIn (Fence.wide.inRound l) m P (ownPostG w.heap.size KP I Ix (pre ++ [x]) W) (a₁ x) W)
    (hdone : ∀ (D : Nat) (W : World), w.heap.size ≤ D → I xs W → W.heap[D]? = some (.deferred (some [])) → Q .normal { a with defers := { target := .collected D, args := #[] } :: a.defers } W)
    (hstop : ∀ (D : Nat) (c : Code) (pre : List β) (W : World), w.heap.size ≤ D → pre <+: xs → Ix c pre W → W.heap[D]? = some (.deferred (some [])) → c.wpIn Fence.wide n P Q { a with defers := { target := .collected D, args := #[] } :: a.defers } W) :
    (Code.rangeFunc g ps assign body).wpIn Fence.wide n P Q a w := by
  refine wpIn_rangeFunc fun fn hfn => ?_
  obtain ⟨D, hD⟩ : ∃ D, w.heap.size = D := ⟨_, rfl⟩
  let R : LoopState → Option Code → Loop := fun st pe => { state := st, pending := pe, fn := fn, tmps := a.tmps, params := ps, assign := assign, body := body, defers := D }
  obtain ⟨V, hV⟩ : ∃ V, V = (w.alloc (.deferred (some []))).alloc (.loop (R .ready none)) := ⟨_, rfl⟩
  have hrec : V.heap[D + 1]? = some (.loop (R .ready none)) := by
    have := World.alloc_heap_new (w.alloc (.deferred (some []))) (.loop (R .ready none))
    rw [World.size_alloc, hD] at this
    rw [hV]; exact this
  have hdef : V.heap[D]? = some (.deferred (some [])) := by
    rw [hV, ← hD]
    exact (Below.heap_alloc _ _ _ (by simp)).trans (World.alloc_heap_new w _)
  have hVI : I [] V := by rw [hV]; exact hI.alloc _ (hI.alloc _ h0)
  have hVb : Below w.heap.size w V := by rw [hV]; exact ((Below.refl _ w).alloc (Nat.le_refl _) _).alloc (by simp) _
  have hVs : V.heap.size = w.heap.size + 1 + 1 := by rw [hV]; simp
  have hVi := hIni V hVb hVs
  refine ⟨D + 1, [{ target := .collected D, args := #[] }], V, { target := .fn (.func gf) caps, args := bnd ++ #[.func (.yield (D + 1)) #[] #[]] }, V, gf,
    bnd ++ #[.func (.yield (D + 1)) #[] #[]] ++ caps, V, ?_, ?_, ?_, ?_, ?_, ?_⟩
  · have := run_enterLoop_outer (P := P) (w := w) fn a.tmps ps assign body
    rw [hD] at this
    rw [hV]; exact this
  · simp only [resolve, hg]
    simp [go_sem]
  · intro f' hf'
    trivial
  · simp [invoke, go_sem, eg]
  · intro h
    cases h
  · rw [hD] at hI hIx hbody hdone hstop hVb hSt hAt hKr
    have keep : ∀ {A B : World} {k : Nat} {o : Obj}, St A B → D ≤ k → k < D + 1 + 1 → A.heap[k]? = some o → B.heap[k]? = some o := fun {A B k o} hs h1 h2 ho =>
      (hSt A B k hs (Array.getElem?_eq_some_iff.1 ho).1 h1 h2).trans ho
    refine (hseq (n - 1) (D + 1) (fun pre W => I pre W ∧ W.heap[D + 1]? = some (.loop (R .ready none)) ∧ W.heap[D]? = some (.deferred (some [])))
      (fun pre W => ∃ c, Ix c pre W ∧ W.heap[D + 1]? = some (.loop (R .done (some c))) ∧ W.heap[D]? = some (.deferred (some []))) V hVi ?_ ?_ ?_ ⟨hVI, hrec, hdef⟩).mono ?_
    · rintro s A B ⟨h1, h2, h3⟩ hs
      exact ⟨hst s A B h1 hs, keep hs (by omega) (by omega) h2, keep hs (Nat.le_refl _) (by omega) h3⟩
    · rintro s A B ⟨c, h1, h2, h3⟩ hs
      exact ⟨c, hstx c s A B h1 hs, keep hs (by omega) (by omega) h2, keep hs (Nat.le_refl _) (by omega) h3⟩
    · -- one round
      rintro m pre x W ⟨hi, hl, hk⟩ hat hpx
      have hlt : D + 1 < W.heap.size := (Array.getElem?_eq_some_iff.1 hl).1
      have hy : (Instr.yield (D + 1) (args x)).run P W = .ok (.round (D + 1) fn ((ps.zip (args x)).foldl (fun t (p, v) => t.setIfInBounds p v) a.tmps) assign body) W :=
        run_yield hl (hps x)
      refine ⟨fn, _, assign, body, hy, roundIn_of_wpIn hfn (hassign _ _ x W _ ⟨_, run_beginRound hl rfl, ?_⟩)⟩
      obtain ⟨W2, hW2⟩ : ∃ W2, W2 = W.putObj (D + 1) (.loop { R .ready none with state := .busy }) := ⟨_, rfl⟩
      rw [← hW2]
      have hl2 : W2.heap[D + 1]? = some (.loop { R .ready none with state := .busy }) := by rw [hW2]; exact World.putObj_heap_same hlt
      have hk2 : W2.heap[D]? = some (.deferred (some [])) := by rw [hW2]; exact (World.putObj_heap_other (by omega)).trans hk
      have hi2 : I pre W2 := by rw [hW2]; exact hI.putObj _ hi (by omega) hl rfl
      have hp2 : KP W W2 := by rw [hW2]; exact hKr W _ hlt
      have hat2 : At x W2 := by rw [hW2]; exact hAt x W _ hlt hat
      refine wpIn_mono (hbody _ _ pre x W2 hi2 hat2 hpx) ?_
      have leave : ∀ (c : Code) (W3 : World), KeepsFrom D W2 W3 → Ix c (pre ++ [x]) W3 →
          ∃ v W4, (Instr.endRound (D + 1) (some c)).run P W3 = .ok v W4 ∧ ((Ending.returned v = .returned (.bool true) ∧ (I (pre ++ [x]) W4 ∧ W4.heap[D + 1]? = some (.loop (R .ready none)) ∧ W4.heap[D]? = some (.deferred (some []))) ∧ KP W W4) ∨
            (Ending.returned v = .returned (.bool false) ∧ ∃ c, Ix c (pre ++ [x]) W4 ∧ W4.heap[D + 1]? = some (.loop (R .done (some c))) ∧ W4.heap[D]? = some (.deferred (some [])))) := by
        intro c W3 hk3 hi3
        have hl3 := hk3.same _ _ (by omega) hl2 rfl
        exact ⟨_, _, run_endRound (some c) hl3, .inr ⟨rfl, c, (hIx c).putObj _ hi3 (by omega) hl3 rfl, World.putObj_heap_same (Array.getElem?_eq_some_iff.1 hl3).1, (World.putObj_heap_other (by omega)).trans (hk3.same _ _ (Nat.le_refl _) hk2 rfl)⟩⟩
      rintro e a3 W3 hp
      cases e with
      | normal =>
        obtain ⟨hk3, hkp, hi3⟩ := hp
        have hl3 := hk3.same _ _ (by omega) hl2 rfl
        exact ⟨_, _, run_endRound none hl3, .inl ⟨rfl, ⟨hI.putObj _ hi3 (by omega) hl3 rfl, World.putObj_heap_same (Array.getElem?_eq_some_iff.1 hl3).1, (World.putObj_heap_other (by omega)).trans (hk3.same _ _ (Nat.le_refl _) hk2 rfl)⟩, hKt (hKt hp2 hkp) (hKr W3 _ (Array.getElem?_eq_some_iff.1 hl3).1)⟩⟩
      | ret => exact leave .ret W3 hp.1 hp.2
      | exit id => exact leave (.exit id) W3 hp.1 hp.2
      | goto t => exact leave (.goto t) W3 hp.1 hp.2
      | panic ch => exact hp.elim
      | outgrown => exact hp.elim
    · -- the iterator has returned
      rintro e W2 ⟨⟨v, rfl⟩, ⟨hi, hl, hk⟩ | ⟨pre, hpre, c, hi, hl, hk⟩⟩
      · exact ⟨none, _, run_endLoop hl (by intro h; cases h), hdone D _ (Nat.le_refl _) (hI.putObj _ hi (by omega) hl rfl) ((World.putObj_heap_other (by omega)).trans hk)⟩
      · exact ⟨some c, _, run_endLoop hl (by intro h; cases h), hstop D c pre _ (Nat.le_refl _) hpre ((hIx c).putObj _ hi (by omega) hl rfl) ((World.putObj_heap_other (by omega)).trans hk)⟩
/-- The same for an iterator that hands over one value, the loop's variable in a slot of its own. -/
theorem wpIn_iterM1 {β : Type} {P : Program} {p q : Nat} {g : Operand} {assign body : Code} {Q : Exit → Act → World → Prop} {t : Array Value} {ds : List Deferred} {w : World} (n : Nat) (gf : FuncId) (bnd caps : Array Value) (val : β → Value) (Ini : World → Prop) (At : β → World → Prop) (KP St : World → World → Prop) (xs : List β)
    (hg : ({ tmps := t, defers := ds } : Act).eval g = .func (.func gf) bnd caps) (eg : ∀ args w, (callFunc gf args).run P w = .ok (.enter gf args) w)
    (hseq : SeqM P gf bnd caps (fun x => #[val x]) Ini At KP St xs)
    (hIni : ∀ V, Below w.heap.size w V → V.heap.size = w.heap.size + 1 + 1 → Ini V)
    (hSt : ∀ A B k, St A B → k < A.heap.size → w.heap.size ≤ k → k < w.heap.size + 1 + 1 → B.heap[k]? = A.heap[k]?)
    (hAt : ∀ x W o, w.heap.size + 1 < W.heap.size → At x W → At x (W.putObj (w.heap.size + 1) o)) (hKr : ∀ W o, w.heap.size + 1 < W.heap.size → KP W (W.putObj (w.heap.size + 1) o)) (hKt : ∀ {A B C}, KP A B → KP B C → KP A C)
    (I : List β → World → Prop) (Ix : Code → List β → World → Prop) (hI : OwnFrom w.heap.size I) (hIx : ∀ c, OwnFrom w.heap.size (Ix c)) (hst : ∀ s A B, I s A → St A B → I s B) (hstx : ∀ c s A B, Ix c s A → St A B → Ix c s B) (h0 : I [] w)
    (hassign : ∀ (m l : Nat) (x : β) (W : World) (K : Act → World → Prop), K { tmps := (t.setIfInBounds p (val x)).setIfInBounds q (val x), defers := [] } W →
      assign.wpIn (Fence.wide.inRound l) m P (Exit.then K (fun _ _ _ => False)) { tmps := t.setIfInBounds p (val x), defers := [] } W)
    (hbody : ∀ (m l : Nat) (pre : List β) (x : β) (W : World), I pre W → At x W → pre ++ [x] <+: xs → body.wpIn (Fence.wide.inRound l) m P (ownPostG w.heap.size KP I Ix (pre ++ [x]) W) { tmps := (t.setIfInBounds p (val x)).setIfInBounds q (val x), defers := [] } W)
    (hdone : ∀ (D : Nat) (W : World), w.heap.size ≤ D → I xs W → W.heap[D]? = some (.deferred (some [])) → Q .normal { tmps := t, defers := { target := .collected D, args := #[] } :: ds } W)
    (hstop : ∀ (D : Nat) (c : Code) (pre : List β) (W : World), w.heap.size ≤ D → pre <+: xs → Ix c pre W → W.heap[D]? = some (.deferred (some [])) → c.wpIn Fence.wide n P Q { tmps := t, defers := { target := .collected D, args := #[] } :: ds } W) :
    (Code.rangeFunc g #[p] assign body).wpIn Fence.wide n P Q { tmps := t, defers := ds } w :=
  wpIn_iterM n gf bnd caps (fun x => #[val x]) Ini At KP St xs hg eg hseq (fun _ => rfl) hIni hSt hAt hKr hKt I Ix hI hIx hst hstx h0 (fun x => { tmps := (t.setIfInBounds p (val x)).setIfInBounds q (val x), defers := [] })
    (fun m l x W K hK => by simpa using hassign m l x W K hK) hbody hdone hstop
end Go.Proofs.Ytdinknpagklkjaa
