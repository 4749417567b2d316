/- copy: a whole row filled with a slice of its length. Conditions: none. -/
import Derived.Test.YtjkfogkpacmdlaaFeeLeast11
import Derived.Laws.CopyOwn
import Derived.Test.YtjkfogkpacmdlaaProg
import Derived.Test.YtjkfogkpacmdlaaFeeLeast10
import Derived.Laws.IdiomCopy
import Derived.Test.YtjkfogkpacmdlaaFeeLeast6
namespace Go.Proofs.Ytjkfogkpacmdlaa
open Go.RowKit

theorem run_copy_all {P : Program} {α : Type} {f : α → Value} (w : World) (dT sT ty e : TypeId) (g n dc : Nat) (A : Option Addr) (sc B : Nat) (cur : Array Value) (xs : List α) (hu : P.underlying dT = some (.slice e)) (hs : (P.info? e).map (·.size) = some 1)
    (hg : Blk w g e cur) (hc : cur.size = n) (hx : Els w B 1 (fun a => [f a]) A xs) (hn : xs.length = n) (h1 : ∀ a, (f a).oneCell' = true) :
    ∃ w' : World, (Builtin.copy_ #[dT, sT] ty #[.slice (some ⟨g, 0, none⟩) n dc, .slice A n sc]).run P w = .ok (goInt n) w' ∧ Blk w' g e (xs.map f).toArray ∧ Below g w w' ∧ ∀ k, k ≠ g → w'.heap[k]? = w.heap[k]? := by
  by_cases h0 : n = 0
  · subst h0
    have hx0 : xs = [] := List.length_eq_zero_iff.1 hn
    have hcur : cur = #[] := Array.eq_empty_of_size_eq_zero hc
    subst hx0 hcur
    exact ⟨w, run_copy_none w dT sT ty e _ A 0 dc 0 sc hu hs (by simp), hg, Below.refl _ _, fun _ _ => rfl⟩
  · obtain ⟨b, off, rfl, _, _⟩ := hx (by omega)
    have hcs : ∀ j v, (xs.map f)[j]? = some v → w.cell? ((⟨b, off, none⟩ : Addr).add j) = some v := fun j v hv => hx.cells (fun _ => rfl) rfl j v (by rw [flat1]; exact hv)
    have hone : ∀ v ∈ xs.map f, v.oneCell' = true := fun v hv => by
      obtain ⟨a, _, rfl⟩ := List.mem_map.1 hv
      exact h1 a
    have hlen : (xs.map f).length = n := by rw [List.length_map, hn]
    have := run_copy_row (P := P) w dT sT ty e g 0 n dc ⟨b, off, none⟩ n sc cur e (xs.map f) hu hs hg (by rw [hlen]; simp) hcs (by rw [hlen, hc]; omega) hone
    rw [hlen] at this
    have hdrop : cur.toList.take 0 ++ xs.map f ++ cur.toList.drop (0 + n) = xs.map f := by
      rw [List.drop_of_length_le (by simp [hc]), List.take_zero, List.nil_append, List.append_nil]
    rw [hdrop] at this
    exact ⟨_, this, setRow_heap w g cur _ e (0, 0) hg, below_setRow (Below.refl g w) (Nat.le_refl _) _, fun k hk => setRow_other w g k _ hk⟩
end Go.Proofs.Ytjkfogkpacmdlaa

/- slices.Repeat of one number. Conditions: the slice reads as a list of one; the count is small. -/
namespace Go.Proofs.Ytjkfogkpacmdlaa
open Go.RowKit
attribute [local go_sem] Oper.semAt_some

set_option maxRecDepth 100000 in
theorem Mul64_one (y : Nat) (hy : y < 32) (w : World) : Calls Try.prog 64 #[.int .u64 1, .int .u64 (y : Int)] w fun e w' => e = .returned (.tuple #[.int .u64 0, .int .u64 (y : Int)]) ∧ w' = w := by
  go_enter Try.func64, Try.ntmps64
  go_wp2_with fail
  refine bodyPost_ret (v := .tuple #[.int .u64 0, .int .u64 (y : Int)]) ?_ rfl ⟨rfl, rfl⟩
  simp [results, Try.results64, go_sem]
  clear w
  revert y
  decide +kernel

set_option maxRecDepth 100000 in
theorem Mul_one (y : Nat) (hy : y < 32) (w : World) : Calls Try.prog 51 #[.int .u64 1, .int .u64 (y : Int)] w fun e w' => e = .returned (.tuple #[.int .u64 0, .int .u64 (y : Int)]) ∧ w' = w := by
  have H := Lib.hid (Mul64_one y hy w)
  go_enter Try.func51, Try.ntmps51
  go_wp2_with fail
  refine H.out.mono ?_
  clear H
  rintro e w' ⟨rfl, rfl⟩
  go_wp2_with fail
  refine bodyPost_ret (v := .tuple #[.int .u64 0, .int .u64 (y : Int)]) ?_ rfl ⟨rfl, rfl⟩
  simp [results, Try.results51, go_sem]

/-- A row of k whose first n are x. -/
def rowX (n k : Nat) (x : Int) : Array Value := (List.replicate n (Value.int .i64 x) ++ List.replicate (k - n) (Value.int .i64 0)).toArray
theorem rowX_size {n k : Nat} (h : n ≤ k) (x : Int) : (rowX n k x).size = k := by simp [rowX]; omega
theorem rowX_zero (k : Nat) (x : Int) : madeCells #[.int .i64 0] k = rowX 0 k x := by
  refine Array.ext' ?_
  rw [made_flat (fun y : Int => Value.int .i64 y) 0 k, flat1]
  simp [rowX]
theorem rowX_full (k : Nat) (x : Int) : rowX k k x = madeCells #[.int .i64 x] k := by
  refine Array.ext' ?_
  rw [made_flat (fun y : Int => Value.int .i64 y) x k, flat1]
  simp [rowX]
theorem rowX_step {n m k : Nat} (h : n + m ≤ k) (x : Int) : ((rowX n k x).toList.take n ++ List.replicate m (Value.int .i64 x) ++ (rowX n k x).toList.drop (n + m)).toArray = rowX (n + m) k x := by
  unfold rowX
  congr 1
  rw [List.take_left' (by simp), List.drop_append, List.drop_of_length_le (by simp), List.nil_append]
  simp only [List.length_replicate, List.drop_replicate]
  rw [List.replicate_append_replicate]
  congr 2
  omega
theorem copy_stepX {W : World} {g n m k sc dc : Nat} {x : Int} {a : Addr} {sl : Nat} (hg : Blk W g 2 (rowX n k x)) (h : n + m ≤ k) (hm : m = Nat.min sl (k - n)) (hc : ∀ j, j < m → W.cell? (a.add j) = some (.int .i64 x)) :
    ∃ W', (Builtin.copy_ #[40, 40] 3 #[.slice (some ⟨g, n, none⟩) (k - n) dc, .slice (some a) sl sc]).run Try.prog W = .ok (goInt m) W' ∧ Blk W' g 2 (rowX (n + m) k x) ∧ Below g W W' := by
  have hlen : (List.replicate m (Value.int .i64 x)).length = m := by simp
  have := run_copy_row (P := Try.prog) W 40 40 3 2 g n (k - n) dc a sl sc (rowX n k x) 2 (List.replicate m (Value.int .i64 x)) (by kernel_rfl) (by kernel_rfl) hg (by rw [hlen]; exact hm)
    (fun j v hv => by
      rw [List.getElem?_replicate] at hv
      split at hv
      · rename_i hj
        injection hv with hv
        rw [← hv]
        exact hc j hj
      · cases hv) (by rw [hlen, rowX_size (by omega)]; exact h) (fun v hv => by rw [List.eq_of_mem_replicate hv]; rfl)
  rw [hlen, rowX_step h] at this
  exact ⟨_, this, setRow_heap W g (rowX n k x) _ 2 (0, 0) hg, below_setRow (Below.refl g W) (Nat.le_refl _) _⟩

set_option maxRecDepth 100000 in
set_option maxHeartbeats 1000000 in
theorem Repeat_longs (x : Int) (A : Option Addr) (c k B : Nat) (w : World) (hk : k ≤ 16) (hr : Els w B 1 icell A [x]) :
    Calls Try.prog 30 #[.slice A 1 c, .int .i64 k] w fun e w' => e = .returned (.slice (some ⟨w.heap.size, 0, none⟩) k k) ∧ Below w.heap.size w w' ∧ Own w' w.heap.size 2 1 icell (some ⟨w.heap.size, 0, none⟩) k (List.replicate k x) := by
  have HMUL := Lib.hid (Mul_one k (by omega) w)
  obtain ⟨S, hS⟩ : ∃ S, S = w.heap.size := ⟨_, rfl⟩
  have HS := Lib.hid hS
  obtain ⟨b, off, rfl, hbB, e0⟩ := hr.at1 (k := 0) (by simp)
  have hi1 : (Try.prog.info? 2).map (fun i => (i.zero, i.size, i.bytes)) = some (some (.int .i64 0), 1, 8) := rfl
  obtain ⟨i1, a1, b1, c1', d1⟩ := info_parts hi1
  have hm1 : ∀ W : World, (Instr.makeSlice 40 (.int .i64 k) (.int .i64 k)).run Try.prog W = .ok (.slice (some ⟨W.heap.size, 0, none⟩) k k) (W.alloc (.cells (madeCells #[.int .i64 0] k) 2)) := fun W => by
    have := run_make (P := Try.prog) W 40 2 i1 (.int .i64 0) (by kernel_rfl) a1 b1 .i64 .i64 k k (by omega) (Int.le_refl _) (by rw [d1]; omega) (by omega)
    rw [c1', Nat.mul_one, show (Value.int .i64 0).cells = #[Value.int .i64 0] from rfl] at this
    simpa using this
  clear hi1 a1 b1 c1' d1
  have hwk : IntKind.u64.wrap (k : Int) = (k : Int) := by rw [IntKind.wrap_u64]; omega
  have hwi : IntKind.i64.wrap (k : Int) = (k : Int) := by rw [IntKind.wrap_i64]; omega
  have hk0 : ¬ ((k : Int) < 0) := by omega
  have hkb : decide ((9223372036854775807 : Int) < (k : Int)) = false := decide_eq_false (by omega)
  have hkb' : ¬ ((9223372036854775807 : Int) < (k : Int)) := by omega
  obtain ⟨W1, hW1⟩ : ∃ W1, W1 = w.alloc (.cells (madeCells #[.int .i64 0] k) 2) := ⟨_, rfl⟩
  have hb1 : Below S w W1 := by rw [hW1, hS]; exact (Below.refl _ w).alloc (Nat.le_refl _) _
  have hk1 : Blk W1 S 2 (rowX 0 k x) := by rw [hW1, hS, ← rowX_zero]; exact Blk.new w _ _
  have hlt : b < S := by rw [hS]; exact World.block_lt_of_cell? w _ e0
  have e1 : W1.cell? ⟨b, off, none⟩ = some (.int .i64 x) := (hb1.cell hlt).trans e0
  have hmk := hm1 w
  rw [← hW1, ← hS] at hmk
  obtain ⟨m0, hm0⟩ : ∃ m0, m0 = Nat.min 1 k := ⟨_, rfl⟩
  have hm0k : m0 ≤ k := by rw [hm0]; exact Nat.min_le_right _ _
  have hm01 : k = 0 ∨ 1 ≤ m0 := by
    rw [hm0]
    rcases Nat.eq_zero_or_pos k with h | h
    · exact .inl h
    · exact .inr (Nat.le_min.2 ⟨Nat.le_refl 1, h⟩)
  have hm1' : m0 ≤ 1 := by rw [hm0]; exact Nat.min_le_left _ _
  obtain ⟨W2, hcp, hk2, hb2⟩ := copy_stepX (sc := c) (dc := k) (sl := 1) (a := ⟨b, off, none⟩) hk1 (by omega) hm0 (fun j hj => by
    obtain rfl : j = 0 := by omega
    exact e1)
  rw [Nat.sub_zero] at hcp
  rw [Nat.zero_add] at hk2
  have HB2 : Hid (Below S w W2) := Lib.hid (hb1.trans hb2)
  have HK2 := Lib.hid hk2
  have hg0 : goInt m0 = .int .i64 (m0 : Int) := rfl
  rw [hg0] at hcp
  rw [← hS]
  clear hr hb1 e0 hS hW1 hbB e1 hm1 hm0 hk1 hk2 hb2 hg0 hlt
  go_enter Try.func30, Try.ntmps30
  go_wp2_with fail
  refine HMUL.out.mono ?_
  clear HMUL
  rintro e w' ⟨rfl, rfl⟩
  go_wp2_with fail
  clear hmk hcp
  go_loopw [8] (fun v wr => ∃ n : Nat, n ≤ k ∧ (k = 0 ∨ 1 ≤ n) ∧ v = .int .i64 n ∧ Below S w' wr ∧ Blk wr S 2 (rowX n k x)) (fun v _ => k - (intOf v).toNat)
  case atStart => exact ⟨m0, hm0k, hm01, rfl, HB2.out, HK2.out⟩
  case round =>
    clear HB2 HK2 hm0k hm01 hm1'
    rename World => wr
    obtain ⟨n, hn, hn1, rfl, hb, hk⟩ := hrel
    by_cases hlt : n < k
    · have hlti : (n : Int) < (k : Int) := by omega
      have HKN : Hid (¬ k = n) := Lib.hid (by omega)
      obtain ⟨m, hm⟩ : ∃ m, m = Nat.min n (k - n) := ⟨_, rfl⟩
      have hmn : m ≤ n := by rw [hm]; exact Nat.min_le_left _ _
      have hmk2 : m ≤ k - n := by rw [hm]; exact Nat.min_le_right _ _
      have hm1 : 1 ≤ m := by rw [hm]; exact Nat.le_min.2 ⟨by omega, by omega⟩
      obtain ⟨W3, hcp, hk3, hb3⟩ := copy_stepX (sc := k) (dc := k - n) (sl := n) (a := ⟨S, 0, none⟩) hk.drew (by omega) hm (fun j hj => by
        have hjn : j < n := by omega
        have h1 := hk.drew.cell j
        have h2 : (rowX n k x)[j]? = some (.int .i64 x) := by simp [rowX, List.getElem?_append, List.getElem?_replicate, hjn]
        rw [h2] at h1
        have h3 : (⟨S, 0, none⟩ : Addr).add j = ⟨S, j, none⟩ := by rw [addr_add, Nat.zero_add]
        rw [h3]
        exact h1)
      have hg0 : goInt m = .int .i64 (m : Int) := rfl
      rw [hg0] at hcp
      have HB3 : Hid (Below S w' W3) := Lib.hid (hb.drew.trans hb3)
      have HK3 := Lib.hid hk3
      have hw1 : IntKind.i64.wrap ((n : Int) + (m : Int)) = ((n + m : Nat) : Int) := by rw [IntKind.wrap_i64]; omega
      clear hk hb hk3 hb3 hm hg0
      go_wp2_with fail
      refine region_plain 99 10 (fun _ => True) (by kernel_rfl) rfl ?_
      refine anyC_reads (by kernel_rfl) [0, 1, 2, 3, 4, 5, 6] ?opl ?ohl 3 _ _ _ (by kernel_rfl) ?okk
      case ohl => (simp only [List.filterMap_cons, List.filterMap_nil, List.getElem?_toArray, List.getElem?_cons_zero, List.getElem?_cons_succ]; try rfl)
      repeat (
        refine readC_step (v := ?_) rfl (fun w' hw' => ?_) ?_
        rotate_left
        focus (clear hw'; go_simp; try with_reducible rfl)
        go_simp)
      refine readC_nil ?_
      refine anyC_one (i := 7) (by kernel_rfl) rfl rfl (.inr trivial) ?_
      go_simp
      rw [if_neg HKN.out, hcp]
      go_simp
      refine anyC_one (i := 8) (by kernel_rfl) rfl rfl (.inr trivial) ?_
      go_simp
      refine anyC_one (i := 9) (by kernel_rfl) rfl rfl (.inr trivial) ?_
      go_simp
      refine anyC_end (by kernel_rfl) (.inr trivial) ?_
      go_wp2_with fail
      go_roundw
      case rel => exact ⟨n + m, by omega, .inr (by omega), by go_num, HB3.out, HK3.out⟩
      case measure => simp [intOf]; omega
    · have hnk : n = k := by omega
      have hlti : ¬ ((n : Int) < (k : Int)) := by omega
      have HO : Hid (Own wr S 2 1 icell (some ⟨S, 0, none⟩) k (List.replicate k x)) := Lib.hid (by
        rw [hnk, rowX_full] at hk
        exact Own.block1 (f := fun x => .int .i64 x) (x0 := x) hk (by unfold maxLen; omega) (Nat.le_refl _))
      have HB := Lib.hid hb
      clear hk hb hnk
      go_wp2_with fail
      go_ret
      exact ⟨rfl, HB.out, HO.out⟩
end Go.Proofs.Ytjkfogkpacmdlaa

/- slices.IndexFunc and slices.ContainsFunc at element types of this program, whatever the closure. Conditions: the slice reads as a list; the closure answers p and changes nothing that was there. -/
namespace Go.Proofs.Ytjkfogkpacmdlaa
open Go.RowKit






end Go.Proofs.Ytjkfogkpacmdlaa
