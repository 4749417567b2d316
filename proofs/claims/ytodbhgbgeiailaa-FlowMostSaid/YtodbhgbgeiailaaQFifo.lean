/- A queue of numbers: appended to at the end, cut at the front. Conditions: none. -/
import Derived.Test.YtodbhgbgeiailaaOwn
import Derived.Test.YtodbhgbgeiailaaMade
import Derived.Test.YtodbhgbgeiailaaHeldB
import Derived.ArgAppend
namespace Go.Proofs.Ytodbhgbgeiailaa
open Go.RowKit

/-- The slice V reads as l and lies in a row of its own, at some place of it; behind it there is room. -/
def Fifo (w : World) (B : Nat) (A : Option Addr) (cap : Nat) (l : List Int) : Prop :=
  ∃ (g off : Nat) (cur : Array Value), A = some ⟨g, off, none⟩ ∧ B ≤ g ∧ Blk w g 3 cur ∧ off + cap ≤ cur.size ∧ l.length ≤ cap ∧ cap ≤ maxLen ∧ ∀ j, (h : j < l.length) → cur[off + j]? = some (.int .i64 l[j])
theorem Fifo.kept {w w' : World} {B cap : Nat} {A : Option Addr} {l : List Int} (h : Fifo w B A cap l) (hk : ∀ g, blkOf A = some g → w'.heap[g]? = w.heap[g]?) : Fifo w' B A cap l := by
  obtain ⟨g, off, cur, rfl, hB, hb, h1⟩ := h
  exact ⟨g, off, cur, rfl, hB, (hk g rfl).trans hb, h1⟩
theorem Fifo.lt {w : World} {B cap : Nat} {A : Option Addr} {l : List Int} (h : Fifo w B A cap l) : ∀ g, blkOf A = some g → B ≤ g ∧ g < w.heap.size := by
  obtain ⟨g, off, cur, rfl, hB, hb, h1⟩ := h
  intro g' hg
  have : g = g' := by simpa [blkOf] using hg
  subst this
  exact ⟨hB, hb.lt⟩
theorem Fifo.cell {w : World} {B cap : Nat} {A : Option Addr} {l : List Int} (h : Fifo w B A cap l) {j : Nat} (hj : j < l.length) : ∃ g off, A = some ⟨g, off, none⟩ ∧ w.cell? ⟨g, off + j, none⟩ = some (.int .i64 l[j]) := by
  obtain ⟨g, off, cur, rfl, hB, hb, h1, h2, h3, h4⟩ := h
  exact ⟨g, off, rfl, (hb.cell (off + j)).trans (h4 j hj)⟩
theorem Fifo.start {w : World} {B : Nat} (s : Int) (hB : B ≤ w.heap.size) : Fifo (w.alloc (.cells #[.int .i64 s] 3)) B (some ⟨w.heap.size, 0, none⟩) 1 [s] :=
  ⟨w.heap.size, 0, _, rfl, hB, Blk.new w _ _, by simp, by simp, by unfold maxLen; omega, fun j hj => by
    have : j = 0 := by simpa using hj
    subst this
    rfl⟩
/-- The front is cut off. -/
theorem Fifo.pop {w : World} {B cap : Nat} {g off : Nat} {x : Int} {l : List Int} (h : Fifo w B (some ⟨g, off, none⟩) cap (x :: l)) : Fifo w B (if cap = 1 then some ⟨g, off, none⟩ else some ⟨g, off + 1, none⟩) (cap - 1) l := by
  obtain ⟨g', off', cur, hA, hB, hb, h1, h2, h3, h4⟩ := h
  simp only [Option.some.injEq, Addr.mk.injEq] at hA
  obtain ⟨rfl, rfl, _⟩ := hA
  rw [List.length_cons] at h2
  by_cases hc : cap = 1
  · rw [if_pos hc]
    refine ⟨g, off, cur, rfl, hB, hb, by omega, by omega, by omega, fun j hj => by omega⟩
  · rw [if_neg hc]
    refine ⟨g, off + 1, cur, rfl, hB, hb, by omega, by omega, by omega, fun j hj => ?_⟩
    have := h4 (j + 1) (by rw [List.length_cons]; omega)
    rw [show off + 1 + j = off + (j + 1) by omega]
    simpa using this
set_option maxRecDepth 100000 in
theorem Fifo.push {w : World} {B cap n : Nat} {A : Option Addr} {l : List Int} (h : Fifo w B A cap l) (hn : l.length = n) (hB : B ≤ w.heap.size) (x : Int) (X : Addr) (cx : Nat) (hx : w.cell? X = some (.int .i64 x)) (hsm : n + 1 ≤ 100000) :
    ∃ (A' : Option Addr) (cap' : Nat) (w' : World), (Builtin.append_ #[39, 39] 39 #[.slice A n cap, .slice (some X) 1 cx]).run Try.prog w = .ok (.slice A' (n + 1) cap') w' ∧ Fifo w' B A' cap' (l ++ [x]) ∧ w.grownBy w' (blkOf A) ∧ (blkOf A' = blkOf A ∨ ∀ g, blkOf A' = some g → w.heap.size ≤ g) := by
  obtain ⟨g, off, cur, rfl, hBg, hb, h1, h2, h3, h4⟩ := h
  have hI : (Try.prog.info? 3).map (fun i => (i.zero, i.size, i.bytes)) = some (some (.int .i64 0), 1, 8) := rfl
  obtain ⟨i, hi, hz, hs, hby⟩ := info_parts hI
  have hnews : ∀ j u, ([Value.int .i64 x] : List Value)[j]? = some u → w.cell? (X.add j) = some u := fun j u hu => by
    cases j with
    | zero =>
      simp at hu
      rw [← hu, show X.add 0 = X by obtain ⟨b, o, s⟩ := X; cases s <;> simp [Addr.add]]
      exact hx
    | succ j => simp at hu
  by_cases hroom : n + 1 ≤ cap
  · have hlt : off + n < cur.size := by omega
    have hcell : w.cell? ⟨g, off + n, none⟩ = some cur[off + n] := (hb.cell (off + n)).trans (by rw [Array.getElem?_eq_getElem hlt])
    have hrun := run_append_room_cells (P := Try.prog) w 39 39 3 i Try.underlying39 hi g off n cap X 1 cx [.int .i64 x] (by rw [hs]; rfl) hnews (by simp [Value.oneCell']) hroom
      (fun j hj => by
        have : j = 0 := by simpa using hj
        subst this
        rw [hs, Nat.mul_one, Nat.add_zero, hcell]; rfl)
      (fun j hj => hb.frozen _)
    rw [hs, Nat.mul_one] at hrun
    refine ⟨some ⟨g, off, none⟩, cap, w.setCell ⟨g, off + n, none⟩ (.int .i64 x), hrun, ⟨g, off, cur.setIfInBounds (off + n) (.int .i64 x), rfl, hBg, hb.put (off + n) _, by simpa using h1, by rw [List.length_append]; simpa [hn] using hroom, h3, fun j hj => ?_⟩, ?_, .inl rfl⟩
    · rw [Array.getElem?_setIfInBounds]
      by_cases hjn : j = n
      · subst hjn
        simp [hlt, hn]
      · rw [List.length_append, List.length_singleton] at hj
        rw [if_neg (by omega), h4 j (by omega), List.getElem_append_left (by omega)]
    · exact ⟨rfl, rfl, rfl, by simp [World.setCell], fun k hk hne => Below.heap_setCell w _ _ k (fun e => hne (by rw [e]; rfl))⟩
  · have holds : ∀ j u, (l.map fun y => Value.int .i64 y)[j]? = some u → w.cell? ((⟨g, off, none⟩ : Addr).add j) = some u := fun j u hu => by
      rw [List.getElem?_map] at hu
      by_cases hj : j < l.length
      · rw [List.getElem?_eq_getElem hj] at hu
        rw [addr_add, (hb.cell (off + j)), h4 j hj]
        simpa using hu
      · rw [List.getElem?_eq_none (by omega)] at hu
        cases hu
    obtain ⟨v', w', hrun, hown, hgr⟩ := run_append_arg_grows (P := Try.prog) w 39 39 3 i (.int .i64 0) 1 8 Try.underlying39 hi hz hs hby rfl (by omega) ⟨g, off, none⟩ n cap (l.map fun y => Value.int .i64 y) (by simp [hn]) holds X 1 cx [.int .i64 x] rfl hnews (by omega) (by unfold maxLen; omega) (by omega)
    rcases hown.2 with ⟨_, h0⟩ | ⟨g', cap', cur', rfl, hg', hh, hnc, hcm, hsz, htk⟩
    · omega
    · refine ⟨some ⟨g', 0, none⟩, cap', w', hrun, ⟨g', 0, cur', rfl, Nat.le_trans hB hg', hh, by omega, by rw [List.length_append]; simpa [hn] using hnc, hcm, fun j hj => ?_⟩, ⟨hgr.os, hgr.tape, hgr.output, hgr.size, fun k hk _ => hgr.block k hk (by simp)⟩, .inr fun g hg => by
        have : g' = g := by simpa [blkOf] using hg
        omega⟩
      · rw [List.length_append, List.length_singleton, hn] at hj
        have h5 := congrArg (fun l => l[j]?) htk
        simp only [List.getElem?_take] at h5
        rw [if_pos (by omega)] at h5
        rw [Nat.zero_add, ← Array.getElem?_toList, h5]
        by_cases hjn : j < n
        · rw [List.getElem?_append_left (by simp; omega), List.getElem?_map, List.getElem?_eq_getElem (by omega), List.getElem_append_left (by omega)]
          rfl
        · have hj2 : j = n := by omega
          subst hj2
          rw [List.getElem?_append_right (by simp [hn])]
          simp [hn]
end Go.Proofs.Ytodbhgbgeiailaa
