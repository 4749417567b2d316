/- A way in memory turned round in place. Conditions: it lies in a row of its own. -/
import Derived.Test.YtjkfogkpacmdlaaLanesApart31
import Derived.Test.YtjkfogkpacmdlaaLanesApart6
import Derived.Test.YtjkfogkpacmdlaaLanesApart9
import Derived.Test.YtjkfogkpacmdlaaLanesApart26
import Derived.ArgAppend
namespace Go.Proofs.Ytjkfogkpacmdlaa
open Go.RowKit

def rvS (k d : Nat) (F : Nat → Stp) (i : Nat) : Stp := if i < d ∨ k ≤ i + d then F (k - 1 - i) else F i
set_option maxRecDepth 100000 in
set_option maxHeartbeats 2000000 in
theorem steps_Reverse (h sz k ck : Nat) (F : Nat → Stp) (w : World) (hs : StpB w h sz k F) (hk : k ≤ 100000) :
    Calls Try.prog 60 #[.slice (some ⟨h, 0, none⟩) k ck] w fun e w' => (∃ v, e = .returned v) ∧ Held [h] w w' ∧ StpB w' h sz k (fun i => F (k - 1 - i)) := by
  have HS := Lib.hid hs
  clear hs
  have hwk : IntKind.i64.wrap ((k : Int) - 1) = (k : Int) - 1 := IntWalk.i64_in _ (by omega)
  go_enter Try.func60, Try.ntmps60
  go_wp2_with fail
  go_loopw [2, 3] (fun s2 s3 wr => ∃ d : Nat, d ≤ k ∧ s2 = .int .i64 d ∧ s3 = .int .i64 ((k : Int) - 1 - d) ∧ Held [h] w wr ∧ StpB wr h sz k (rvS k d F)) (fun s2 _ _ => k - (intOf s2).toNat)
  case atStart => exact ⟨0, Nat.zero_le _, rfl, by simp, Held.refl _ _, HS.out.of_eq fun i hi => by unfold rvS; rw [if_neg (by omega)]⟩
  case round =>
    clear HS
    rename World => wr
    obtain ⟨d, hd, rfl, rfl, hh, hs⟩ := hrel
    by_cases hlt : d < k - 1 - d
    · obtain ⟨e, he⟩ : ∃ e, e = k - 1 - d := ⟨_, rfl⟩
      have hek : (k : Int) - 1 - d = (e : Int) := by omega
      rw [hek]
      have hde : (d : Int) < e := by omega
      obtain ⟨d0, d1⟩ := hs.at_ (i := d) (by omega)
      obtain ⟨e0, e1⟩ := hs.at_ (i := e) (by omega)
      obtain ⟨xd, hxd⟩ : ∃ x, x = rvS k d F d := ⟨_, rfl⟩
      obtain ⟨xe, hxe⟩ : ∃ x, x = rvS k d F e := ⟨_, rfl⟩
      rw [← hxd] at d0 d1
      rw [← hxe] at e0 e1
      have hput := (StpB.put hs (i := d) (by omega) xe).put (i := e) (by omega) xd
      have fd := hs.fr (d * 2)
      have fd1 := hs.fr (d * 2 + 1)
      have fe := hs.fr (e * 2)
      have fe1 := hs.fr (e * 2 + 1)
      have hdn : d * 2 ≠ e * 2 := by omega
      have hh2 : Held [h] w ((((wr.setCell ⟨h, d * 2, none⟩ (.int .i64 xe.1)).setCell ⟨h, d * 2 + 1, none⟩ (.bool xe.2)).setCell ⟨h, e * 2, none⟩ (.int .i64 xd.1)).setCell ⟨h, e * 2 + 1, none⟩ (.bool xd.2)) :=
        (((hh.setCell (p := ⟨h, d * 2, none⟩) (by simp) _).setCell (p := ⟨h, d * 2 + 1, none⟩) (by simp) _).setCell (p := ⟨h, e * 2, none⟩) (by simp) _).setCell (p := ⟨h, e * 2 + 1, none⟩) (by simp) _
      have HXD : Hid (xd = F d) := Lib.hid (by rw [hxd]; unfold rvS; rw [if_neg (by omega)])
      have HXE : Hid (xe = F e) := Lib.hid (by rw [hxe]; unfold rvS; rw [if_neg (by omega)])
      have HP := Lib.hid hput
      have HE := Lib.hid he
      have HH2 := Lib.hid hh2
      have hwd : IntKind.i64.wrap ((d : Int) + 1) = (d : Int) + 1 := IntWalk.i64_in _ (by omega)
      have hwe : IntKind.i64.wrap ((e : Int) - 1) = (e : Int) - 1 := IntWalk.i64_in _ (by omega)
      have hek2 : e < k := by omega
      have hdk2 : d < k := by omega
      obtain ⟨xd1, xd2⟩ := xd
      obtain ⟨xe1, xe2⟩ := xe
      simp only at d0 d1 e0 e1
      clear hput hs hxd hxe he hek hh hh2
      go_wp2_with fail
      refine region_plain 99 16 (fun _ => True) (by kernel_rfl) rfl ?_
      refine anyC_reads (by kernel_rfl) [0, 1, 2, 3, 4, 5, 6, 8, 9, 10] ?opl ?ohl 6 _ _ _ (by kernel_rfl) ?okk
      case ohl => (simp only [List.filterMap_cons, List.filterMap_nil, List.getElem?_toArray, List.getElem?_cons_zero, List.getElem?_cons_succ]; try rfl)
      repeat (
        refine readC_step (v := ?_) rfl (fun w' hw' => ?_) ?_
        rotate_left
        focus (go_simp; try with_reducible rfl)
        go_simp)
      refine readC_nil ?_
      refine anyD_two (i := 7) (j := 11) (by kernel_rfl) rfl rfl rfl rfl (.inr trivial) ?_ ?_
      · go_simp
        refine anyC_one (i := 11) (by kernel_rfl) rfl rfl (.inr trivial) ?_
        go_simp
        refine anyC_one (i := 12) (by kernel_rfl) rfl rfl (.inr trivial) ?_
        go_simp
        refine anyC_one (i := 13) (by kernel_rfl) rfl rfl (.inr trivial) ?_
        go_simp
        refine anyC_one (i := 14) (by kernel_rfl) rfl rfl (.inr trivial) ?_
        go_simp
        refine anyC_one (i := 15) (by kernel_rfl) rfl rfl (.inr trivial) ?_
        go_simp
        refine anyC_end (by kernel_rfl) (.inr trivial) ?_
        have hwd : IntKind.i64.wrap ((d : Int) + 1) = (d : Int) + 1 := IntWalk.i64_in _ (by omega)
        have hwe : IntKind.i64.wrap ((e : Int) - 1) = (e : Int) - 1 := IntWalk.i64_in _ (by omega)
        go_wp2_with fail
        go_roundw
        case rel => exact ⟨d + 1, by omega, by simp, by (have := HE.out; simp; omega), HH2.out.drew1, HP.out.of_eq fun i hi => (by
          have hed := HE.out
          unfold rvS
          by_cases h1 : i = e
          · subst h1; rw [if_pos rfl, if_pos (by omega), HXD.out]; congr 1; omega
          · rw [if_neg h1]
            by_cases h2 : i = d
            · subst h2; rw [if_pos rfl, if_pos (by omega), HXE.out, hed]
            · rw [if_neg h2]
              by_cases h3 : i < d ∨ k ≤ i + d
              · rw [if_pos h3, if_pos (by omega)]
              · rw [if_neg h3, if_neg (by omega)])⟩
        case measure => first | (simp [intOf]; done) | (simp [intOf]; omega)
      · go_simp
        refine anyC_one (i := 7) (by kernel_rfl) rfl rfl (.inr trivial) ?_
        go_simp
        refine anyC_one (i := 12) (by kernel_rfl) rfl rfl (.inr trivial) ?_
        go_simp
        refine anyC_one (i := 13) (by kernel_rfl) rfl rfl (.inr trivial) ?_
        go_simp
        refine anyC_one (i := 14) (by kernel_rfl) rfl rfl (.inr trivial) ?_
        go_simp
        refine anyC_one (i := 15) (by kernel_rfl) rfl rfl (.inr trivial) ?_
        go_simp
        refine anyC_end (by kernel_rfl) (.inr trivial) ?_
        have hwd : IntKind.i64.wrap ((d : Int) + 1) = (d : Int) + 1 := IntWalk.i64_in _ (by omega)
        have hwe : IntKind.i64.wrap ((e : Int) - 1) = (e : Int) - 1 := IntWalk.i64_in _ (by omega)
        go_wp2_with fail
        go_roundw
        case rel => exact ⟨d + 1, by omega, by simp, by (have := HE.out; simp; omega), HH2.out.drew1, HP.out.of_eq fun i hi => (by
          have hed := HE.out
          unfold rvS
          by_cases h1 : i = e
          · subst h1; rw [if_pos rfl, if_pos (by omega), HXD.out]; congr 1; omega
          · rw [if_neg h1]
            by_cases h2 : i = d
            · subst h2; rw [if_pos rfl, if_pos (by omega), HXE.out, hed]
            · rw [if_neg h2]
              by_cases h3 : i < d ∨ k ≤ i + d
              · rw [if_pos h3, if_pos (by omega)]
              · rw [if_neg h3, if_neg (by omega)])⟩
        case measure => first | (simp [intOf]; done) | (simp [intOf]; omega)
    · have hneg : ¬ (d : Int) < (k : Int) - 1 - d := by omega
      go_wp2_with fail
      go_end0
      exact ⟨⟨_, rfl⟩, hh, hs.of_eq fun i hi => by
        unfold rvS
        split
        · rfl
        · rw [show k - 1 - i = i by omega]⟩
end Go.Proofs.Ytjkfogkpacmdlaa

/- A queue of numbers: appended to at the end, cut at the front. Conditions: none. -/
namespace Go.Proofs.Ytjkfogkpacmdlaa
open Go.RowKit

/-- The slice V reads as l and lies in a row of its own, at some place of it; behind it there is room. -/
def Fifo (w : World) (B : Nat) (A : Option Addr) (cap : Nat) (l : List Int) : Prop :=
  ∃ (g off : Nat) (cur : Array Value), A = some ⟨g, off, none⟩ ∧ B ≤ g ∧ Blk w g 3 cur ∧ off + cap ≤ cur.size ∧ l.length ≤ cap ∧ cap ≤ maxLen ∧ ∀ j, (h : j < l.length) → cur[off + j]? = some (.int .i64 l[j])
theorem Fifo.kept {w w' : World} {B cap : Nat} {A : Option Addr} {l : List Int} (h : Fifo w B A cap l) (hk : ∀ g, blkOf A = some g → w'.heap[g]? = w.heap[g]?) : Fifo w' B A cap l := by
  obtain ⟨g, off, cur, rfl, hB, hb, h1⟩ := h
  exact ⟨g, off, cur, rfl, hB, (hk g rfl).trans hb, h1⟩
theorem Fifo.lt {w : World} {B cap : Nat} {A : Option Addr} {l : List Int} (h : Fifo w B A cap l) : ∀ g, blkOf A = some g → B ≤ g ∧ g < w.heap.size := by
  obtain ⟨g, off, cur, rfl, hB, hb, h1⟩ := h
  intro g' hg
  have : g = g' := by simpa [blkOf] using hg
  subst this
  exact ⟨hB, hb.lt⟩
theorem Fifo.cell {w : World} {B cap : Nat} {A : Option Addr} {l : List Int} (h : Fifo w B A cap l) {j : Nat} (hj : j < l.length) : ∃ g off, A = some ⟨g, off, none⟩ ∧ w.cell? ⟨g, off + j, none⟩ = some (.int .i64 l[j]) := by
  obtain ⟨g, off, cur, rfl, hB, hb, h1, h2, h3, h4⟩ := h
  exact ⟨g, off, rfl, (hb.cell (off + j)).trans (h4 j hj)⟩
theorem Fifo.start {w : World} {B : Nat} (s : Int) (hB : B ≤ w.heap.size) : Fifo (w.alloc (.cells #[.int .i64 s] 3)) B (some ⟨w.heap.size, 0, none⟩) 1 [s] :=
  ⟨w.heap.size, 0, _, rfl, hB, Blk.new w _ _, by simp, by simp, by unfold maxLen; omega, fun j hj => by
    have : j = 0 := by simpa using hj
    subst this
    rfl⟩
/-- The front is cut off. -/
theorem Fifo.pop {w : World} {B cap : Nat} {g off : Nat} {x : Int} {l : List Int} (h : Fifo w B (some ⟨g, off, none⟩) cap (x :: l)) : Fifo w B (if cap = 1 then some ⟨g, off, none⟩ else some ⟨g, off + 1, none⟩) (cap - 1) l := by
  obtain ⟨g', off', cur, hA, hB, hb, h1, h2, h3, h4⟩ := h
  simp only [Option.some.injEq, Addr.mk.injEq] at hA
  obtain ⟨rfl, rfl, _⟩ := hA
  rw [List.length_cons] at h2
  by_cases hc : cap = 1
  · rw [if_pos hc]
    refine ⟨g, off, cur, rfl, hB, hb, by omega, by omega, by omega, fun j hj => by omega⟩
  · rw [if_neg hc]
    refine ⟨g, off + 1, cur, rfl, hB, hb, by omega, by omega, by omega, fun j hj => ?_⟩
    have := h4 (j + 1) (by rw [List.length_cons]; omega)
    rw [show off + 1 + j = off + (j + 1) by omega]
    simpa using this
set_option maxRecDepth 100000 in
theorem Fifo.push {w : World} {B cap n : Nat} {A : Option Addr} {l : List Int} (h : Fifo w B A cap l) (hn : l.length = n) (hB : B ≤ w.heap.size) (x : Int) (X : Addr) (cx : Nat) (hx : w.cell? X = some (.int .i64 x)) (hsm : n + 1 ≤ 100000) :
    ∃ (A' : Option Addr) (cap' : Nat) (w' : World), (Builtin.append_ #[30, 30] 30 #[.slice A n cap, .slice (some X) 1 cx]).run Try.prog w = .ok (.slice A' (n + 1) cap') w' ∧ Fifo w' B A' cap' (l ++ [x]) ∧ w.grownBy w' (blkOf A) ∧ (blkOf A' = blkOf A ∨ ∀ g, blkOf A' = some g → w.heap.size ≤ g) := by
  obtain ⟨g, off, cur, rfl, hBg, hb, h1, h2, h3, h4⟩ := h
  have hI : (Try.prog.info? 3).map (fun i => (i.zero, i.size, i.bytes)) = some (some (.int .i64 0), 1, 8) := rfl
  obtain ⟨i, hi, hz, hs, hby⟩ := info_parts hI
  have hnews : ∀ j u, ([Value.int .i64 x] : List Value)[j]? = some u → w.cell? (X.add j) = some u := fun j u hu => by
    cases j with
    | zero =>
      simp at hu
      rw [← hu, show X.add 0 = X by obtain ⟨b, o, s⟩ := X; cases s <;> simp [Addr.add]]
      exact hx
    | succ j => simp at hu
  by_cases hroom : n + 1 ≤ cap
  · have hlt : off + n < cur.size := by omega
    have hcell : w.cell? ⟨g, off + n, none⟩ = some cur[off + n] := (hb.cell (off + n)).trans (by rw [Array.getElem?_eq_getElem hlt])
    have hrun := run_append_room_cells (P := Try.prog) w 30 30 3 i Try.underlying30 hi g off n cap X 1 cx [.int .i64 x] (by rw [hs]; rfl) hnews (by simp [Value.oneCell']) hroom
      (fun j hj => by
        have : j = 0 := by simpa using hj
        subst this
        rw [hs, Nat.mul_one, Nat.add_zero, hcell]; rfl)
      (fun j hj => hb.frozen _)
    rw [hs, Nat.mul_one] at hrun
    refine ⟨some ⟨g, off, none⟩, cap, w.setCell ⟨g, off + n, none⟩ (.int .i64 x), hrun, ⟨g, off, cur.setIfInBounds (off + n) (.int .i64 x), rfl, hBg, hb.put (off + n) _, by simpa using h1, by rw [List.length_append]; simpa [hn] using hroom, h3, fun j hj => ?_⟩, ?_, .inl rfl⟩
    · rw [Array.getElem?_setIfInBounds]
      by_cases hjn : j = n
      · subst hjn
        simp [hlt, hn]
      · rw [List.length_append, List.length_singleton] at hj
        rw [if_neg (by omega), h4 j (by omega), List.getElem_append_left (by omega)]
    · exact ⟨rfl, rfl, rfl, by simp [World.setCell], fun k hk hne => Below.heap_setCell w _ _ k (fun e => hne (by rw [e]; rfl))⟩
  · have holds : ∀ j u, (l.map fun y => Value.int .i64 y)[j]? = some u → w.cell? ((⟨g, off, none⟩ : Addr).add j) = some u := fun j u hu => by
      rw [List.getElem?_map] at hu
      by_cases hj : j < l.length
      · rw [List.getElem?_eq_getElem hj] at hu
        rw [addr_add, (hb.cell (off + j)), h4 j hj]
        simpa using hu
      · rw [List.getElem?_eq_none (by omega)] at hu
        cases hu
    obtain ⟨v', w', hrun, hown, hgr⟩ := run_append_arg_grows (P := Try.prog) w 30 30 3 i (.int .i64 0) 1 8 Try.underlying30 hi hz hs hby rfl (by omega) ⟨g, off, none⟩ n cap (l.map fun y => Value.int .i64 y) (by simp [hn]) holds X 1 cx [.int .i64 x] rfl hnews (by omega) (by unfold maxLen; omega) (by omega)
    rcases hown.2 with ⟨_, h0⟩ | ⟨g', cap', cur', rfl, hg', hh, hnc, hcm, hsz, htk⟩
    · omega
    · refine ⟨some ⟨g', 0, none⟩, cap', w', hrun, ⟨g', 0, cur', rfl, Nat.le_trans hB hg', hh, by omega, by rw [List.length_append]; simpa [hn] using hnc, hcm, fun j hj => ?_⟩, ⟨hgr.os, hgr.tape, hgr.output, hgr.size, fun k hk _ => hgr.block k hk (by simp)⟩, .inr fun g hg => by
        have : g' = g := by simpa [blkOf] using hg
        omega⟩
      · rw [List.length_append, List.length_singleton, hn] at hj
        have h5 := congrArg (fun l => l[j]?) htk
        simp only [List.getElem?_take] at h5
        rw [if_pos (by omega)] at h5
        rw [Nat.zero_add, ← Array.getElem?_toList, h5]
        by_cases hjn : j < n
        · rw [List.getElem?_append_left (by simp; omega), List.getElem?_map, List.getElem?_eq_getElem (by omega), List.getElem_append_left (by omega)]
          rfl
        · have hj2 : j = n := by omega
          subst hj2
          rw [List.getElem?_append_right (by simp [hn])]
          simp [hn]
end Go.Proofs.Ytjkfogkpacmdlaa
