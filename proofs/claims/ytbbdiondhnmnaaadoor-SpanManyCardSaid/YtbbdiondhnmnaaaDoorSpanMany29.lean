/- All words of some numbers, put together. Conditions: none. -/
import Derived.Test.YtbbdiondhnmnaaaDoorSpanMany6
import Derived.Test.YtbbdiondhnmnaaaDoorSpanMany14
import Derived.Test.YtbbdiondhnmnaaaDoorSpanMany19
import Derived.Laws.EntriesVeiled
import Derived.Test.YtbbdiondhnmnaaaDoorSpanMany20
namespace Go.Proofs.YtbbdiondhnmnaaaDoor
open Go.RowKit

/-- The words of all those, put together. -/
def orAll (l : List (BitVec 32)) (x : BitVec 32) (js : List Nat) : BitVec 32 := js.foldl (fun a j => wOr a (lw l j)) x
theorem orAll_app (l : List (BitVec 32)) (x : BitVec 32) (js : List Nat) (j : Nat) : orAll l x (js ++ [j]) = wOr (orAll l x js) (lw l j) := by simp [orAll]
theorem orAll_bit (l : List (BitVec 32)) (b : Nat) : ∀ (js : List Nat) (x : BitVec 32), (orAll l x js).getLsbD b = (x.getLsbD b || js.any fun j => (lw l j).getLsbD b)
  | [], x => by simp [orAll]
  | j :: js, x => by
    show (orAll l (wOr x (lw l j)) js).getLsbD b = _
    rw [orAll_bit l b js, b_or, List.any_cons, Bool.or_assoc]
/-- The words of those of the first k that are in s, put together. -/
def orTo (l : List (BitVec 32)) (s : BitVec 32) : Nat → BitVec 32
  | 0 => w0
  | k + 1 => if bitB s k = true then wOr (orTo l s k) (lw l k) else orTo l s k
theorem orTo_bit (l : List (BitVec 32)) (s : BitVec 32) (b : Nat) : ∀ k, (orTo l s k).getLsbD b = true ↔ ∃ j, j < k ∧ s.getLsbD j = true ∧ (lw l j).getLsbD b = true
  | 0 => by simp [orTo, b_0]
  | k + 1 => by
    have ih := orTo_bit l s b k
    rw [orTo, bitB_nat]
    by_cases hk : s.getLsbD k = true
    · rw [if_pos hk, b_or, Bool.or_eq_true, ih]
      constructor
      · rintro (⟨j, hj, h⟩ | h)
        · exact ⟨j, by omega, h⟩
        · exact ⟨k, by omega, hk, h⟩
      · rintro ⟨j, hj, h⟩
        by_cases hjk : j = k
        · subst hjk; exact .inr h.2
        · exact .inl ⟨j, by omega, h⟩
    · rw [if_neg hk, ih]
      constructor
      · rintro ⟨j, hj, h⟩; exact ⟨j, by omega, h⟩
      · rintro ⟨j, hj, h⟩
        by_cases hjk : j = k
        · subst hjk; exact absurd h.1 hk
        · exact ⟨j, by omega, h⟩
theorem orAll_orTo (l : List (BitVec 32)) (s : BitVec 32) {n : Nat} (h : ∀ j ∈ bitsL s, j < n) : orAll l w0 (bitsL s) = orTo l s n := by
  refine w_ext fun b _ => ?_
  rw [Bool.eq_iff_iff, orTo_bit, orAll_bit, b_0, Bool.false_or, List.any_eq_true]
  constructor
  · rintro ⟨j, hj, hb⟩; exact ⟨j, h j hj, mem_bitsL.1 hj, hb⟩
  · rintro ⟨j, _, hj, hb⟩; exact ⟨j, mem_bitsL.2 hj, hb⟩
/-- The bits of a word below 2 ^ n. -/
theorem bits_below {s : BitVec 32} {n : Nat} (h : s.toNat < 2 ^ n) : ∀ j ∈ bitsL s, j < n := fun j hj => by
  rcases Nat.lt_or_ge j n with hlt | hge
  · exact hlt
  · have := mem_bitsL.1 hj
    rw [bit_lt h hge] at this
    cases this
end Go.Proofs.YtbbdiondhnmnaaaDoor

/- The program's words of neighbours; the reference's degree of a node. Conditions: the edges read as a list; for the words: the graph may be. -/
namespace Go.Proofs.YtbbdiondhnmnaaaDoor
open Go.RowKit
attribute [local go_sem ↓] w_and w_or w_xor w_andNot w_and1 w_and255 w_xor1 w_or0 w_shl w_shl1 w_shr w_sub w_add w_sub1 w_add1
attribute [local go_sem] w_eq0 w_ne0 w_eq1 w_eq w_ne

set_option maxRecDepth 100000 in
set_option maxHeartbeats 1000000 in
theorem graph_Near (N : Nat) (A : Option Addr) (n c : Nat) (l : List Ed) (w : World) (hl : l.length = n) (hg : GoodG N l) (hr : Els w w.heap.size 3 Ed.cells A l) :
    Calls Tryd.prog 8 #[.agg #[.int .i64 N, .slice A n c]] w fun e w' => ∃ A', e = .returned (.slice A' N N) ∧ Below w.heap.size w w' ∧ Own w' (w.heap.size + 1) 37 1 wcell A' N (nearL N l) := by
  have hN := hg.n10
  have hn : n ≤ 45 := by have := hg.m45; omega
  have HL := Lib.hid hl
  have HG := Lib.hid hg
  have HR := Lib.hid hr
  clear hl hg hr
  go_enter Tryd.func8, Tryd.ntmps8
  go_wp2_with (at_make; go_loud (refine wpList_make1 rfl _ _ _ rfl (w.heap.size + 1) 37 4 (fun x => .int .u32 (wN x)) w0 Tryd.underlying35 (by kernel_rfl) rfl _ .i64 .i64 N rfl rfl (by omega) (by unfold maxLen; omega) (by rw [size_alloc']; exact Nat.le_refl _) ?_; intro v1 hown1 hgrow1; have d0 : v1.cell? ⟨w.heap.size, 1, none⟩ = some (.slice A n c) := ((Blk.new w 24 #[.int .i64 N, .slice A n c]).grown hgrow1 (by simp)).cell 1))
  have hb0 : Blk v1 w.heap.size 24 #[.int .i64 N, .slice A n c] := (Blk.new w _ _).grown hgrow1 (by simp)
  have hb1 : Below w.heap.size w v1 := ((Below.refl w.heap.size w).alloc (Nat.le_refl _) _).grown hgrow1 (by rw [size_alloc']; omega) (fun g hg => by cases hg)
  rw [size_alloc'] at hown1
  have HB0 := Lib.hid hb0
  have HB1 := Lib.hid hb1
  have HO1 := Lib.hid hown1
  clear hb0 hb1 hown1 hgrow1
  go_loopw [12] (fun i wr => ∃ k : Nat, k ≤ n ∧ i = .int .i64 k ∧ Below w.heap.size w wr ∧ Blk wr w.heap.size 24 #[.int .i64 N, .slice A n c] ∧ Own wr (w.heap.size + 1) 37 1 wcell (some ⟨w.heap.size + 1, 0, none⟩) N (nearL N (l.take k))) (fun i _ => n - (intOf i).toNat)
  case atStart => exact ⟨0, by omega, rfl, HB1.out, HB0.out, HO1.out⟩
  case round =>
    clear HB0 HB1 HO1 d0
    rename World => wr
    obtain ⟨k, hk, rfl, hb, hblk, hown⟩ := hrel
    have hsz := hb.size
    have hlt2 := (hown.lt (w.heap.size + 1) rfl).2
    have HB := Lib.hid hb
    have HK := Lib.hid hblk
    have HO := Lib.hid hown
    clear hb hblk hown
    by_cases hlt : k < n
    · have hkl : k < l.length := by rw [HL.out]; exact hlt
      obtain ⟨b0, off, rfl, hbb, g0, g1, g2⟩ := (HR.out.below HB.out).at3 hkl
      obtain ⟨e, he⟩ : ∃ e, e = l[k] := ⟨_, rfl⟩
      have hge : GoodE N e := by rw [he]; exact HG.out.ed _ (List.getElem_mem hkl)
      have htk : l.take (k + 1) = l.take k ++ [e] := by rw [List.take_succ_eq_append_getElem hkl, he]
      have hsn := nearL_snoc N (l.take k) e
      rw [← htk] at hsn
      rw [← he] at g0 g1 g2
      obtain ⟨a, ha⟩ := Int.eq_ofNat_of_zero_le hge.a0
      obtain ⟨b, hb⟩ := Int.eq_ofNat_of_zero_le hge.b0
      have haN := hge.a1
      have hbN := hge.b1
      have hne := hge.ne
      have hab : a ≠ b := by omega
      have hba : b ≠ a := by omega
      have htl := nearL_length N (l.take k)
      obtain ⟨t, ht⟩ : ∃ t, t = nearL N (l.take k) := ⟨_, rfl⟩
      have HO2 : Hid (Own wr (w.heap.size + 1) 37 1 wcell (some ⟨w.heap.size + 1, 0, none⟩) N t) := by
        show Own wr (w.heap.size + 1) 37 1 wcell (some ⟨w.heap.size + 1, 0, none⟩) N t
        rw [ht]; exact HO.out
      rw [← ht] at hsn htl
      have hstep : nearStep t e = (t.set a (wOr (lw t a) (wShl w1 b))).set b (wOr (lw t b) (wShl w1 a)) := by
        unfold nearStep
        rw [ha, hb]
        rfl
      have HSN := Lib.hid (hsn.trans hstep)
      rw [ha] at g0 haN
      rw [hb] at g1 hbN
      have haN' : a < N := by omega
      have hbN' : b < N := by omega
      generalize e.w = ew at g2
      have hE0 := Blk.new wr 34 #[.int .i64 a, .int .i64 b, .int .i64 ew]
      have hO3 := HO2.out
      obtain ⟨q1, hq1, _, _, ca, fa⟩ := hO3.cell1 (f := fun x => .int .u32 (wN x)) (k := a) (by omega)
      obtain rfl : w.heap.size + 1 = q1 := by simpa using hq1
      rw [← lw_at t a (by omega)] at ca
      have hO4 := hO3.put1 (f := fun x => .int .u32 (wN x)) (k := a) (x := wOr (lw t a) (wShl w1 b)) (by omega)
      obtain ⟨q2, hq2, _, _, cb, fb⟩ := hO4.cell1 (f := fun x => .int .u32 (wN x)) (k := b) (by rw [List.length_set]; omega)
      obtain rfl : w.heap.size + 1 = q2 := by simpa using hq2
      rw [← lw_at _ b (by rw [List.length_set]; omega), lw_set t _ (by omega), if_neg hab] at cb
      have hO5 := hO4.put1 (f := fun x => .int .u32 (wN x)) (k := b) (x := wOr (lw t b) (wShl w1 a)) (by rw [List.length_set]; omega)
      have e0 := hE0.cell 0
      have e1 := hE0.cell 1
      have hE1 := hE0.far (p := ⟨w.heap.size + 1, a, none⟩) (show wr.heap.size ≠ w.heap.size + 1 by omega) (.int .u32 (wN (wOr (lw t a) (wShl w1 b))))
      have e0' := hE1.cell 0
      have e1' := hE1.cell 1
      have HO5 := Lib.hid hO5
      have HBA := Lib.hid hba
      have HAB := Lib.hid hab
      clear hsn hstep he hge htk ha hb hne htl ht hO3 hO4 hO5 hE0 hE1 hq1 hq2 hkl hba hab HO HO2
      go_wp2_with fail
      go_region
      go_wp2_with fail
      go_region
      go_wp2_with fail
      go_roundw
      case rel =>
        refine ⟨k + 1, by omega, by go_num, ?_, ?_, ?_⟩
        · exact (((HB.out.setCell (show w.heap.size ≤ w.heap.size + 1 by omega) _).setCell (show w.heap.size ≤ w.heap.size + 1 by omega) _).alloc (by simp; omega) _).drew.drew
        · exact (((HK.out.far (show w.heap.size ≠ w.heap.size + 1 by omega) _).far (show w.heap.size ≠ w.heap.size + 1 by omega) _).alloc _).drew.drew
        · rw [HSN.out]; exact (HO5.out.alloc _).drew.drew
      case measure => simp [intOf]; omega
    · obtain rfl : k = n := by omega
      have hall : l.take k = l := List.take_of_length_le (by rw [HL.out]; omega)
      have HA := Lib.hid hall
      clear hall
      go_wp2_with fail
      go_ret
      exact ⟨_, rfl, HB.out, by rw [← HA.out]; exact HO.out⟩

end Go.Proofs.YtbbdiondhnmnaaaDoor

/- With whom each node is linked, in plain Lean: the part that wants no walk. Conditions: none. -/
namespace Go.Proofs.YtbbdiondhnmnaaaDoor
open Go.RowKit

/-- A step from a node to one that it is linked with, within some. -/
def RS (l : List (BitVec 32)) (wi : BitVec 32) (c j : Nat) : Prop := (lw l c).getLsbD j = true ∧ wi.getLsbD j = true
/-- The least node that one is linked with. -/
def IsPart (l : List Ed) (i p : Nat) : Prop := Rch (Adj l) i p ∧ ∀ j, j < p → ¬ Rch (Adj l) i j
theorem IsPart.same {l : List Ed} {i p p' : Nat} (h : IsPart l i p) (h' : IsPart l i p') : p = p' := by
  rcases Nat.lt_trichotomy p p' with e | e | e
  · exact (h'.2 p e h.1).elim
  · exact e
  · exact (h.2 p' e h'.1).elim
def PartsL (l : List Ed) (L : List Int) : Prop := ∀ i, i < L.length → ∃ p : Nat, L.getD i 0 = p ∧ IsPart l i p
theorem PartsL.nil (l : List Ed) : PartsL l [] := fun i h => absurd h (by simp)
theorem PartsL.snoc {l : List Ed} {L : List Int} {p : Nat} (h : PartsL l L) (hp : IsPart l L.length p) : PartsL l (L ++ [(p : Int)]) := fun i hi => by
  rw [List.length_append, List.length_singleton] at hi
  by_cases hlt : i < L.length
  · obtain ⟨q, h1, h2⟩ := h i hlt
    exact ⟨q, by rw [← h1]; simp [List.getD_eq_getElem?_getD, List.getElem?_append_left hlt], h2⟩
  · obtain rfl : i = L.length := by omega
    exact ⟨p, by simp [List.getD_eq_getElem?_getD], hp⟩
theorem PartsL.same {l : List Ed} {L L' : List Int} (h : PartsL l L) (h' : PartsL l L') (hl : L.length = L'.length) : L = L' := by
  apply List.ext_getElem hl
  intro i h1 h2
  obtain ⟨p, e, hp⟩ := h i h1
  obtain ⟨p', e', hp'⟩ := h' i h2
  rw [getD_at L i h1] at e
  rw [getD_at L' i h2] at e'
  rw [e, e', hp.same hp']
theorem rs_adj {N : Nat} {l : List Ed} (hg : GoodG N l) (c j : Nat) : RS (nearL N l) (maskW N) c j ↔ Adj l c j := by
  have hN := hg.n10
  unfold RS
  rw [b_mask (by omega)]
  constructor
  · rintro ⟨h1, h2⟩
    rcases Nat.lt_or_ge c N with hc | hc
    · rw [near_bit hg hc] at h1
      exact h1
    · have : lw (nearL N l) c = w0 := by
        unfold lw
        rw [List.getD_eq_getElem?_getD, List.getElem?_eq_none (by rw [nearL_length]; exact hc)]
        rfl
      rw [this, b_0] at h1
      cases h1
  · intro h
    obtain ⟨hc, hj⟩ := adj_low hg c j h
    rw [near_bit hg hc]
    exact ⟨h, by simpa using hj⟩
theorem rch_iff {R R' : Nat → Nat → Prop} (h : ∀ c j, R c j ↔ R' c j) (i j : Nat) : Rch R i j ↔ Rch R' i j := by
  have : R = R' := by funext c j; exact propext (h c j)
  rw [this]
theorem near_adj {N : Nat} {l : List Ed} (hg : GoodG N l) (c j : Nat) : (lw (nearL N l) c).getLsbD j = true ↔ Adj l c j := by
  rw [← rs_adj hg]
  refine ⟨fun h => ?_, fun h => h.1⟩
  have hN := hg.n10
  rcases Nat.lt_or_ge c N with hc | hc
  · refine ⟨h, ?_⟩
    have ha : Adj l c j := by rw [near_bit hg hc] at h; exact h
    rw [b_mask (by omega)]
    simpa using (adj_low hg c j ha).2
  · have : lw (nearL N l) c = w0 := by
      unfold lw
      rw [List.getD_eq_getElem?_getD, List.getElem?_eq_none (by rw [nearL_length]; exact hc)]
      rfl
    rw [this, b_0] at h
    cases h
end Go.Proofs.YtbbdiondhnmnaaaDoor
