/- The program's words of neighbours; the reference's degree of a node. Conditions: the edges read as a list; for the words: the graph may be. -/
import Derived.Test.YtjkfogkpacmdlaaLanesApart18
import Derived.Laws.EntriesVeiled
import Derived.Test.YtjkfogkpacmdlaaLanesApart19
import Derived.Test.YtjkfogkpacmdlaaLanesApart7
namespace Go.Proofs.Ytjkfogkpacmdlaa
open Go.RowKit
attribute [local go_sem ↓] w_and w_or w_xor w_andNot w_and1 w_and255 w_xor1 w_or0 w_shl w_shl1 w_shr w_sub w_add w_sub1 w_add1
attribute [local go_sem] w_eq0 w_ne0 w_eq1 w_eq w_ne

set_option maxRecDepth 100000 in
set_option maxHeartbeats 1000000 in
theorem graph_Near (N : Nat) (A : Option Addr) (n c : Nat) (l : List Ed) (w : World) (hl : l.length = n) (hg : GoodG N l) (hr : Els w w.heap.size 3 Ed.cells A l) :
    Calls Try.prog 45 #[.agg #[.int .i64 N, .slice A n c]] w fun e w' => ∃ A', e = .returned (.slice A' N N) ∧ Below w.heap.size w w' ∧ Own w' (w.heap.size + 1) 34 1 wcell A' N (nearL N l) := by
  have hN := hg.n10
  have hn : n ≤ 45 := by have := hg.m45; omega
  have HL := Lib.hid hl
  have HG := Lib.hid hg
  have HR := Lib.hid hr
  clear hl hg hr
  go_enter Try.func45, Try.ntmps45
  go_wp2_with (at_make; go_loud (refine wpList_make1 rfl _ _ _ rfl (w.heap.size + 1) 34 4 (fun x => .int .u32 (wN x)) w0 Try.underlying92 (by kernel_rfl) rfl _ .i64 .i64 N rfl rfl (by omega) (by unfold maxLen; omega) (by rw [size_alloc']; exact Nat.le_refl _) ?_; intro v1 hown1 hgrow1; have d0 : v1.cell? ⟨w.heap.size, 1, none⟩ = some (.slice A n c) := ((Blk.new w 24 #[.int .i64 N, .slice A n c]).grown hgrow1 (by simp)).cell 1))
  have hb0 : Blk v1 w.heap.size 24 #[.int .i64 N, .slice A n c] := (Blk.new w _ _).grown hgrow1 (by simp)
  have hb1 : Below w.heap.size w v1 := ((Below.refl w.heap.size w).alloc (Nat.le_refl _) _).grown hgrow1 (by rw [size_alloc']; omega) (fun g hg => by cases hg)
  rw [size_alloc'] at hown1
  have HB0 := Lib.hid hb0
  have HB1 := Lib.hid hb1
  have HO1 := Lib.hid hown1
  clear hb0 hb1 hown1 hgrow1
  go_loopw [12] (fun i wr => ∃ k : Nat, k ≤ n ∧ i = .int .i64 k ∧ Below w.heap.size w wr ∧ Blk wr w.heap.size 24 #[.int .i64 N, .slice A n c] ∧ Own wr (w.heap.size + 1) 34 1 wcell (some ⟨w.heap.size + 1, 0, none⟩) N (nearL N (l.take k))) (fun i _ => n - (intOf i).toNat)
  case atStart => exact ⟨0, by omega, rfl, HB1.out, HB0.out, HO1.out⟩
  case round =>
    clear HB0 HB1 HO1 d0
    rename World => wr
    obtain ⟨k, hk, rfl, hb, hblk, hown⟩ := hrel
    have hsz := hb.size
    have hlt2 := (hown.lt (w.heap.size + 1) rfl).2
    have HB := Lib.hid hb
    have HK := Lib.hid hblk
    have HO := Lib.hid hown
    clear hb hblk hown
    by_cases hlt : k < n
    · have hkl : k < l.length := by rw [HL.out]; exact hlt
      obtain ⟨b0, off, rfl, hbb, g0, g1, g2⟩ := (HR.out.below HB.out).at3 hkl
      obtain ⟨e, he⟩ : ∃ e, e = l[k] := ⟨_, rfl⟩
      have hge : GoodE N e := by rw [he]; exact HG.out.ed _ (List.getElem_mem hkl)
      have htk : l.take (k + 1) = l.take k ++ [e] := by rw [List.take_succ_eq_append_getElem hkl, he]
      have hsn := nearL_snoc N (l.take k) e
      rw [← htk] at hsn
      rw [← he] at g0 g1 g2
      obtain ⟨a, ha⟩ := Int.eq_ofNat_of_zero_le hge.a0
      obtain ⟨b, hb⟩ := Int.eq_ofNat_of_zero_le hge.b0
      have haN := hge.a1
      have hbN := hge.b1
      have hne := hge.ne
      have hab : a ≠ b := by omega
      have hba : b ≠ a := by omega
      have htl := nearL_length N (l.take k)
      obtain ⟨t, ht⟩ : ∃ t, t = nearL N (l.take k) := ⟨_, rfl⟩
      have HO2 : Hid (Own wr (w.heap.size + 1) 34 1 wcell (some ⟨w.heap.size + 1, 0, none⟩) N t) := by
        show Own wr (w.heap.size + 1) 34 1 wcell (some ⟨w.heap.size + 1, 0, none⟩) N t
        rw [ht]; exact HO.out
      rw [← ht] at hsn htl
      have hstep : nearStep t e = (t.set a (wOr (lw t a) (wShl w1 b))).set b (wOr (lw t b) (wShl w1 a)) := by
        unfold nearStep
        rw [ha, hb]
        rfl
      have HSN := Lib.hid (hsn.trans hstep)
      rw [ha] at g0 haN
      rw [hb] at g1 hbN
      have haN' : a < N := by omega
      have hbN' : b < N := by omega
      generalize e.w = ew at g2
      have hE0 := Blk.new wr 61 #[.int .i64 a, .int .i64 b, .int .i64 ew]
      have hO3 := HO2.out
      obtain ⟨q1, hq1, _, _, ca, fa⟩ := hO3.cell1 (f := fun x => .int .u32 (wN x)) (k := a) (by omega)
      obtain rfl : w.heap.size + 1 = q1 := by simpa using hq1
      rw [← lw_at t a (by omega)] at ca
      have hO4 := hO3.put1 (f := fun x => .int .u32 (wN x)) (k := a) (x := wOr (lw t a) (wShl w1 b)) (by omega)
      obtain ⟨q2, hq2, _, _, cb, fb⟩ := hO4.cell1 (f := fun x => .int .u32 (wN x)) (k := b) (by rw [List.length_set]; omega)
      obtain rfl : w.heap.size + 1 = q2 := by simpa using hq2
      rw [← lw_at _ b (by rw [List.length_set]; omega), lw_set t _ (by omega), if_neg hab] at cb
      have hO5 := hO4.put1 (f := fun x => .int .u32 (wN x)) (k := b) (x := wOr (lw t b) (wShl w1 a)) (by rw [List.length_set]; omega)
      have e0 := hE0.cell 0
      have e1 := hE0.cell 1
      have hE1 := hE0.far (p := ⟨w.heap.size + 1, a, none⟩) (show wr.heap.size ≠ w.heap.size + 1 by omega) (.int .u32 (wN (wOr (lw t a) (wShl w1 b))))
      have e0' := hE1.cell 0
      have e1' := hE1.cell 1
      have HO5 := Lib.hid hO5
      have HBA := Lib.hid hba
      have HAB := Lib.hid hab
      clear hsn hstep he hge htk ha hb hne htl ht hO3 hO4 hO5 hE0 hE1 hq1 hq2 hkl hba hab HO HO2
      go_wp2_with fail
      go_region
      go_wp2_with fail
      go_region
      go_wp2_with fail
      go_roundw
      case rel =>
        refine ⟨k + 1, by omega, by go_num, ?_, ?_, ?_⟩
        · exact (((HB.out.setCell (show w.heap.size ≤ w.heap.size + 1 by omega) _).setCell (show w.heap.size ≤ w.heap.size + 1 by omega) _).alloc (by simp; omega) _).drew.drew
        · exact (((HK.out.far (show w.heap.size ≠ w.heap.size + 1 by omega) _).far (show w.heap.size ≠ w.heap.size + 1 by omega) _).alloc _).drew.drew
        · rw [HSN.out]; exact (HO5.out.alloc _).drew.drew
      case measure => simp [intOf]; omega
    · obtain rfl : k = n := by omega
      have hall : l.take k = l := List.take_of_length_le (by rw [HL.out]; omega)
      have HA := Lib.hid hall
      clear hall
      go_wp2_with fail
      go_ret
      exact ⟨_, rfl, HB.out, by rw [← HA.out]; exact HO.out⟩

end Go.Proofs.Ytjkfogkpacmdlaa

/- With whom each node is linked, in plain Lean: the part that wants no walk. Conditions: none. -/
namespace Go.Proofs.Ytjkfogkpacmdlaa
open Go.RowKit

/-- A step from a node to one that it is linked with, within some. -/
def RS (l : List (BitVec 32)) (wi : BitVec 32) (c j : Nat) : Prop := (lw l c).getLsbD j = true ∧ wi.getLsbD j = true
/-- The least node that one is linked with. -/
def IsPart (l : List Ed) (i p : Nat) : Prop := Rch (Adj l) i p ∧ ∀ j, j < p → ¬ Rch (Adj l) i j
theorem IsPart.same {l : List Ed} {i p p' : Nat} (h : IsPart l i p) (h' : IsPart l i p') : p = p' := by
  rcases Nat.lt_trichotomy p p' with e | e | e
  · exact (h'.2 p e h.1).elim
  · exact e
  · exact (h.2 p' e h'.1).elim
def PartsL (l : List Ed) (L : List Int) : Prop := ∀ i, i < L.length → ∃ p : Nat, L.getD i 0 = p ∧ IsPart l i p
theorem PartsL.nil (l : List Ed) : PartsL l [] := fun i h => absurd h (by simp)
theorem PartsL.snoc {l : List Ed} {L : List Int} {p : Nat} (h : PartsL l L) (hp : IsPart l L.length p) : PartsL l (L ++ [(p : Int)]) := fun i hi => by
  rw [List.length_append, List.length_singleton] at hi
  by_cases hlt : i < L.length
  · obtain ⟨q, h1, h2⟩ := h i hlt
    exact ⟨q, by rw [← h1]; simp [List.getD_eq_getElem?_getD, List.getElem?_append_left hlt], h2⟩
  · obtain rfl : i = L.length := by omega
    exact ⟨p, by simp [List.getD_eq_getElem?_getD], hp⟩
theorem PartsL.same {l : List Ed} {L L' : List Int} (h : PartsL l L) (h' : PartsL l L') (hl : L.length = L'.length) : L = L' := by
  apply List.ext_getElem hl
  intro i h1 h2
  obtain ⟨p, e, hp⟩ := h i h1
  obtain ⟨p', e', hp'⟩ := h' i h2
  rw [getD_at L i h1] at e
  rw [getD_at L' i h2] at e'
  rw [e, e', hp.same hp']
theorem rs_adj {N : Nat} {l : List Ed} (hg : GoodG N l) (c j : Nat) : RS (nearL N l) (maskW N) c j ↔ Adj l c j := by
  have hN := hg.n10
  unfold RS
  rw [b_mask (by omega)]
  constructor
  · rintro ⟨h1, h2⟩
    rcases Nat.lt_or_ge c N with hc | hc
    · rw [near_bit hg hc] at h1
      exact h1
    · have : lw (nearL N l) c = w0 := by
        unfold lw
        rw [List.getD_eq_getElem?_getD, List.getElem?_eq_none (by rw [nearL_length]; exact hc)]
        rfl
      rw [this, b_0] at h1
      cases h1
  · intro h
    obtain ⟨hc, hj⟩ := adj_low hg c j h
    rw [near_bit hg hc]
    exact ⟨h, by simpa using hj⟩
theorem rch_iff {R R' : Nat → Nat → Prop} (h : ∀ c j, R c j ↔ R' c j) (i j : Nat) : Rch R i j ↔ Rch R' i j := by
  have : R = R' := by funext c j; exact propext (h c j)
  rw [this]
theorem near_adj {N : Nat} {l : List Ed} (hg : GoodG N l) (c j : Nat) : (lw (nearL N l) c).getLsbD j = true ↔ Adj l c j := by
  rw [← rs_adj hg]
  refine ⟨fun h => ?_, fun h => h.1⟩
  have hN := hg.n10
  rcases Nat.lt_or_ge c N with hc | hc
  · refine ⟨h, ?_⟩
    have ha : Adj l c j := by rw [near_bit hg hc] at h; exact h
    rw [b_mask (by omega)]
    simpa using (adj_low hg c j ha).2
  · have : lw (nearL N l) c = w0 := by
      unfold lw
      rw [List.getD_eq_getElem?_getD, List.getElem?_eq_none (by rw [nearL_length]; exact hc)]
      rfl
    rw [this, b_0] at h
    cases h
end Go.Proofs.Ytjkfogkpacmdlaa

/- Two sides, in plain Lean. Conditions: none. -/
namespace Go.Proofs.Ytjkfogkpacmdlaa
open Go.RowKit

theorem adj_sym {l : List Ed} {i j : Nat} (h : Adj l i j) : Adj l j i := by
  unfold Adj at h ⊢
  rw [adj_symm]
  exact h
theorem wn_front {R : Nat → Nat → Prop} {a i : Nat} (h : R a i) : ∀ {m j : Nat}, Wn R i m j → Wn R a (m + 1) j
  | _, _, .start => .step .start h
  | _, _, .step h1 h2 => .step (wn_front h h1) h2
theorem wn_back {R : Nat → Nat → Prop} (hs : ∀ a b, R a b → R b a) {i : Nat} : ∀ {m j : Nat}, Wn R i m j → Wn R j m i
  | _, _, .start => .start
  | _, _, .step h1 h2 => wn_front (hs _ _ h2) (wn_back hs h1)
theorem rch_sym {l : List Ed} {i j : Nat} (h : Rch (Adj l) i j) : Rch (Adj l) j i := by
  obtain ⟨m, hm⟩ := h
  exact ⟨m, wn_back (fun _ _ => adj_sym) hm⟩
/-- On which side one is. -/
def SideIs (l : List Ed) (i : Nat) (v : Int) : Prop := ∃ (p : Nat) (x : Int), IsPart l i p ∧ DistIs (Adj l) p i x ∧ v = x.tmod 2
theorem SideIs.same {l : List Ed} {i : Nat} {v v' : Int} (h : SideIs l i v) (h' : SideIs l i v') : v = v' := by
  obtain ⟨p, x, h1, h2, h3⟩ := h
  obtain ⟨p', x', k1, k2, k3⟩ := h'
  obtain rfl := h1.same k1
  obtain rfl := h2.same k2
  rw [h3, k3]
def SidesL (l : List Ed) (L : List Int) : Prop := ∀ i, i < L.length → SideIs l i (L.getD i 0)
theorem SidesL.nil (l : List Ed) : SidesL l [] := fun i h => absurd h (by simp)
theorem SidesL.snoc {l : List Ed} {L : List Int} {v : Int} (h : SidesL l L) (hv : SideIs l L.length v) : SidesL l (L ++ [v]) := fun i hi => by
  rw [List.length_append, List.length_singleton] at hi
  by_cases hlt : i < L.length
  · have := h i hlt
    rwa [show (L ++ [v]).getD i 0 = L.getD i 0 from by simp [List.getD_eq_getElem?_getD, List.getElem?_append_left hlt]]
  · obtain rfl : i = L.length := by omega
    rwa [show (L ++ [v]).getD L.length 0 = v from by simp [List.getD_eq_getElem?_getD]]
theorem SidesL.same {l : List Ed} {L L' : List Int} (h : SidesL l L) (h' : SidesL l L') (hl : L.length = L'.length) : L = L' := by
  apply List.ext_getElem hl
  intro i h1 h2
  have e := h i h1
  have e' := h' i h2
  rw [getD_at L i h1] at e
  rw [getD_at L' i h2] at e'
  exact e.same e'
/-- Does an edge lie on one side? -/
def flatE (L : List Int) (e : Ed) : Bool := L.getD e.a.toNat 0 == L.getD e.b.toNat 0
def clash (l : List Ed) (L : List Int) : Bool := l.any (flatE L)
end Go.Proofs.Ytjkfogkpacmdlaa
