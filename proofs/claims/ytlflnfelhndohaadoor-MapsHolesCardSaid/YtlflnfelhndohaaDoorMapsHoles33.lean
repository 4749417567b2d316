/- With whom each node is linked, in plain Lean. Conditions: none. -/
import Derived.Test.YtlflnfelhndohaaDoorMapsHoles32
import Derived.Test.YtlflnfelhndohaaDoorMapsHoles19
import Derived.Deep.RegionLaw
namespace Go.Proofs.YtlflnfelhndohaaDoor
open Go.RowKit

/-- The least node that one is linked with. -/
def IsPart (l : List Ed) (i p : Nat) : Prop := Rch (Adj l) i p ∧ ∀ j, j < p → ¬ Rch (Adj l) i j
theorem IsPart.same {l : List Ed} {i p p' : Nat} (h : IsPart l i p) (h' : IsPart l i p') : p = p' := by
  rcases Nat.lt_trichotomy p p' with e | e | e
  · exact (h'.2 p e h.1).elim
  · exact e
  · exact (h.2 p' e h'.1).elim
def PartsL (l : List Ed) (L : List Int) : Prop := ∀ i, i < L.length → ∃ p : Nat, L.getD i 0 = p ∧ IsPart l i p
theorem PartsL.nil (l : List Ed) : PartsL l [] := fun i h => absurd h (by simp)
theorem PartsL.snoc {l : List Ed} {L : List Int} {p : Nat} (h : PartsL l L) (hp : IsPart l L.length p) : PartsL l (L ++ [(p : Int)]) := fun i hi => by
  rw [List.length_append, List.length_singleton] at hi
  by_cases hlt : i < L.length
  · obtain ⟨q, h1, h2⟩ := h i hlt
    exact ⟨q, by rw [← h1]; simp [List.getD_eq_getElem?_getD, List.getElem?_append_left hlt], h2⟩
  · obtain rfl : i = L.length := by omega
    exact ⟨p, by simp [List.getD_eq_getElem?_getD], hp⟩
theorem PartsL.same {l : List Ed} {L L' : List Int} (h : PartsL l L) (h' : PartsL l L') (hl : L.length = L'.length) : L = L' := by
  apply List.ext_getElem hl
  intro i h1 h2
  obtain ⟨p, e, hp⟩ := h i h1
  obtain ⟨p', e', hp'⟩ := h' i h2
  rw [getD_at L i h1] at e
  rw [getD_at L' i h2] at e'
  rw [e, e', hp.same hp']
theorem rs_adj {N : Nat} {l : List Ed} (hg : GoodG N l) (c j : Nat) : RS (nearL N l) (maskW N) c j ↔ Adj l c j := by
  have hN := hg.n10
  unfold RS
  rw [b_mask (by omega)]
  constructor
  · rintro ⟨h1, h2⟩
    rcases Nat.lt_or_ge c N with hc | hc
    · rw [near_bit hg hc] at h1
      exact h1
    · have : lw (nearL N l) c = w0 := by
        unfold lw
        rw [List.getD_eq_getElem?_getD, List.getElem?_eq_none (by rw [nearL_length]; exact hc)]
        rfl
      rw [this, b_0] at h1
      cases h1
  · intro h
    obtain ⟨hc, hj⟩ := adj_low hg c j h
    rw [near_bit hg hc]
    exact ⟨h, by simpa using hj⟩
theorem rch_iff {R R' : Nat → Nat → Prop} (h : ∀ c j, R c j ↔ R' c j) (i j : Nat) : Rch R i j ↔ Rch R' i j := by
  have : R = R' := by funext c j; exact propext (h c j)
  rw [this]
theorem part_tz {N : Nat} {l : List Ed} (hg : GoodG N l) {i : Nat} (hi : i < N) {x : BitVec 32} (hx : ∀ j, x.getLsbD j = true ↔ ∃ i', (wShl w1 i).getLsbD i' = true ∧ Rch (RS (nearL N l) (maskW N)) i' j) : x ≠ w0 ∧ IsPart l i (tz x) := by
  have hN := hg.n10
  have hb : ∀ j, x.getLsbD j = true ↔ Rch (Adj l) i j := fun j => by
    rw [hx j, ← rch_iff (rs_adj hg)]
    constructor
    · rintro ⟨i', h1, h2⟩
      rw [b_one] at h1
      simp at h1
      rw [← h1.2]
      exact h2
    · intro h
      exact ⟨i, by rw [b_one]; simp; omega, h⟩
  have hne : x ≠ w0 := fun e => by
    have := (hb i).2 ⟨0, .start⟩
    rw [e, b_0] at this
    cases this
  refine ⟨hne, (hb _).1 (tz_bit hne), fun j hj hr => ?_⟩
  rw [← hb, tz_low hne hj] at hr
  cases hr

end Go.Proofs.YtlflnfelhndohaaDoor

/- With whom each node is linked: the program's walk. Conditions: the edges read as a list; the table. -/
namespace Go.Proofs.YtlflnfelhndohaaDoor
open Go.RowKit
attribute [local go_sem ↓] w_and w_or w_xor w_andNot w_and1 w_and255 w_xor1 w_or0 w_shl w_shl1 w_shr w_sub w_add w_sub1 w_add1
attribute [local go_sem] w_eq0 w_ne0 w_eq1 w_eq w_ne

set_option maxRecDepth 100000 in
set_option maxHeartbeats 1000000 in
theorem graph_Parts (N : Int) (A : Option Addr) (n c : Nat) (l : List Ed) (w : World) (hl : l.length = n) (hn : n ≤ maxLen) (hr : Els w w.heap.size 3 Ed.cells A l) (htab : TabOk w) :
    Calls Tryd.prog 38 #[.agg #[.int .i64 N, .slice A n c]] w fun e w' => ∃ A' k cap, e = .returned (.tuple #[.slice A' k cap, .int .i64 (graphCheck N l)]) ∧ Below w.heap.size w w' ∧
      (graphCheck N l ≠ 0 → k = 0) ∧ (graphCheck N l = 0 → ∃ (m : Nat) (L : List Int), N = m ∧ k = m ∧ L.length = m ∧ PartsL l L ∧ Els w' w'.heap.size 1 icell A' L) := by
  have h0w : 0 < w.heap.size := Nat.lt_of_le_of_lt (Nat.zero_le _) htab.1
  have hb0 := (Below.refl w.heap.size w).alloc (Nat.le_refl _) (.cells #[.int .i64 N, .slice A n c] 24)
  have hB0 := Blk.new w 24 #[.int .i64 N, .slice A n c]
  have HW := Lib.hid (graph_Check N A n c l (w.alloc (.cells #[.int .i64 N, .slice A n c] 24)) hl hn ((hr.alloc (Nat.le_refl _) _).more (by rw [size_alloc']; omega)))
  have HL := Lib.hid hl
  have HR := Lib.hid hr
  have HB0 := Lib.hid hb0
  have HK0 := Lib.hid hB0
  have HTB := Lib.hid htab
  have c0 := hB0.cell 0
  have c1 := hB0.cell 1
  clear hr hb0 hB0 hl htab
  go_enter Tryd.func38, Tryd.ntmps38
  go_wp2_with fail
  refine HW.out.mono ?_
  clear HW
  rintro e v1 ⟨rfl, hb1⟩
  have hk1 := HK0.out.below hb1 (by rw [size_alloc']; omega)
  have hb1' := HB0.out.trans (hb1.mono (by rw [size_alloc']; omega))
  have hz1 := hb1'.size
  have hlt1 := hk1.lt
  have HB1 := Lib.hid hb1'
  have HK1 := Lib.hid hk1
  clear c0 c1 hb1 hb1'
  have c0 := hk1.cell 0
  have c1 := hk1.cell 1
  clear hk1
  by_cases h0 : graphCheck N l = 0
  · obtain ⟨m, rfl, hg⟩ := graph_good h0
    have HZ := Lib.hid h0
    have HG := Lib.hid hg
    have hm := hg.n10
    have HN := Lib.hid (graph_Near m A n c l v1 HL.out hg ((HR.out.below HB1.out).more hz1))
    rw [h0]
    clear h0 hg
    go_wp2_with fail
    refine HN.out.mono ?_
    clear HN
    rintro e v2 ⟨A1, rfl, hb2, hown2⟩
    have hk2 := HK1.out.below hb2 hlt1
    have hb2' := HB1.out.trans (hb2.mono hz1)
    have hz2 := hb2'.size
    have HB2 := Lib.hid hb2'
    have HK2 := Lib.hid hk2
    have HE2 := Lib.hid hown2.els
    clear hb2 hb2' hown2 c0 c1 HK1
    have c0 := hk2.cell 0
    have c1 := hk2.cell 1
    clear hk2
    go_wp2_with fail
    clear c0 c1
    go_loopw [17, 6] (fun i s wr => ∃ (k : Nat) (A2 : Option Addr) (cap : Nat) (L : List Int), k ≤ m ∧ i = .int .i64 k ∧ s = .slice A2 k cap ∧ L.length = k ∧ PartsL l L ∧ Below v2.heap.size v2 wr ∧ Own wr v2.heap.size 3 1 icell A2 cap L) (fun i _ _ => m - (intOf i).toNat)
    case atStart => exact ⟨0, none, 0, [], by omega, rfl, rfl, rfl, PartsL.nil _, Below.refl _ _, Own.nil _ _ _ (fun _ => rfl)⟩
    case round =>
      rename World => wr
      obtain ⟨k, A2, cap, L, hk, rfl, rfl, hLk, hpl, hb, hown⟩ := hrel
      have hs4 := hb.size
      have HO := Lib.hid hown
      have HB := Lib.hid hb
      have HLK := Lib.hid hLk
      have HPL := Lib.hid hpl
      clear hown hb hLk hpl
      by_cases hlt : k < m
      · have hbw := HB2.out.trans (HB.out.mono hz2)
        have HSP := Lib.hid (graph_Spread A1 m m (nearL m l) (wShl w1 k) (wSub (wShl w1 m) w1) wr.drew (nearL_length _ _) (by omega) (((HE2.out.below HB.out).more hs4).drew) (HTB.out.below hbw.drew h0w) (by show 0 < wr.heap.size; omega)
          (fun j hj => by rw [b_one] at hj; simp at hj; omega) (fun j hj => by rw [show wSub (wShl w1 m) w1 = maskW m from rfl, b_mask (by omega)] at hj; simpa using hj))
        have hkr := HK2.out.below (hb := HB.out) HK2.out.lt
        have c0 := hkr.cell 0
        have c1 := hkr.cell 1
        have HBW := Lib.hid hbw
        clear hkr hbw
        go_wp2_with fail
        go_region_law ((first
          | (
            refine step_append_els (by rfl) (.tmp 20) (.tmp 30) 25 (by rfl) v2.heap.size 1 3 (.int .i64 0) 8 Tryd.underlying25 (by kernel_rfl) (by rfl) (by omega) icell _ A2 k cap L HLK.out (by rfl) (HO3.out.alloc _) _ 1 1 [(t : Int)] (by rfl) (by rfl) _ (els_of_blk (t := 3) (cs := #[.int .i64 t]) (Blk.new _ _ _) 1 icell (fun _ => rfl) [(t : Int)] rfl) (by simp [Value.oneCell']) (by unfold maxLen; omega) (by omega) (by rw [size_alloc']; exact Nat.le_succ_of_le hz3) ?_
            intro A3 cap3 w4 hown3 hgrow hloc
            have HO4 := Lib.hid hown3
            have HG4 := Lib.hid hgrow
            clear hown3 hgrow hloc)
          | (
            go_simp
            go_wp2_with (first
             | (
              go_at_call 41
              refine HSP.out.mono ?_
              clear HSP
              rintro e w3 ⟨x, rfl, hb3, hx⟩
              have hb3' : Below wr.heap.size wr w3 := ((Below.refl _ wr).drew).trans hb3
              obtain ⟨hx0, hpt⟩ := part_tz HG.out hlt hx
              have htz := tz_lt hx0
              have HTZ := Lib.hid (TrailingZeros32_ne x w3 hx0 (HTB.out.below (HBW.out.trans (hb3'.mono (HBW.out.size))) h0w))
              have HPT : Hid (IsPart l L.length (tz x)) := Lib.hid (by rw [HLK.out]; exact hpt)
              have HO3 := Lib.hid (HO.out.below hb3' (Nat.le_refl _))
              have HB3 := Lib.hid (HB.out.trans (hb3'.mono hs4))
              have hz3 := HB3.out.size
              clear hb3 hb3' hx hx0 hpt)
             | (
              go_at_call 47
              refine HTZ.out.mono ?_
              clear HTZ
              rintro e w4 ⟨rfl, rfl⟩
              obtain ⟨t, ht⟩ : ∃ t, t = tz x := ⟨_, rfl⟩
              rw [← ht] at HPT htz ⊢
              clear ht)))))
        go_wp2_with fail
        go_roundw
        case rel => exact ⟨k + 1, A3, cap3, L ++ [(t : Int)], by omega, by go_num, rfl, by rw [List.length_append, HLK.out]; rfl, HPL.out.snoc HPT.out, (HB3.out.alloc hz3 _).grown HG4.out (by rw [size_alloc']; exact Nat.le_succ_of_le hz3) (fun g hg => (HO3.out.lt g hg).1), HO4.out⟩
        case measure => simp [intOf]; omega
      · obtain rfl : k = m := by omega
        go_wp2_with fail
        refine bodyPost_ret (v := .tuple #[.slice A2 k cap, .int .i64 0]) (by simp [results, Tryd.results38, go_sem]) rfl ?_
        exact ⟨A2, k, cap, by rw [HZ.out], HB2.out.trans (HB.out.mono hz2), fun h => absurd HZ.out h, fun _ => ⟨k, L, rfl, rfl, HLK.out, HPL.out, HO.out.els⟩⟩
  · have h1 : (graphCheck N l != 0) = true := by simpa using h0
    have H0 := Lib.hid h0
    obtain ⟨x, hx⟩ : ∃ x, x = graphCheck N l := ⟨_, rfl⟩
    rw [← hx] at h1 ⊢
    have HX := Lib.hid hx
    clear h0 hx
    go_wp2_with fail
    refine bodyPost_ret (v := .tuple #[.slice none 0 0, .int .i64 x]) (by simp [results, Tryd.results38, go_sem]) rfl ?_
    exact ⟨none, 0, 0, by rw [HX.out], HB1.out, fun _ => rfl, fun h => absurd h H0.out⟩
end Go.Proofs.YtlflnfelhndohaaDoor
