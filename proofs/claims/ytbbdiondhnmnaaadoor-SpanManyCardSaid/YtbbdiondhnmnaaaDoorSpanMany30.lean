/- graph.Spread: all that can be come to from some within some. Conditions: the words read as a list; the table; bits below its length. -/
import Derived.Test.YtbbdiondhnmnaaaDoorSpanMany24
import Derived.Test.YtbbdiondhnmnaaaDoorSpanMany29
import Derived.Test.YtbbdiondhnmnaaaDoorSpanMany20
import Derived.BigRegionIn
import Derived.Sort.QuietIn
namespace Go.Proofs.YtbbdiondhnmnaaaDoor
open Go.RowKit Go.Shelf
attribute [local go_sem] Oper.semAt_some
attribute [local go_sem ↓] w_and w_or w_xor w_andNot w_and1 w_and255 w_xor1 w_or0 w_shl w_shl1 w_shr w_sub w_add w_sub1 w_add1
attribute [local go_sem] w_eq0 w_ne0 w_eq1 w_eq w_ne

structure Spr (l : List (BitVec 32)) (n : Nat) (fr wi all next : BitVec 32) : Prop where
  sub : ∀ j, next.getLsbD j = true → all.getLsbD j = true
  st : ∀ j, fr.getLsbD j = true → all.getLsbD j = true
  to_ : ∀ j, all.getLsbD j = true → ∃ i, fr.getLsbD i = true ∧ Rch (RS l wi) i j
  on_ : ∀ c, all.getLsbD c = true → next.getLsbD c = false → ∀ j, RS l wi c j → all.getLsbD j = true
  low : ∀ j, all.getLsbD j = true → j < n
theorem Spr.start (l : List (BitVec 32)) (n : Nat) (fr wi : BitVec 32) (h : ∀ j, fr.getLsbD j = true → j < n) : Spr l n fr wi fr fr :=
  ⟨fun _ h => h, fun _ h => h, fun j h => ⟨j, h, 0, .start⟩, fun c h1 h2 => (by rw [h1] at h2; cases h2), h⟩
def nxtW (l : List (BitVec 32)) (wi all next : BitVec 32) : BitVec 32 := wBut (wAnd (orAll l w0 (bitsL next)) wi) all
theorem nxt_bit (l : List (BitVec 32)) (wi all next : BitVec 32) (j : Nat) : (nxtW l wi all next).getLsbD j = true ↔ (∃ c, next.getLsbD c = true ∧ RS l wi c j) ∧ all.getLsbD j = false := by
  unfold nxtW RS
  rw [b_but, b_and, orAll_bit, b_0, Bool.false_or, Bool.and_eq_true, Bool.and_eq_true, List.any_eq_true, Bool.not_eq_true']
  constructor
  · rintro ⟨⟨⟨c, hc, h1⟩, h2⟩, h3⟩
    exact ⟨⟨c, mem_bitsL.1 hc, h1, h2⟩, h3⟩
  · rintro ⟨⟨c, hc, h1, h2⟩, h3⟩
    exact ⟨⟨⟨c, mem_bitsL.2 hc, h1⟩, h2⟩, h3⟩
theorem Spr.next {l : List (BitVec 32)} {n : Nat} {fr wi all next : BitVec 32} (h : Spr l n fr wi all next) (hwi : ∀ j, wi.getLsbD j = true → j < n) : Spr l n fr wi (wOr all (nxtW l wi all next)) (nxtW l wi all next) := by
  refine ⟨fun j hj => by rw [b_or, hj, Bool.or_true], fun j hj => by rw [b_or, h.st j hj]; rfl, fun j hj => ?_, fun c hc hn j hs => ?_, fun j hj => ?_⟩
  · rw [b_or, Bool.or_eq_true] at hj
    rcases hj with hj | hj
    · exact h.to_ j hj
    · obtain ⟨⟨c, hc, hs⟩, _⟩ := (nxt_bit l wi all next j).1 hj
      obtain ⟨i, hi, m, hm⟩ := h.to_ c (h.sub c hc)
      exact ⟨i, hi, m + 1, hm.step hs⟩
  · rw [b_or, hn, Bool.or_false] at hc
    rw [b_or, Bool.or_eq_true]
    rcases hall : all.getLsbD j with _ | _
    · refine .inr ((nxt_bit l wi all next j).2 ⟨⟨c, ?_, hs⟩, hall⟩)
      rcases hnc : next.getLsbD c with _ | _
      · rw [h.on_ c hc hnc j hs] at hall; cases hall
      · rfl
    · exact .inl rfl
  · rw [b_or, Bool.or_eq_true] at hj
    rcases hj with hj | hj
    · exact h.low j hj
    · obtain ⟨⟨c, hc, hs⟩, _⟩ := (nxt_bit l wi all next j).1 hj
      exact hwi j hs.2
theorem Spr.done {l : List (BitVec 32)} {n : Nat} {fr wi all : BitVec 32} (h : Spr l n fr wi all w0) (j : Nat) : all.getLsbD j = true ↔ ∃ i, fr.getLsbD i = true ∧ Rch (RS l wi) i j := by
  refine ⟨h.to_ j, fun ⟨i, hi, hr⟩ => ?_⟩
  exact rch_closed (fun j => all.getLsbD j = true) (h.st i hi) (fun c j hc hs => h.on_ c hc (b_0 c) j hs) hr
theorem or_ge (x y : BitVec 32) : x.toNat ≤ (wOr x y).toNat := by
  unfold wOr
  rw [BitVec.toNat_or]
  exact Nat.left_le_or
/-- What falls from round to round. -/
def sprM (all next : BitVec 32) : Nat := 2 * (4294967296 - all.toNat) + if next = w0 then 0 else 1
theorem ne_bit {x : BitVec 32} (h : x ≠ w0) : ∃ j, x.getLsbD j = true := by
  refine Classical.byContradiction fun hc => h (w_ext fun m _ => ?_)
  rw [b_0]
  rcases hb : x.getLsbD m with _ | _
  · rfl
  · exact (hc ⟨m, hb⟩).elim
theorem spr_falls {l : List (BitVec 32)} {wi all next : BitVec 32} (h : next ≠ w0) : sprM (wOr all (nxtW l wi all next)) (nxtW l wi all next) < sprM all next := by
  unfold sprM
  have h1 := or_ge all (nxtW l wi all next)
  have h2 := (wOr all (nxtW l wi all next)).isLt
  rw [if_neg h]
  by_cases h0 : nxtW l wi all next = w0
  · rw [if_pos h0]; omega
  · rw [if_neg h0]
    have hne : all.toNat ≠ (wOr all (nxtW l wi all next)).toNat := fun e => by
      have e' := BitVec.eq_of_toNat_eq e
      obtain ⟨j, hj⟩ := ne_bit h0
      have hb := ((nxt_bit l wi all next j).1 hj).2
      rw [e', b_or, hj, Bool.or_true] at hb
      cases hb
    omega
def wordV : Value → BitVec 32
  | .int _ v => BitVec.ofInt 32 v
  | _ => w0
theorem wordV_of (x : BitVec 32) : wordV (.int .u32 (wN x)) = x := by
  unfold wordV wN
  exact ofInt_w x

set_option maxRecDepth 100000 in
set_option maxHeartbeats 1000000 in
theorem graph_Spread (A : Option Addr) (n c : Nat) (l : List (BitVec 32)) (fr wi : BitVec 32) (w : World) (hl : l.length = n) (hn : n ≤ 32) (hr : Els w w.heap.size 1 wcell A l) (htab : TabOk w) (h0 : 0 < w.heap.size)
    (hfr : ∀ j, fr.getLsbD j = true → j < n) (hwi : ∀ j, wi.getLsbD j = true → j < n) :
    Calls Tryd.prog 9 #[.slice A n c, .int .u32 (wN fr), .int .u32 (wN wi)] w fun e w' => ∃ x : BitVec 32, e = .returned (.int .u32 (wN x)) ∧ Below w.heap.size w w' ∧ ∀ j, x.getLsbD j = true ↔ ∃ i, fr.getLsbD i = true ∧ Rch (RS l wi) i j := by
  have HL := Lib.hid hl
  have HFR := Lib.hid hfr
  have HWI := Lib.hid hwi
  clear hl hfr hwi
  refine (callsIn_wide (n := 9)).1 ?_
  refine callsIn_of_wp_marks Tryd.func9 rfl trivial ?_ rfl
  simp only [Tryd.ntmps9, List.size_toArray, List.length_cons, List.length_nil, Nat.reduceAdd, Nat.reduceSub, Array.replicate_succ, Array.replicate_zero, List.push_toArray, List.append_toArray, List.nil_append, List.cons_append]
  gi_wp2_with fail
  obtain ⟨S, hS⟩ : ∃ S, S = w.heap.size := ⟨_, rfl⟩
  obtain ⟨W1, hW1⟩ : ∃ W1, W1 = w.alloc (.cells #[.slice A n c] 35) := ⟨_, rfl⟩
  have hB1 : Below S w W1 := by rw [hW1, hS]; exact (Below.refl _ w).alloc (Nat.le_refl _) _
  have hX1 : Boxed W1 S 35 (.slice A n c) := by rw [hW1, hS]; exact Boxed.new w _ _
  have hT1 : TabOk W1 := htab.below hB1 (by rw [hS]; exact h0)
  rw [← hW1]
  rw [← hS] at hr ⊢
  have hS0 : 0 < S := by rw [hS]; exact h0
  have HSZ := Lib.hid hS
  have hB1' := Lib.hid hB1
  have hX1' := Lib.hid hX1
  have hT1' := Lib.hid hT1
  clear hW1 hS h0 htab hB1 hX1 hT1
  refine wpIn_loop_marks [7, 8, 9, 13, 14, 15, 16, 24, 25, 26, 27, 28, 29, 30, 31]
    (fun g ds wr => ∃ all next : BitVec 32, g 7 = .int .u32 (wN all) ∧ g 8 = .int .u32 (wN next) ∧ Spr l n fr wi all next ∧ Below S w wr ∧ Boxed wr S 35 (.slice A n c) ∧ TabOk wr ∧ Marks S ds wr)
    (fun g _ => sprM (wordV (g 7)) (wordV (g 8))) ?same ⟨fr, fr, ?s7, ?s8, Spr.start _ _ _ _ HFR.out, hB1'.out, hX1'.out, hT1'.out, Marks.nil _ _⟩ ?round (fun g g' w h => by simp only [h 7 (by simp), h 8 (by simp)]) (by decide) 33 rfl (by decide)
  case same => simp only [patch, slot, List.foldl_cons, List.foldl_nil, List.set_cons_succ, List.set_cons_zero, List.getD_cons_succ, List.getD_cons_zero]
  case s7 => simp only [slot, List.getD_cons_succ, List.getD_cons_zero]
  case s8 => simp only [slot, List.getD_cons_succ, List.getD_cons_zero]
  case round =>
    rintro g ds wr K ⟨all, next, hg7, hg8, hsp, hb, hx, ht, hm⟩ hK
    simp only [patch, List.foldl_cons, List.foldl_nil, List.set_cons_succ, List.set_cons_zero, hg7, hg8]
    have HG7 := Lib.hid hg7
    have HG8 := Lib.hid hg8
    have HSP := Lib.hid hsp
    have HK := Lib.hid hK
    have HB := Lib.hid hb
    have HX := Lib.hid hx
    have HT := Lib.hid ht
    have HM := Lib.hid hm
    clear hK hb hx ht hm hg7 hg8 hsp
    by_cases hy0 : next = w0
    · subst hy0
      have hw0 : (w0 != w0) = false := by simp
      gi_wp2_with fail
      refine bodyPostM_ret HM.out fun w' hw' => ⟨.int .u32 (wN all), by simp [results, Tryd.results9, go_sem], ?_⟩
      rw [← HSZ.out]
      exact ⟨all, rfl, HB.out.trans hw'.1, HSP.out.done⟩
    · have hyn : (next != w0) = true := by simpa using hy0
      have HF := Lib.hid (spr_falls (l := l) (wi := wi) (all := all) hy0)
      have HNX := Lib.hid (HSP.out.next HWI.out)
      have HLO : Hid (∀ j, next.getLsbD j = true → j < n) := Lib.hid (fun j hj => HSP.out.low j (HSP.out.sub j hj))
      clear hy0
      gi_wp2_with fail
      refine wide_call2 ((graph_Each next _).mono ?_)
      rintro e W3 ⟨rfl, rfl⟩
      gi_wp2_with fail
      obtain ⟨T, hT⟩ : ∃ T, T = wr.heap.size := ⟨_, rfl⟩
      obtain ⟨W2, hW2⟩ : ∃ W2, W2 = ((wr.alloc (.cells #[.int .u32 0] 37)).alloc (.cells #[.int .u32 (wN next)] 37)) := ⟨_, rfl⟩
      have hSZ2 : W2.heap.size = T + 2 := by rw [hW2, size_alloc', size_alloc', hT]
      have hb2 : Below S w W2 := by rw [hW2]; exact (HB.out.alloc (Nat.le_of_lt HX.out.lt) _).alloc (by rw [size_alloc']; have := HX.out.lt; omega) _
      have hx2 : Boxed W2 S 35 (.slice A n c) := by rw [hW2]; exact (HX.out.alloc _).alloc _
      have hST : S < T := by rw [hT]; exact HX.out.lt
      have ht2 : TabOk W2 := HT.out.below (hW2 ▸ ((Below.refl wr.heap.size wr).alloc (Nat.le_refl _) _).alloc (by simp) _) (by omega)
      have hm2 : Marks S ds W2 := by rw [hW2]; exact (HM.out.alloc _).alloc _
      have ha2 : Boxed W2 T 37 (.int .u32 (wN (orAll l w0 []))) := by rw [hW2, hT]; exact (Boxed.new wr _ _).alloc _
      have hi2 : Boxed W2 (T + 1) 37 (.int .u32 (wN next)) := by
        have := Boxed.new (wr.alloc (.cells #[.int .u32 0] 37)) 37 (.int .u32 (wN next))
        rw [size_alloc', ← hT, ← hW2] at this
        exact this
      rw [← hW2, ← hT]
      have HB2 := Lib.hid hb2
      have HX2 := Lib.hid hx2
      have HM2 := Lib.hid hm2
      have HA2 := Lib.hid ha2
      have HI2 := Lib.hid hi2
      have HR := Lib.hid hr
      clear hW2 hT hb2 hx2 hm2 ha2 HB HX HT HM hr
      refine wpIn_bits (p := 17) (q := 10) 9 18 (T + 1) 37 (.int .u32 (wN next)) (bitsL next) [T, T + 1] rfl (enters_of Tryd.func18 (by kernel_rfl) rfl)
        (Each1_seq _ _ _ (by omega)) hi2 ht2 (by simp) (fun pre W => Boxed W T 37 (.int .u32 (wN (orAll l w0 pre)))) (fun _ _ _ => False)
        (boxed_own _ _ _) (fun _ _ _ _ _ h _ _ => h) (fun s A v h => h.other (by omega) v) HA2.out ?assign ?body ?done (fun _ _ _ _ _ _ _ h _ => h.elim)
      case assign =>
        intro l' j W K hK
        simp only [List.setIfInBounds_toArray, List.set_cons_succ, List.set_cons_zero] at hK ⊢
        gi_wp2_with fail
        exact hK
      case body =>
        intro l' pre j W hh hi hpre
        have hjn : j < n := HLO.out j (mem_bitsL.1 (by obtain ⟨z, hz⟩ := hpre; rw [← hz]; simp))
        have hjl : j < l.length := by rw [HL.out]; exact hjn
        have HH := Lib.hid hh
        have hbW := HB2.out.trans (hh.to (B := S) (by omega) (by simp; omega))
        have hxW := hh.boxed HX2.out (by simp; omega)
        obtain ⟨b', off', rfl, _, g1⟩ := (HR.out.below hbW).at1 hjl
        rw [← lw_at l j hjl] at g1
        have c1 := hxW.cell
        have c2 := hi.cell
        have c3 := hi.frozen
        have HI := Lib.hid hi
        simp only [List.setIfInBounds_toArray, List.set_cons_succ, List.set_cons_zero]
        clear hh hbW hxW hi
        gi_wp2_with fail
        gi_region
        all_goals
          refine ⟨KeepsFrom.drew (KeepsFrom.box HI.out _), (KpE.setCell W ⟨T, 0, none⟩ _ (by show T + 1 ≠ T; omega) (by show 0 ≠ T; omega)).drew, (HH.out.setCell (p := ⟨T, 0, none⟩) (by simp) _).drew1, ?_⟩
          rw [orAll_app]
          exact Boxed.drew (HI.out.set _)
      case done =>
        intro D W hD hh hi hdef
        have HH := Lib.hid hh
        have hbW := Lib.hid (HB2.out.trans (hh.to (B := S) (by omega) (by simp; omega)))
        have hxW := hh.boxed HX2.out (by simp; omega)
        have c2 := hi.cell
        have HX3 := Lib.hid hxW
        have HD := Lib.hid hdef
        have hmk : Marks S ({ target := .collected D, args := #[] } :: ds) W := HH.out.mark HM2.out (by simp; exact ⟨⟨_, _, HA2.out⟩, ⟨_, _, HI2.out⟩⟩) (by omega) hD hdef
        have HMK := Lib.hid hmk
        have htW := Lib.hid (ht2.block HH.out.size (HH.out.block 0 (by omega) (by simp; omega)))
        clear hh hxW hi hdef hmk ht2 hi2
        gi_wp2_with fail
        refine HK.out _ _ _ ?_ ⟨wOr all (nxtW l wi all next), nxtW l wi all next, ?_, ?_, HNX.out, hbW.out, HX3.out, htW.out, HMK.out⟩ ?_
        · simp only [patch, slot, List.foldl_cons, List.foldl_nil, List.set_cons_succ, List.set_cons_zero, List.getD_cons_succ, List.getD_cons_zero]
        · simp only [slot, List.getD_cons_succ, List.getD_cons_zero]; rfl
        · simp only [slot, List.getD_cons_succ, List.getD_cons_zero]; rfl
        · simp only [slot, List.getD_cons_succ, List.getD_cons_zero]
          rw [HG7.out, HG8.out, wordV_of, wordV_of, wordV_of, wordV_of]
          exact HF.out
end Go.Proofs.YtbbdiondhnmnaaaDoor

/- With whom each node is linked, in plain Lean. Conditions: none. -/
namespace Go.Proofs.YtbbdiondhnmnaaaDoor
open Go.RowKit

theorem part_tz {N : Nat} {l : List Ed} (hg : GoodG N l) {i : Nat} (hi : i < N) {x : BitVec 32} (hx : ∀ j, x.getLsbD j = true ↔ ∃ i', (wShl w1 i).getLsbD i' = true ∧ Rch (RS (nearL N l) (maskW N)) i' j) : x ≠ w0 ∧ IsPart l i (tz x) := by
  have hN := hg.n10
  have hb : ∀ j, x.getLsbD j = true ↔ Rch (Adj l) i j := fun j => by
    rw [hx j, ← rch_iff (rs_adj hg)]
    constructor
    · rintro ⟨i', h1, h2⟩
      rw [b_one] at h1
      simp at h1
      rw [← h1.2]
      exact h2
    · intro h
      exact ⟨i, by rw [b_one]; simp; omega, h⟩
  have hne : x ≠ w0 := fun e => by
    have := (hb i).2 ⟨0, .start⟩
    rw [e, b_0] at this
    cases this
  refine ⟨hne, (hb _).1 (tz_bit hne), fun j hj hr => ?_⟩
  rw [← hb, tz_low hne hj] at hr
  cases hr

end Go.Proofs.YtbbdiondhnmnaaaDoor
