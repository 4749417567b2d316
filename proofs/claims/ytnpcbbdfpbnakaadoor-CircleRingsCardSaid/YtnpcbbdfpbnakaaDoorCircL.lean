/- The first ring of all nodes: the program's function and the reference's; the row. Conditions: the edges read as a list; the table. -/
import Derived.Test.YtnpcbbdfpbnakaaDoorCircA
import Derived.Test.YtnpcbbdfpbnakaaDoorRingR
import Derived.Test.YtnpcbbdfpbnakaaDoorGraphB
import Derived.Test.YtnpcbbdfpbnakaaDoorEq
import Derived.Test.YtnpcbbdfpbnakaaDoorOpen
namespace Go.Proofs.YtnpcbbdfpbnakaaDoor
open Go.RowKit
theorem w_andNot1 (x : BitVec 32) : Op.intBits .andNot .u32 (wN x) 1 = pure (.int .u32 (wN (wBut x w1))) := r_andNot x 1#32
attribute [local go_sem ↓] w_and w_or w_xor w_andNot w_and1 w_and255 w_xor1 w_or0 w_shl w_shl1 w_shr w_sub w_add w_sub1 w_add1 w_andNot1
attribute [local go_sem] w_eq0 w_ne0 w_eq1 w_eq w_ne

def fullR (t : List (BitVec 32)) (N : Nat) : Option (List Nat) := if N < 3 then none else rowF t true N (N - 1) [0]
theorem cnear_len (N : Nat) (l : List Ed) : (nearL N l).length = N := by
  unfold nearL
  rw [foldl_near_length]
  simp
theorem left_0 (N : Nat) : wBut (wSub (wShl w1 N) w1) w1 = leftW N [0] := rfl
theorem left_pop {N : Nat} (hN : N < 32) (h0 : 0 < N) : pop (leftW N [0]) < N := by
  have h1 : pop (leftW N [0]) = (bitsL (leftW N [0])).length := by
    unfold pop popTo bitsL
    rw [List.countP_eq_length_filter]
  rw [h1]
  have hn : (0 :: bitsL (leftW N [0])).Nodup := List.nodup_cons.2 ⟨fun h => by
    have := mem_bitsL.1 h
    rw [leftW_bit hN] at this
    simp at this, List.nodup_range.filter _⟩
  have := nodup_len (n := N) hn (fun i hi => by
    rcases List.mem_cons.1 hi with rfl | hi
    · exact h0
    · have := mem_bitsL.1 hi
      rw [leftW_bit hN, Bool.and_eq_true, decide_eq_true_iff] at this
      exact this.1)
  simp at this
  omega
theorem full_circ {N : Nat} (hN : N ≤ 10) (h3 : ¬ N < 3) (t : List (BitVec 32)) : fullR t N = circ t 0 (leftW N [0]) := by
  unfold fullR
  rw [if_neg h3]
  have hp := left_pop (N := N) (by omega) (by omega)
  have := row_cir (N := N) (by omega) t (N - 1) [] 0 ⟨by simp, by simp; omega⟩ (by simp; omega) (fun b hb => by simpa using hb.symm)
  simp only [List.nil_append] at this
  rw [this]
  unfold circ
  rw [cirF_enough t (N - 1 + 1) 11 0 _ (by omega) (by omega)]
  cases cirF t 11 0 (leftW N [0]) <;> rfl
theorem full_len {t : List (BitVec 32)} {N : Nat} {u : List Nat} (h : fullR t N = some u) : 3 ≤ u.length ∧ u.length ≤ N := by
  unfold fullR at h
  split at h
  · cases h
  · have := rowF_length _ _ _ _ _ _ h
    simp at this
    omega

set_option maxRecDepth 100000 in
set_option maxHeartbeats 2000000 in
theorem ref_FullRing (N : Nat) (A : Option Addr) (n c : Nat) (es : List Ed) (w : World) (hl : es.length = n) (hg : GoodG N es) (hr : Els w w.heap.size 3 Ed.cells A es) :
    Calls Tryd.prog 33 #[.agg #[.int .i64 N, .slice A n c]] w fun e w' => ∃ (R : Option Addr) (k cr : Nat), e = .returned (.slice R k cr) ∧ Below w.heap.size w w' ∧ RingRes (fullR (nearL N es) N) R k w' := by
  have hN := hg.n10
  have h45 := hg.m45
  rw [hl] at h45
  have hb0 : Below w.heap.size w (w.alloc (.cells #[.int .i64 N, .slice A n c] 31)) := (Below.refl _ w).alloc (Nat.le_refl _) _
  have hk0 : Blk (w.alloc (.cells #[.int .i64 N, .slice A n c] 31)) w.heap.size 31 #[.int .i64 N, .slice A n c] := Blk.new w _ _
  have d0 := hk0.cell 0
  have d1 := hk0.cell 1
  have hk1 := hk0.alloc (.cells #[.int .i64 0] 3)
  have d2 := hk1.cell 0
  have d3 := hk1.cell 1
  by_cases h3 : N < 3
  · have hf : fullR (nearL N es) N = none := by unfold fullR; rw [if_pos h3]
    have HF := Lib.hid hf
    have HB0 := Lib.hid hb0
    clear hr hg hl hb0 hk0 hf hk1
    go_enter Tryd.func33, Tryd.ntmps33
    go_wp2_with fail
    go_ret
    exact ⟨none, 0, 0, rfl, HB0.out, by rw [HF.out]; rfl⟩
  · have hb2 := hb0.alloc (by rw [size_alloc']; omega) (.cells #[.int .i64 0] 3)
    have hels : Els ((w.alloc (.cells #[.int .i64 N, .slice A n c] 31)).alloc (.cells #[.int .i64 0] 3)) (((w.alloc (.cells #[.int .i64 N, .slice A n c] 31)).alloc (.cells #[.int .i64 0] 3))).heap.size 1 icell (some ⟨w.heap.size + 1, 0, none⟩) (intsOf [0]) :=
      els_of_blk (Blk.new_at (by simp)) 1 icell (fun _ => rfl) (intsOf [0]) rfl
    have HR := Lib.hid (ref_ring N A n c es N hl h45 hg hN (by omega) (Nat.le_refl _) (N - 1) [0] (some ⟨w.heap.size + 1, 0, none⟩) 1 1 _ rfl (by omega) (Nat.le_refl _) ⟨by simp, by simp; omega⟩ trivial ((hr.below hb2).more hb2.size) hels)
    have hf : fullR (nearL N es) N = rowF (nearL N es) true N (N - 1) [0] := by unfold fullR; rw [if_neg h3]
    have HF := Lib.hid hf
    have HB2 := Lib.hid hb2
    clear hr hg hl hb0 hk0 hf hk1 hb2 hels
    go_enter Tryd.func33, Tryd.ntmps33
    go_wp2_with fail
    refine HR.out.mono ?_
    clear HR
    rintro e v2 ⟨R, k, cr, rfl, hb3, hres⟩
    have HB3 := Lib.hid (HB2.out.trans (hb3.mono HB2.out.size))
    have HRES := Lib.hid hres
    clear hb3 hres
    go_wp2_with fail
    go_ret
    exact ⟨R, k, cr, rfl, HB3.out, by rw [HF.out]; exact HRES.out⟩

set_option maxRecDepth 100000 in
set_option maxHeartbeats 2000000 in
theorem circle_Ring (N : Int) (A : Option Addr) (n c : Nat) (l : List Ed) (w : World) (hl : l.length = n) (hn : n ≤ maxLen) (hr : Els w w.heap.size 3 Ed.cells A l) (htab : TabOk w) :
    Calls Tryd.prog 32 #[.agg #[.int .i64 N, .slice A n c]] w fun e w' => ∃ (R : Option Addr) (k cap : Nat) (er : Int), e = .returned (.tuple #[.slice R k cap, .int .i64 er]) ∧ Below w.heap.size w w' ∧
      (graphCheck N l ≠ 0 → er = graphCheck N l ∧ k = 0) ∧ (graphCheck N l = 0 → ∃ (m : Nat), N = m ∧ (fullR (nearL m l) m = none → er = 5 ∧ k = 0) ∧ (∀ u, fullR (nearL m l) m = some u → er = 0 ∧ k = u.length ∧ Els w' w'.heap.size 1 icell R (intsOf u))) := by
  have h0w : 0 < w.heap.size := Nat.lt_of_le_of_lt (Nat.zero_le _) htab.1
  have hb0 := (Below.refl w.heap.size w).alloc (Nat.le_refl _) (.cells #[.int .i64 N, .slice A n c] 31)
  have hB0 := Blk.new w 31 #[.int .i64 N, .slice A n c]
  have HW := Lib.hid (graph_Check N A n c l (w.alloc (.cells #[.int .i64 N, .slice A n c] 31)) hl hn ((hr.alloc (Nat.le_refl _) _).more (by rw [size_alloc']; omega)))
  have HL := Lib.hid hl
  have HR := Lib.hid hr
  have HT := Lib.hid htab
  have HB0 := Lib.hid hb0
  have HK0 := Lib.hid hB0
  have c0 := hB0.cell 0
  have c1 := hB0.cell 1
  clear hr hb0 hB0 hl htab
  go_enter Tryd.func32, Tryd.ntmps32
  go_wp2_with fail
  refine HW.out.mono ?_
  clear HW
  rintro e v1 ⟨rfl, hb1⟩
  have hk1 := HK0.out.below hb1 (by rw [size_alloc']; omega)
  have hb1' := HB0.out.trans (hb1.mono (by rw [size_alloc']; omega))
  have hz1 := hb1'.size
  have hlt1 := hk1.lt
  have HB1 := Lib.hid hb1'
  have HK1 := Lib.hid hk1
  clear c0 c1 hb1 hb1'
  have c0 := hk1.cell 0
  have c1 := hk1.cell 1
  clear hk1
  by_cases h0 : graphCheck N l = 0
  · obtain ⟨m, rfl, hg⟩ := graph_good h0
    have HZ := Lib.hid h0
    have HG := Lib.hid hg
    have hm := hg.n10
    have HN := Lib.hid (graph_Near m A n c l v1 HL.out hg ((HR.out.below HB1.out).more hz1))
    rw [h0]
    clear h0 hg
    by_cases h3 : m < 3
    · have hf : fullR (nearL m l) m = none := by unfold fullR; rw [if_pos h3]
      have HF := Lib.hid hf
      clear hf HN
      go_wp2_with fail
      refine bodyPost_ret (v := .tuple #[.slice none 0 0, .int .i64 5]) (by simp [results, Tryd.results32, go_sem]) rfl ?_
      exact ⟨none, 0, 0, 5, rfl, HB1.out, fun h => absurd HZ.out h, fun _ => ⟨m, rfl, fun _ => ⟨rfl, rfl⟩, (fun u hu => by rw [HF.out] at hu; cases hu)⟩⟩
    · have HF := Lib.hid (full_circ hm h3 (nearL m l))
      go_wp2_with fail
      refine HN.out.mono ?_
      clear HN
      rintro e v2 ⟨A1, rfl, hb2, hown2⟩
      have hb2' := HB1.out.trans (hb2.mono hz1)
      have hz2 := hb2'.size
      have hk2 := HK1.out.below hb2 hlt1
      have hx2 := hk2.lt
      obtain ⟨r, hrr⟩ : ∃ r, r = v2.heap.size := ⟨_, rfl⟩
      obtain ⟨V, hV⟩ : ∃ V, V = (v2.alloc (.map #[] 0)).alloc (.cells #[.slice A1 m m, .map (some v2.heap.size)] 97) := ⟨_, rfl⟩
      have hbV : Below r v2 V := by rw [hV, hrr]; exact ((Below.refl _ _).alloc (Nat.le_refl _) _).alloc (by simp) _
      have hmV : MapB V r twoV [] := by rw [hV, hrr]; exact (MapB.made (kv := twoV) v2).alloc _
      have hqV : Blk V (r + 1) 97 #[.slice A1 m m, .map (some r)] := by rw [hV, hrr]; exact Blk.new_at (by simp)
      have hbw : Below w.heap.size w V := hb2'.trans (hbV.mono (by rw [hrr]; exact hz2))
      have hrt : Els V r 1 wcell A1 (nearL m l) := by
        have h1 := hown2.els
        rw [← hrr] at h1
        exact h1.below hbV
      have htb : TabOk V := HT.out.below hbw h0w
      have hkV := hk2.below hbV (by rw [hrr]; exact hx2)
      have hmk : (Instr.makeMap 95 none).run Tryd.prog v2 = .ok (.map (some v2.heap.size)) (v2.alloc (.map #[] 0)) := run_makeMap _ _
      have hp := left_pop (N := m) (by omega) (by omega)
      have HC := Lib.hid (circle_on m hm (nearL m l) (cnear_len m l) A1 m r (r + 1) (by omega) (Nat.lt_succ_self r) 11 0 (leftW m [0]) [] V (by omega) (by omega) (by omega) (fun j hj => by rw [leftW_bit (by omega), Bool.and_eq_true, decide_eq_true_iff] at hj; exact hj.1) hrt hqV hmV (fun a x v hv => by cases hv) htb)
      rw [← left_0] at HC
      have g0 := (hk2.alloc (.map #[] 0)).alloc (.cells #[.slice A1 m m, .map (some v2.heap.size)] 97)
      have e0 := g0.cell 0
      have e1 := g0.cell 1
      rw [show ((0 : Nat) : Int) = 0 from rfl] at HC
      have HBW := Lib.hid hbw
      have HVV := Lib.hid hV
      have HRR := Lib.hid hrr
      have hrw : w.heap.size ≤ r := by rw [hrr]; exact hz2
      clear c0 c1 hb2 hb2' hown2 HK1 hk2 hbV hmV hqV hbw hrt htb hkV hV hrr hp g0
      go_wp2_with fail
      rw [← HVV.out, ← HRR.out]
      refine HC.out.mono ?_
      clear HC
      rintro e v5 ⟨R, k, cr, L5, rfl, hh5, hm5, hlo5, hres⟩
      have hb5 : Below w.heap.size w v5 := HBW.out.trans (hh5.to (B := w.heap.size) HBW.out.size (by simp; exact hrw))
      have HB5 := Lib.hid hb5
      rw [left_0, ← HF.out] at hres
      cases hrow : fullR (nearL m l) m with
      | none =>
        rw [hrow] at hres
        obtain ⟨rfl, rfl, rfl⟩ := hres
        have HROW := Lib.hid hrow
        have hnn : ∀ w, (binOp .eql 32 (.slice none 0 0) (.slice none 0 0)).run Tryd.prog w = .ok (.bool true) w := fun _ => by kernel_rfl
        clear hrow hh5 hm5 hlo5 hb5
        go_wp2_with fail
        refine bodyPost_ret (v := .tuple #[.slice none 0 0, .int .i64 5]) (by simp [results, Tryd.results32, go_sem]) rfl ?_
        exact ⟨none, 0, 0, 5, rfl, HB5.out, fun h => absurd HZ.out h, fun _ => ⟨m, rfl, fun _ => ⟨rfl, rfl⟩, (fun u hu => by rw [HROW.out] at hu; cases hu)⟩⟩
      | some u =>
        rw [hrow] at hres
        have hul := full_len hrow
        obtain ⟨hk, he⟩ := hres
        obtain ⟨rb, ro, hR, _, _⟩ := he (by rw [intsOf, List.length_map]; omega)
        subst hR hk
        have HE := Lib.hid he
        have HROW := Lib.hid hrow
        have hnn : ∀ w, (binOp .eql 32 (.slice (some ⟨rb, ro, none⟩) u.length cr) (.slice none 0 0)).run Tryd.prog w = .ok (.bool false) w := fun _ => by kernel_rfl
        clear he hrow hul hh5 hm5 hlo5 hb5
        go_wp2_with fail
        refine bodyPost_ret (v := .tuple #[.slice (some ⟨rb, ro, none⟩) u.length cr, .int .i64 0]) (by simp [results, Tryd.results32, go_sem]) rfl ?_
        exact ⟨some ⟨rb, ro, none⟩, u.length, cr, 0, rfl, HB5.out, fun h => absurd HZ.out h, fun _ => ⟨m, rfl, (fun h => by rw [HROW.out] at h; cases h), (fun u' hu => by rw [HROW.out] at hu; cases hu; exact ⟨rfl, rfl, HE.out⟩)⟩⟩
  · have h1 : (graphCheck N l != 0) = true := by simpa using h0
    have H0 := Lib.hid h0
    obtain ⟨x, hx⟩ : ∃ x, x = graphCheck N l := ⟨_, rfl⟩
    rw [← hx] at h1 ⊢
    have HX := Lib.hid hx
    clear h0 hx
    go_wp2_with fail
    refine bodyPost_ret (v := .tuple #[.slice none 0 0, .int .i64 x]) (by simp [results, Tryd.results32, go_sem]) rfl ?_
    exact ⟨none, 0, 0, x, rfl, HB1.out, fun _ => ⟨HX.out, rfl⟩, fun h => absurd h H0.out⟩
end Go.Proofs.YtnpcbbdfpbnakaaDoor
