/- The first row of players: the program's search. Conditions: the words read as a list; the table. -/
import Derived.Test.YtnpcbbdfpbnakaaDoorRowP
import Derived.Test.YtnpcbbdfpbnakaaDoorPushFull
import Derived.Test.YtnpcbbdfpbnakaaDoorRegC
import Derived.Test.YtnpcbbdfpbnakaaDoorCollect
namespace Go.Proofs.YtnpcbbdfpbnakaaDoor
open Go.RowKit Go.Shelf
attribute [local go_sem] Oper.semAt_some
attribute [local go_sem ↓] w_and w_or w_xor w_andNot w_and1 w_and255 w_xor1 w_or0 w_shl w_shl1 w_shr w_sub w_add w_sub1 w_add1
attribute [local go_sem] w_eq0 w_ne0 w_eq1 w_eq w_ne

def intsOf (l : List Nat) : List Int := l.map fun j : Nat => (j : Int)
/-- What the search hands back. -/
def RowRes (r : Option (List Nat)) (R : Option Addr) (k cr : Nat) (w : World) : Prop :=
  match r with
  | some u => k = u.length ∧ Els w w.heap.size 1 icell R (intsOf u)
  | none => R = none ∧ k = 0 ∧ cr = 0

theorem wrap_le8 (q : Nat) (h1 : q ≤ 8) : IntKind.i64.wrap (q : Int) = (q : Int) := by
  have h : ∀ i : Fin 9, IntKind.i64.wrap ((i.val : Nat) : Int) = ((i.val : Nat) : Int) := by decide +kernel
  exact h ⟨q, by omega⟩
set_option maxRecDepth 100000 in
set_option maxHeartbeats 4000000 in
theorem beats_list (A : Option Addr) (n c : Nat) (t : List (BitVec 32)) (hl : t.length = n) (hn : n ≤ 8) (ring : Bool) (hr0 : ring = true → 0 < n) : ∀ (f : Nat) (l : List Nat) (L : Option Addr) (m cl : Nat) (w : World), l.length = m → m + f = n → RowOk n l → Els w w.heap.size 1 wcell A t → Els w w.heap.size 1 icell L (intsOf l) → m ≤ cl → (m = 0 → L = none ∧ cl = 0) → TabOk w →
    Calls Tryd.prog 59 #[.slice A n c, .slice L m cl, .int .u32 (wN (leftW n l)), .bool ring] w fun e w' => ∃ (R : Option Addr) (k cr : Nat), e = .returned (.slice R k cr) ∧ Below w.heap.size w w' ∧ RowRes (rowF t ring n f l) R k cr w' := by
  have HL := Lib.hid hl
  clear hl
  intro f
  induction f with
  | zero =>
    intro l L m cl w hlm hmf hok hrt hrl hmc hm0 htab
    have hz0 : leftW n l = w0 := (leftW_zero (by omega) hok).2 (by omega)
    have h0w : 0 < w.heap.size := Nat.lt_of_le_of_lt (Nat.zero_le _) htab.1
    have HOK := Lib.hid hok
    have HM := Lib.hid hlm
    have h00 : (w0 == w0) = true := rfl
    obtain ⟨S, hS⟩ : ∃ S, S = w.heap.size := ⟨_, rfl⟩
    rw [hz0]
    rw [← hS] at hrt hrl h0w ⊢
    have HRT := Lib.hid hrt
    have HRL := Lib.hid hrl
    obtain ⟨W1, hW1⟩ : ∃ W1, W1 = ((((w.alloc (.cells #[.slice A n c] 41)).alloc (.cells #[.slice L m cl] 32)).alloc (.cells #[.int .u32 (wN w0)] 46)).alloc (.cells #[.bool ring] 4)).alloc (.cells #[.slice none 0 0] 32) := ⟨_, rfl⟩
    have hB1 : Below S w W1 := by rw [hW1, hS]; exact ((((((Below.refl _ w).alloc (Nat.le_refl _) _).alloc (by simp) _).alloc (by first | (simp; done) | (simp; omega)) _).alloc (by first | (simp; done) | (simp; omega)) _).alloc (by first | (simp; done) | (simp; omega)) _)
    have hk0 : Blk W1 S 41 #[.slice A n c] := by rw [hW1, hS]; exact ((((Blk.new w _ _).alloc _).alloc _).alloc _).alloc _
    have hk1 : Blk W1 (S + 1) 32 #[.slice L m cl] := by rw [hW1, hS]; exact (((Blk.new_at (by simp)).alloc _).alloc _).alloc _
    have hk3 : Blk W1 (S + 1 + 1 + 1) 4 #[.bool ring] := by rw [hW1, hS]; exact (Blk.new_at (by simp)).alloc _
    have hk4 : Blk W1 (S + 1 + 1 + 1 + 1) 32 #[.slice none 0 0] := by rw [hW1, hS]; exact Blk.new_at (by simp)
    have HW1 := Lib.hid hW1
    have HS := Lib.hid hS
    have HB1 := Lib.hid hB1
    have HK0 := Lib.hid hk0
    have HK1 := Lib.hid hk1
    have HK3 := Lib.hid hk3
    have HK4 := Lib.hid hk4
    clear hok hlm hm0 htab hz0 hrt hrl hS hW1 hB1 hk0 hk1 hk3 hk4
    refine (callsIn_wide (n := 9)).1 ?_
    refine callsIn_of_wp_marks Tryd.func59 rfl trivial ?_ rfl
    simp only [Tryd.ntmps59, List.size_toArray, List.length_cons, List.length_nil, Nat.reduceAdd, Nat.reduceSub, Array.replicate_succ, Array.replicate_zero, List.push_toArray, List.append_toArray, List.nil_append, List.cons_append]
    cases ring with
    | false =>
      have e3 := HK3.out.cell 0
      have e1 := HK1.out.cell 0
      have e4 := HK4.out.cell 0
      have f4 := HK4.out.frozen 0
      gi_wp2_with fail
      rw [← HW1.out, ← HS.out]
      refine region_wide 99 18 (fun w' => w' = W1.drew) (by kernel_rfl) rfl ?_
      refine anyC_reads (by kernel_rfl) [0, 1, 2, 3, 4, 5, 6, 7, 8, 9, 10, 11, 12, 13, 14, 15, 16, 17] ?opz ?ohz 0 _ _ _ (by kernel_rfl) ?okz
      case ohz => (simp only [List.filterMap_cons, List.filterMap_nil, List.getElem?_toArray, List.getElem?_cons_zero, List.getElem?_cons_succ]; try rfl)
      case okz =>
        repeat (first
          | (refine readC_skip (by rfl) ?_
             go_simp)
          | (refine readC_step (v := ?_) rfl (fun w' hw' => ?_) ?_
             rotate_left
             focus (subst hw'; go_simp; try with_reducible rfl)
             go_simp))
        refine readC_nil ?_
        refine anyC_end (by kernel_rfl) (.inr rfl) ?_
        gi_wp2_with fail
        refine bodyPostM_ret (Marks.nil S _) fun w' hw' => ?_
        have hv := ((HK4.out.put 0 (.slice L m cl)).drew.shut hw').cell 0
        have hbe := (HB1.out.setCell (p := ⟨S + 1 + 1 + 1 + 1, 0, none⟩) (show S ≤ S + 1 + 1 + 1 + 1 by omega) (.slice L m cl)).drew.trans hw'.1
        exact ⟨.slice L m cl, by simp [results, Tryd.results59, go_sem, hv], L, m, cl, rfl, hbe, by rw [rowF, show endOk t false l = true from rfl]; exact ⟨HM.out.symm, (HRL.out.below hbe).more (by have := hbe.size; rw [HS.out]; exact this)⟩⟩
    | true =>
      obtain ⟨q, rfl⟩ : ∃ q, m = q + 1 := ⟨m - 1, by have := hr0 rfl; omega⟩
      have hlq : q < l.length := by rw [HM.out]; omega
      have hzl : lastN l = l[q] := by rw [lastN_at HM.out, List.getD_eq_getElem?_getD, List.getElem?_eq_getElem hlq]; rfl
      have hzn : lastN l < n := by rw [hzl]; exact HOK.out.2 _ (List.getElem_mem hlq)
      have hil : q < (intsOf l).length := by rw [intsOf, List.length_map]; exact hlq
      have hi0 : 0 < (intsOf l).length := by omega
      have hgl : (intsOf l)[q] = ((lastN l : Nat) : Int) := by rw [hzl]; simp [intsOf]
      have hg0 : (intsOf l)[0] = ((l.getD 0 0 : Nat) : Int) := by
        rw [List.getD_eq_getElem?_getD, List.getElem?_eq_getElem (show 0 < l.length by omega)]
        simp [intsOf]
      have hne0 : l.isEmpty = false := by
        cases hl0 : l with
        | nil => rw [hl0] at hlq; simp at hlq
        | cons a b => rfl
      have hend : endOk t true l = bitB (lw t (lastN l)) (l.getD 0 0 : Nat) := by unfold endOk; rw [hne0]; rfl
      obtain ⟨b4, off4, h4e, _, g4⟩ := (HRL.out.below HB1.out).at1 hi0
      obtain ⟨b2, off2, rfl, hb2, g2⟩ := (HRL.out.below HB1.out).at1 hil
      obtain ⟨rfl, rfl⟩ : b2 = b4 ∧ off2 = off4 := by injection h4e with h; injection h with h1 h2 h3; exact ⟨h1, h2⟩
      rw [hgl] at g2
      rw [hg0, Nat.add_zero] at g4
      have htl : lastN l < t.length := by rw [HL.out]; exact hzn
      obtain ⟨b3, off3, rfl, hb3, g3⟩ := (HRT.out.below HB1.out).at1 htl
      rw [← lw_at t _ htl] at g3
      obtain ⟨z, hz⟩ : ∃ z, z = lastN l := ⟨_, rfl⟩
      obtain ⟨y0, hy0⟩ : ∃ y, y = l.getD 0 0 := ⟨_, rfl⟩
      rw [← hz] at g2 g3 hzn hend
      rw [← hy0] at g4 hend
      have hwq : IntKind.i64.wrap (q : Int) = (q : Int) := wrap_le8 q (by omega)
      have hq1 : (q : Int) < (q : Int) + 1 := by omega
      have hq0 : (0 : Int) < (q : Int) + 1 := by omega
      have hzi : (z : Int) < (n : Int) := by omega
      have e0 := HK0.out.cell 0
      have e3 := HK3.out.cell 0
      have e1 := HK1.out.cell 0
      have e4 := HK4.out.cell 0
      have f4 := HK4.out.frozen 0
      have hbit := shr_and1_eq0 (lw t z) y0
      rw [← hend] at hbit
      have HEND0 : Hid (rowF t true n 0 l = if endOk t true l = true then some l else none) := Lib.hid rfl
      obtain ⟨be, hbe0⟩ : ∃ be, be = endOk t true l := ⟨_, rfl⟩
      rw [← hbe0] at hbit HEND0
      clear hgl hg0 hne0 hzl htl hz hlq hil hi0 hend hbe0 hy0 h4e hmf hr0
      gi_wp2_with fail
      rw [← HW1.out, ← HS.out]
      refine region_wide 99 18 (fun w' => w' = W1.drew) (by kernel_rfl) rfl ?_
      refine anyC_reads (by kernel_rfl) [0, 1, 2, 3, 4, 5, 6, 7, 8, 9, 10, 11, 12, 13, 14, 15, 16, 17] ?opy ?ohy 0 _ _ _ (by kernel_rfl) ?oky
      case ohy => (simp only [List.filterMap_cons, List.filterMap_nil, List.getElem?_toArray, List.getElem?_cons_zero, List.getElem?_cons_succ]; try rfl)
      case oky =>
        repeat (
          refine readC_step (v := ?_) rfl (fun w' hw' => ?_) ?_
          rotate_left
          focus (subst hw'; go_simp; try with_reducible rfl)
          go_simp)
        refine readC_nil ?_
        refine anyC_end (by kernel_rfl) (.inr rfl) ?_
        cases be with
        | true =>
          have HEND := Lib.hid HEND0.out
          clear HEND0
          gi_wp2_with fail
          refine bodyPostM_ret (Marks.nil S _) fun w' hw' => ?_
          have hv := ((HK4.out.put 0 (.slice (some ⟨b2, off2, none⟩) (q + 1) cl)).drew.shut hw').cell 0
          have hbe := (HB1.out.setCell (p := ⟨S + 1 + 1 + 1 + 1, 0, none⟩) (show S ≤ S + 1 + 1 + 1 + 1 by omega) (.slice (some ⟨b2, off2, none⟩) (q + 1) cl)).drew.trans hw'.1
          exact ⟨.slice (some ⟨b2, off2, none⟩) (q + 1) cl, by simp [results, Tryd.results59, go_sem, hv], some ⟨b2, off2, none⟩, q + 1, cl, rfl, hbe, by rw [HEND.out]; exact ⟨HM.out.symm, (HRL.out.below hbe).more (by have := hbe.size; rw [HS.out]; exact this)⟩⟩
        | false =>
          have HEND := Lib.hid HEND0.out
          clear HEND0
          gi_wp2_with fail
          refine bodyPostM_ret (Marks.nil S _) fun w' hw' => ?_
          have hv := ((HK4.out.put 0 (.slice none 0 0)).drew.shut hw').cell 0
          have hbe := (HB1.out.setCell (p := ⟨S + 1 + 1 + 1 + 1, 0, none⟩) (show S ≤ S + 1 + 1 + 1 + 1 by omega) (.slice none 0 0)).drew.trans hw'.1
          exact ⟨.slice none 0 0, by simp [results, Tryd.results59, go_sem, hv], none, 0, 0, rfl, hbe, by rw [HEND.out]; exact ⟨rfl, rfl, rfl⟩⟩
  | succ f ih =>
    intro l L m cl w hlm hmf hok hrt hrl hmc hm0 htab
    have hzn : leftW n l ≠ w0 := fun h => by have := (leftW_zero (by omega) hok).1 h; omega
    have h0w : 0 < w.heap.size := Nat.lt_of_le_of_lt (Nat.zero_le _) htab.1
    have HIH := Lib.hid ih
    have HOK := Lib.hid hok
    have HM := Lib.hid hlm
    have HM0 := Lib.hid hm0
    have HT := Lib.hid htab
    have hne : (leftW n l == w0) = false := by simpa using hzn
    obtain ⟨Y, hY⟩ : ∃ Y, Y = leftW n l := ⟨_, rfl⟩
    obtain ⟨S, hS⟩ : ∃ S, S = w.heap.size := ⟨_, rfl⟩
    rw [← hY] at hne ⊢
    rw [← hS] at hrt hrl h0w ⊢
    have h0S := h0w
    have HY := Lib.hid hY
    have HRT := Lib.hid hrt
    have HRL := Lib.hid hrl
    obtain ⟨W1, hW1⟩ : ∃ W1, W1 = ((((w.alloc (.cells #[.slice A n c] 41)).alloc (.cells #[.slice L m cl] 32)).alloc (.cells #[.int .u32 (wN Y)] 46)).alloc (.cells #[.bool ring] 4)).alloc (.cells #[.slice none 0 0] 32) := ⟨_, rfl⟩
    have hB1 : Below S w W1 := by rw [hW1, hS]; exact ((((((Below.refl _ w).alloc (Nat.le_refl _) _).alloc (by simp) _).alloc (by first | (simp; done) | (simp; omega)) _).alloc (by first | (simp; done) | (simp; omega)) _).alloc (by first | (simp; done) | (simp; omega)) _)
    have hk0 : Blk W1 S 41 #[.slice A n c] := by rw [hW1, hS]; exact ((((Blk.new w _ _).alloc _).alloc _).alloc _).alloc _
    have hk1 : Blk W1 (S + 1) 32 #[.slice L m cl] := by rw [hW1, hS]; exact (((Blk.new_at (by simp)).alloc _).alloc _).alloc _
    have hk2 : Blk W1 (S + 1 + 1) 46 #[.int .u32 (wN Y)] := by rw [hW1, hS]; exact ((Blk.new_at (by simp)).alloc _).alloc _
    have hk3 : Blk W1 (S + 1 + 1 + 1) 4 #[.bool ring] := by rw [hW1, hS]; exact (Blk.new_at (by simp)).alloc _
    have hk4 : Blk W1 (S + 1 + 1 + 1 + 1) 32 #[.slice none 0 0] := by rw [hW1, hS]; exact Blk.new_at (by simp)
    have hz1 : W1.heap.size = S + 1 + 1 + 1 + 1 + 1 := by rw [hW1, hS]; simp
    have HW1 := Lib.hid hW1
    have HS := Lib.hid hS
    have HB1 := Lib.hid hB1
    have HK0 := Lib.hid hk0
    have HK1 := Lib.hid hk1
    have HK2 := Lib.hid hk2
    have HK3 := Lib.hid hk3
    have HK4 := Lib.hid hk4
    clear ih hok hlm hm0 htab hzn hY hrt hrl hS hW1 hB1 hk0 hk1 hk2 hk3 hk4
    refine (callsIn_wide (n := 9)).1 ?_
    refine callsIn_of_wp_marks Tryd.func59 rfl trivial ?_ rfl
    simp only [Tryd.ntmps59, List.size_toArray, List.length_cons, List.length_nil, Nat.reduceAdd, Nat.reduceSub, Array.replicate_succ, Array.replicate_zero, List.push_toArray, List.append_toArray, List.nil_append, List.cons_append]
    rcases Nat.eq_zero_or_pos m with hmz | hmp
    · have hln : l = [] := List.length_eq_zero_iff.1 (HM.out.trans hmz)
      obtain ⟨hL0, hcl0⟩ := HM0.out hmz
      have HX : Hid (Y = nextW t n l) := Lib.hid (by rw [HY.out, nextW, hln]; rfl)
      have HMZ := Lib.hid hmz
      have hmc' : cl = 0 := hcl0
      have HL0 := Lib.hid hL0
      have hd : decide (0 < m) = false := by rw [hmz]; rfl
      clear hmz hln hL0 hcl0 hmc'
      gi_wp2_with fail
      refine wide_call2 ((graph_Each Y _).mono ?_)
      rintro e W3 ⟨rfl, rfl⟩
      gi_wp2_with fail
      rw [← HW1.out, ← HS.out]
      obtain ⟨W5, hW5⟩ : ∃ W5, W5 = W1.alloc (.cells #[.int .u32 (wN Y)] 46) := ⟨_, rfl⟩
      rw [← hW5]
      have HW5 := Lib.hid hW5
      clear hW5
      have hk5 : Blk W5 (S + 1 + 1 + 1 + 1 + 1) 46 #[.int .u32 (wN Y)] := by rw [HW5.out]; exact (Blk.new_at hz1)
      have hz5 : W5.heap.size = S + 1 + 1 + 1 + 1 + 1 + 1 := by rw [HW5.out]; exact (size_alloc' W1 _).trans (congrArg (· + 1) hz1)
      have hb5 : Below S w W5 := by rw [HW5.out]; exact (HB1.out.alloc (by omega) _)
      have q0 : Blk W5 S 41 #[.slice A n c] := by rw [HW5.out]; exact (HK0.out.alloc _)
      have q1 : Blk W5 (S + 1) 32 #[.slice L m cl] := by rw [HW5.out]; exact (HK1.out.alloc _)
      have q2 : Blk W5 (S + 1 + 1) 46 #[.int .u32 (wN Y)] := by rw [HW5.out]; exact (HK2.out.alloc _)
      have q3 : Blk W5 (S + 1 + 1 + 1) 4 #[.bool ring] := by rw [HW5.out]; exact (HK3.out.alloc _)
      have q4 : Blk W5 (S + 1 + 1 + 1 + 1) 32 #[.slice none 0 0] := by rw [HW5.out]; exact (HK4.out.alloc _)
      clear HK0 HK1 HK2 HK3 HK4 HB1 HW1 hz1
      have HB5 := Lib.hid hb5
      have HK0 := Lib.hid q0
      have HK1 := Lib.hid q1
      have HK2 := Lib.hid q2
      have HK3 := Lib.hid q3
      have HK4 := Lib.hid q4
      have HK5 := Lib.hid hk5
      clear HW5 hb5 q0 q1 q2 q3 q4 hk5
      have hk5b : Boxed W5 (S + 1 + 1 + 1 + 1 + 1) 46 (.int .u32 (wN Y)) := HK5.out
      have ht5 : TabOk W5 := HT.out.below HB5.out h0S
      refine wpIn_bits (p := 50) (q := 10) 9 83 (S + 1 + 1 + 1 + 1 + 1) 46 (.int .u32 (wN Y)) (bitsL Y) [S + 1 + 1 + 1 + 1, S + 1 + 1 + 1 + 1 + 1] rfl (enters_of Tryd.func83 (by kernel_rfl) rfl)
        (Each1_seq _ _ _ (by omega)) hk5b ht5 (by simp) (fun pre W => pre.findSome? (fun i => rowF t ring n f (l ++ [i])) = none ∧ Blk W (S + 1 + 1 + 1 + 1) 32 #[.slice none 0 0])
        (fun cd pre W => cd = .ret ∧ ∃ (u : List Nat) (R : Option Addr) (cr : Nat), pre.findSome? (fun i => rowF t ring n f (l ++ [i])) = some u ∧ Blk W (S + 1 + 1 + 1 + 1) 32 #[.slice R u.length cr] ∧ Els W W.heap.size 1 icell R (intsOf u))
        (fun s X Y row h hg hrow => ⟨h.1, blk_kept h.2 hg hrow⟩) (fun cd s X Y row h hg hrow => by obtain ⟨h1, u, R, cr, h2, h3, h4⟩ := h; exact ⟨h1, u, R, cr, h2, blk_kept h3 hg hrow, els_kept (fun _ => rfl) (by omega) h4 hg hrow⟩)
        (fun s X v h => ⟨h.1, h.2.far (show S + 1 + 1 + 1 + 1 ≠ S + 1 + 1 + 1 + 1 + 1 by omega) v⟩) ⟨rfl, HK4.out⟩ ?assign ?body ?done ?stop
      case assign =>
        intro l' j W K hK
        simp only [List.setIfInBounds_toArray, List.set_cons_succ, List.set_cons_zero] at hK ⊢
        gi_wp2_with fail
        exact hK
      case body =>
        intro l' pre j W hh hi hpre
        have hjX : j ∈ bitsL Y := by obtain ⟨z, hz⟩ := hpre; rw [← hz]; simp
        have hjb : (decide (j < n) && canGo t l j) = true := by rw [← nextW_bit (by omega), ← HX.out]; exact mem_bitsL.1 hjX
        have hjn : j < n := by rw [Bool.and_eq_true, decide_eq_true_iff] at hjb; exact hjb.1
        have hjc : l.contains j = false := by
          rw [Bool.and_eq_true] at hjb
          have := hjb.2
          unfold canGo at this
          rw [Bool.and_eq_true] at this
          simpa using this.1
        have hbW := HB5.out.trans (hh.to (B := S) (by omega) (by first | (simp; done) | (simp; omega)))
        have hSW := hh.size
        have HC : Hid (∀ w', Below W.heap.size W w' → w'.cell? ⟨S, 0, none⟩ = some (.slice A n c) ∧ w'.cell? ⟨S + 1, 0, none⟩ = some (.slice L m cl) ∧ w'.cell? ⟨S + 1 + 1, 0, none⟩ = some (.int .u32 (wN Y)) ∧ w'.cell? ⟨S + 1 + 1 + 1, 0, none⟩ = some (.bool ring)) := Lib.hid (fun w' hw' => by
          have q0 : Blk w' S _ _ := (hw'.block S (by omega)).trans ((hh.block S (by omega) (by first | (simp; done) | (simp; omega))).trans HK0.out)
          have q1 : Blk w' (S + 1) _ _ := (hw'.block (S + 1) (by omega)).trans ((hh.block (S + 1) (by omega) (by first | (simp; done) | (simp; omega))).trans HK1.out)
          have q2 : Blk w' (S + 1 + 1) _ _ := (hw'.block (S + 1 + 1) (by omega)).trans ((hh.block (S + 1 + 1) (by omega) (by first | (simp; done) | (simp; omega))).trans HK2.out)
          have q3 : Blk w' (S + 1 + 1 + 1) _ _ := (hw'.block (S + 1 + 1 + 1) (by omega)).trans ((hh.block (S + 1 + 1 + 1) (by omega) (by first | (simp; done) | (simp; omega))).trans HK3.out)
          exact ⟨q0.cell 0, q1.cell 0, q2.cell 0, q3.cell 0⟩)
        have hcut := run_cut_full (P := Tryd.prog) Tryd.underlying32 (s := 1) (fun w => by kernel_rfl) L m cl hmc
        have hRL := ((HRL.out.below hbW).more (show S ≤ W.heap.size by omega)).below ((Below.refl W.heap.size W).drew.alloc (Nat.le_refl _) (.cells #[.int .i64 (j : Int)] 3))
        obtain ⟨cap, w2, happ, hcap, hb2, hz2, he2⟩ := run_push_full (P := Tryd.prog) (t := 32) (ty := 32) (e := 3) Tryd.underlying32 (i := _) rfl rfl rfl rfl L m (intsOf l) (by rw [intsOf, List.length_map]; exact HM.out) (by omega) (fun h => (HM0.out h).1) (W.drew.alloc (.cells #[.int .i64 (j : Int)] 3)) _ hRL W.heap.size (j : Int) (by
          have := (Blk.new W.drew 3 #[.int .i64 (j : Int)]).cell 0
          exact this)
        have heq : intsOf l ++ [(j : Int)] = intsOf (l ++ [j]) := by simp [intsOf]
        have hsz8 : (W.drew.alloc (.cells #[.int .i64 (j : Int)] 3)).heap.size = W.heap.size + 1 := size_alloc' _ _
        rw [heq, hsz8] at he2
        rw [hsz8] at happ hb2 hz2
        have hbc : Below W.heap.size W (W.drew.alloc (.cells #[.int .i64 (j : Int)] 3)) := (Below.refl _ W).drew.alloc (Nat.le_refl _) _
        have hb2' : Below W.heap.size W w2 := hbc.trans (hb2.mono (by omega))
        have hbw2 : Below S w w2 := hbW.trans (hb2'.mono (by omega))
        have HCALL := Lib.hid (HIH.out (l ++ [j]) (some ⟨W.heap.size + 1, 0, none⟩) (m + 1) cap w2 (by rw [List.length_append, HM.out]; rfl) (by omega) (HOK.out.snoc hjn hjc) ((HRT.out.below hbw2).more (by omega)) he2 hcap (fun h => by omega) (HT.out.below hbw2 h0S))
        rw [leftW_snoc, ← HY.out] at HCALL
        have HH := Lib.hid hh
        have HI := Lib.hid hi
        have HBC := Lib.hid hbc
        have HB2 := Lib.hid hb2'
        have HJX := Lib.hid hjX
        have HPRE := Lib.hid hpre
        simp only [List.setIfInBounds_toArray, List.set_cons_succ, List.set_cons_zero]
        clear hh hi hbc hb2' hbw2 hb2 he2 hjb hjc hbW hRL heq hjX hpre
        gi_wp2_with fail
        refine region_round 15 17 (fun w' => Below W.heap.size W w') (by kernel_rfl) rfl (by kernel_rfl) ?_
        refine anyC_reads (by kernel_rfl) [0, 1, 2, 3, 4, 5, 6, 7, 10, 11, 12, 13, 14] ?opl ?ohl 4 _ _ _ (by kernel_rfl) ?okk
        case ohl => (simp only [List.filterMap_cons, List.filterMap_nil, List.getElem?_toArray, List.getElem?_cons_zero, List.getElem?_cons_succ]; try rfl)
        case okk =>
          repeat (
            refine readC_step (v := ?_) rfl (fun w' hw' => ?_) ?_
            rotate_left
            focus (obtain ⟨e0, e1, e2, e3⟩ := HC.out w' hw'; go_simp; try with_reducible rfl)
            go_simp)
          refine readC_nil ?_
          have hC0 : Below W.heap.size W W.drew := (Below.refl _ W).drew
          refine anyC_one (i := 8) (by kernel_rfl) rfl rfl (.inr hC0) ?_
          go_simp
          refine anyC_one (i := 9) (by kernel_rfl) rfl rfl (.inr HBC.out) ?_
          refine wp_append_run _ _ _ rfl _ _ rfl rfl _ _ happ ?_
          go_simp
          refine anyC_one (i := 15) (by kernel_rfl) rfl rfl (.inr HB2.out) ?_
          go_simp
          refine HCALL.out.mono ?_
          clear HCALL
          rintro e v3 ⟨R, k, cr, rfl, hb3, hres⟩
          have hbv : Below W.heap.size W v3 := HB2.out.trans (hb3.mono HB2.out.size)
          have hlt4 := HI.out.2.lt
          have hk4 : Blk v3 (S + 1 + 1 + 1 + 1) 32 #[.slice none 0 0] := (hbv.block _ hlt4).trans HI.out.2
          have c4 := hk4.cell 0
          have f4 := hk4.frozen 0
          have HBV := Lib.hid hbv
          have HK4V := Lib.hid hk4
          cases hrow : rowF t ring n f (l ++ [j]) with
          | none =>
            rw [hrow] at hres
            obtain ⟨rfl, rfl, rfl⟩ := hres
            have HROW := Lib.hid hrow
            clear hrow hb3 hbv hk4
            go_simp
            refine anyC_one (i := 16) (by kernel_rfl) rfl rfl (.inl (by kernel_rfl)) ?_
            go_simp
            refine anyC_end (by kernel_rfl) (.inl (by kernel_rfl)) ?_
            gi_wp2_with fail
            exact ⟨KeepsFrom.below HBV.out (Nat.le_refl _), KpE.below HBV.out (by omega) (by omega), HH.out.below HBV.out (Nat.le_refl _), findSome_more HI.out.1 HROW.out, HK4V.out⟩
          | some u =>
            rw [hrow] at hres
            obtain ⟨hkk, he3⟩ := hres
            have hul := rowF_length t ring n f _ _ hrow
            rw [List.length_append, HM.out, List.length_singleton] at hul
            obtain ⟨rb, ro, hR, _, _⟩ := he3 (by rw [intsOf, List.length_map]; omega)
            subst hR hkk
            have HROW := Lib.hid hrow
            have HE3 := Lib.hid he3
            clear hrow hb3 hbv hk4 he3 hul
            go_simp
            refine anyC_one (i := 16) (by kernel_rfl) rfl rfl (.inl (by kernel_rfl)) ?_
            go_simp
            refine anyC_end (by kernel_rfl) (.inl (by kernel_rfl)) ?_
            gi_wp2_with fail
            refine ⟨(KeepsFrom.below HBV.out (Nat.le_refl _)).trans (KeepsFrom.box (t := 32) HK4V.out _), (HH.out.below HBV.out (Nat.le_refl _)).setCell (p := ⟨S + 1 + 1 + 1 + 1, 0, none⟩) (by simp) _, rfl, u, some ⟨rb, ro, none⟩, cr, ?_, HK4V.out.put 0 _, els_far HE3.out HK4V.out (fun z h => (by cases h)) _⟩
            rw [List.findSome?_append, HI.out.1]
            simp [HROW.out]
      case done =>
        intro D W hD hh hi hdef
        have HH := Lib.hid hh
        have HI := Lib.hid hi
        have hk2 := hi.2
        have f2 := hk2.frozen 0
        have c2 := hk2.cell 0
        have hlt2 := hk2.lt
        have hmk := hh.mark (Marks.nil S W5) (by simp; exact ⟨⟨_, _, HK4.out⟩, ⟨_, _, HK5.out⟩⟩) (by omega) hD hdef
        have HM2 := Lib.hid (hmk.setCell (p := ⟨S + 1 + 1 + 1 + 1, 0, none⟩) (.slice none 0 0) (fun o ho he => by rw [show W.heap[S + 1 + 1 + 1 + 1]? = _ from hk2] at ho; cases ho; cases he))
        have HP2 := Lib.hid (hk2.put 0 (.slice none 0 0))
        clear hh hi hdef hk2 ht5 hk5b hmk
        gi_wp2_with fail
        refine bodyPostM_ret HM2.out fun w' hw' => ?_
        have hv := (HP2.out.shut hw').cell 0
        have hbe := (HB5.out.trans (HH.out.to (B := S) (by omega) (by simp; omega))).setCell (p := ⟨S + 1 + 1 + 1 + 1, 0, none⟩) (show S ≤ S + 1 + 1 + 1 + 1 by omega) (.slice none 0 0)
        exact ⟨.slice none 0 0, by simp [results, Tryd.results59, go_sem, hv], none, 0, 0, rfl, hbe.trans hw'.1, by rw [rowF_bits (by omega), ← HX.out, HI.out.1]; exact ⟨rfl, rfl, rfl⟩⟩
      case stop =>
        rintro D cd pre W hD hpre hh ⟨rfl, u, R, cr, hfs, hnb, hel⟩ hdef
        have HH := Lib.hid hh
        have HMK := Lib.hid (hh.mark (Marks.nil S W5) (by simp; exact ⟨⟨_, _, HK4.out⟩, ⟨_, _, HK5.out⟩⟩) (by omega) hD hdef)
        have HNB := Lib.hid hnb
        have HEL := Lib.hid hel
        have hall : rowF t ring n (f + 1) l = some u := by
          rw [rowF_bits (by omega), ← HX.out]
          obtain ⟨z, hz⟩ := hpre
          rw [← hz, List.findSome?_append, hfs]
          rfl
        have HALL := Lib.hid hall
        clear hh hdef hnb hfs hpre ht5 hk5b hel hall
        gi_wp2_with fail
        refine bodyPostM_ret HMK.out fun w' hw' => ?_
        have hv := (HNB.out.shut hw').cell 0
        exact ⟨.slice R u.length cr, by simp [results, Tryd.results59, go_sem, hv], R, u.length, cr, rfl, (HB5.out.trans (HH.out.to (B := S) (by omega) (by simp; omega))).trans hw'.1, by rw [HALL.out]; exact ⟨rfl, els_shut (fun _ => rfl) (by omega) HEL.out hw'⟩⟩
    · obtain ⟨q, rfl⟩ : ∃ q, m = q + 1 := ⟨m - 1, by omega⟩
      have hlq : q < l.length := by rw [HM.out]; omega
      have hzl : lastN l = l[q] := by rw [lastN_at HM.out, List.getD_eq_getElem?_getD, List.getElem?_eq_getElem hlq]; rfl
      have hzn : lastN l < n := by rw [hzl]; exact HOK.out.2 _ (List.getElem_mem hlq)
      have hil : q < (intsOf l).length := by rw [intsOf, List.length_map]; exact hlq
      have hgl : (intsOf l)[q] = ((lastN l : Nat) : Int) := by rw [hzl]; simp [intsOf]
      have hne0 : l.isEmpty = false := by
        cases hl0 : l with
        | nil => rw [hl0] at hlq; simp at hlq
        | cons a b => rfl
      have HX0 : Hid (wAnd Y (lw t (lastN l)) = nextW t n l) := Lib.hid (by rw [HY.out, nextW, hne0]; rfl)
      obtain ⟨b2, off2, rfl, hb2, g2⟩ := (HRL.out.below HB1.out).at1 hil
      rw [hgl] at g2
      have htl : lastN l < t.length := by rw [HL.out]; exact hzn
      obtain ⟨b3, off3, rfl, hb3, g3⟩ := (HRT.out.below HB1.out).at1 htl
      rw [← lw_at t _ htl] at g3
      obtain ⟨z, hz⟩ : ∃ z, z = lastN l := ⟨_, rfl⟩
      rw [← hz] at g2 g3 hzn HX0
      have e0 := HK0.out.cell 0
      have e1 := HK1.out.cell 0
      have e2 := HK2.out.cell 0
      have hwq : IntKind.i64.wrap (q : Int) = (q : Int) := wrap_le8 q (by omega)
      have hq1 : (q : Int) < (q : Int) + 1 := by omega
      have hzi : (z : Int) < (n : Int) := by omega
      have hq2 : (0 : Int) ≤ (q : Int) + 1 ∧ (q : Int) + 1 ≤ (cl : Int) := by omega
      have hq3 : (0 : Int) ≤ (q : Int) + 1 := by omega
      clear hgl hne0 hzl htl hz hlq hil
      gi_wp2_with fail
      rw [← HW1.out, ← HS.out]
      refine region_wide 99 12 (fun w' => w' = W1.drew) (by kernel_rfl) rfl ?_
      refine anyC_reads (by kernel_rfl) [0, 1, 2, 3, 4, 5, 6, 7, 8, 9, 10, 11] ?opm ?ohm 0 _ _ _ (by kernel_rfl) ?okm
      case ohm => (simp only [List.filterMap_cons, List.filterMap_nil, List.getElem?_toArray, List.getElem?_cons_zero, List.getElem?_cons_succ]; try rfl)
      case okm =>
        repeat (
          refine readC_step (v := ?_) rfl (fun w' hw' => ?_) ?_
          rotate_left
          focus (subst hw'; go_simp; try with_reducible rfl)
          go_simp)
        refine readC_nil ?_
        refine anyC_end (by kernel_rfl) (.inr rfl) ?_
        obtain ⟨X, hX⟩ : ∃ X, X = wAnd Y (lw t z) := ⟨_, rfl⟩
        rw [← hX] at HX0 ⊢
        have HX := HX0
        clear HX0 hX g2 g3 e0 e1 e2
        gi_wp2_with fail
        refine wide_call2 ((graph_Each X _).mono ?_)
        rintro e W3 ⟨rfl, rfl⟩
        gi_wp2_with fail
        obtain ⟨W5, hW5⟩ : ∃ W5, W5 = (W1.alloc (.cells #[.int .u32 (wN X)] 46)).drew := ⟨_, rfl⟩
        rw [← hW5]
        have HW5 := Lib.hid hW5
        clear hW5
        have hk5 : Blk W5 (S + 1 + 1 + 1 + 1 + 1) 46 #[.int .u32 (wN X)] := by rw [HW5.out]; exact (Blk.new_at hz1).drew
        have hz5 : W5.heap.size = S + 1 + 1 + 1 + 1 + 1 + 1 := by rw [HW5.out]; exact (size_alloc' W1 _).trans (congrArg (· + 1) hz1)
        have hb5 : Below S w W5 := by rw [HW5.out]; exact (HB1.out.alloc (by omega) _).drew
        have q0 : Blk W5 S 41 #[.slice (some ⟨b3, off3, none⟩) n c] := by rw [HW5.out]; exact (HK0.out.alloc _).drew
        have q1 : Blk W5 (S + 1) 32 #[.slice (some ⟨b2, off2, none⟩) (q + 1) cl] := by rw [HW5.out]; exact (HK1.out.alloc _).drew
        have q2 : Blk W5 (S + 1 + 1) 46 #[.int .u32 (wN Y)] := by rw [HW5.out]; exact (HK2.out.alloc _).drew
        have q3 : Blk W5 (S + 1 + 1 + 1) 4 #[.bool ring] := by rw [HW5.out]; exact (HK3.out.alloc _).drew
        have q4 : Blk W5 (S + 1 + 1 + 1 + 1) 32 #[.slice none 0 0] := by rw [HW5.out]; exact (HK4.out.alloc _).drew
        clear HK0 HK1 HK2 HK3 HK4 HB1 HW1 hz1
        have HB5 := Lib.hid hb5
        have HK0 := Lib.hid q0
        have HK1 := Lib.hid q1
        have HK2 := Lib.hid q2
        have HK3 := Lib.hid q3
        have HK4 := Lib.hid q4
        have HK5 := Lib.hid hk5
        clear HW5 hb5 q0 q1 q2 q3 q4 hk5
        have hk5b : Boxed W5 (S + 1 + 1 + 1 + 1 + 1) 46 (.int .u32 (wN X)) := HK5.out
        have ht5 : TabOk W5 := HT.out.below HB5.out h0S
        refine wpIn_bits (p := 50) (q := 10) 9 83 (S + 1 + 1 + 1 + 1 + 1) 46 (.int .u32 (wN X)) (bitsL X) [S + 1 + 1 + 1 + 1, S + 1 + 1 + 1 + 1 + 1] rfl (enters_of Tryd.func83 (by kernel_rfl) rfl)
          (Each1_seq _ _ _ (by omega)) hk5b ht5 (by simp) (fun pre W => pre.findSome? (fun i => rowF t ring n f (l ++ [i])) = none ∧ Blk W (S + 1 + 1 + 1 + 1) 32 #[.slice none 0 0])
          (fun cd pre W => cd = .ret ∧ ∃ (u : List Nat) (R : Option Addr) (cr : Nat), pre.findSome? (fun i => rowF t ring n f (l ++ [i])) = some u ∧ Blk W (S + 1 + 1 + 1 + 1) 32 #[.slice R u.length cr] ∧ Els W W.heap.size 1 icell R (intsOf u))
          (fun s X Y row h hg hrow => ⟨h.1, blk_kept h.2 hg hrow⟩) (fun cd s X Y row h hg hrow => by obtain ⟨h1, u, R, cr, h2, h3, h4⟩ := h; exact ⟨h1, u, R, cr, h2, blk_kept h3 hg hrow, els_kept (fun _ => rfl) (by omega) h4 hg hrow⟩)
          (fun s X v h => ⟨h.1, h.2.far (show S + 1 + 1 + 1 + 1 ≠ S + 1 + 1 + 1 + 1 + 1 by omega) v⟩) ⟨rfl, HK4.out⟩ ?assign ?body ?done ?stop
        case assign =>
          intro l' j W K hK
          simp only [List.setIfInBounds_toArray, List.set_cons_succ, List.set_cons_zero] at hK ⊢
          gi_wp2_with fail
          exact hK
        case body =>
          intro l' pre j W hh hi hpre
          have hjX : j ∈ bitsL X := by obtain ⟨z, hz⟩ := hpre; rw [← hz]; simp
          have hjb : (decide (j < n) && canGo t l j) = true := by rw [← nextW_bit (by omega), ← HX.out]; exact mem_bitsL.1 hjX
          have hjn : j < n := by rw [Bool.and_eq_true, decide_eq_true_iff] at hjb; exact hjb.1
          have hjc : l.contains j = false := by
            rw [Bool.and_eq_true] at hjb
            have := hjb.2
            unfold canGo at this
            rw [Bool.and_eq_true] at this
            simpa using this.1
          have hbW := HB5.out.trans (hh.to (B := S) (by omega) (by first | (simp; done) | (simp; omega)))
          have hSW := hh.size
          have HC : Hid (∀ w', Below W.heap.size W w' → w'.cell? ⟨S, 0, none⟩ = some (.slice (some ⟨b3, off3, none⟩) n c) ∧ w'.cell? ⟨S + 1, 0, none⟩ = some (.slice (some ⟨b2, off2, none⟩) (q + 1) cl) ∧ w'.cell? ⟨S + 1 + 1, 0, none⟩ = some (.int .u32 (wN Y)) ∧ w'.cell? ⟨S + 1 + 1 + 1, 0, none⟩ = some (.bool ring)) := Lib.hid (fun w' hw' => by
            have q0 : Blk w' S _ _ := (hw'.block S (by omega)).trans ((hh.block S (by omega) (by first | (simp; done) | (simp; omega))).trans HK0.out)
            have q1 : Blk w' (S + 1) _ _ := (hw'.block (S + 1) (by omega)).trans ((hh.block (S + 1) (by omega) (by first | (simp; done) | (simp; omega))).trans HK1.out)
            have q2 : Blk w' (S + 1 + 1) _ _ := (hw'.block (S + 1 + 1) (by omega)).trans ((hh.block (S + 1 + 1) (by omega) (by first | (simp; done) | (simp; omega))).trans HK2.out)
            have q3 : Blk w' (S + 1 + 1 + 1) _ _ := (hw'.block (S + 1 + 1 + 1) (by omega)).trans ((hh.block (S + 1 + 1 + 1) (by omega) (by first | (simp; done) | (simp; omega))).trans HK3.out)
            exact ⟨q0.cell 0, q1.cell 0, q2.cell 0, q3.cell 0⟩)
          have hcut := run_cut_full (P := Tryd.prog) Tryd.underlying32 (s := 1) (fun w => by kernel_rfl) (some ⟨b2, off2, none⟩) (q + 1) cl hmc
          have hRL := ((HRL.out.below hbW).more (show S ≤ W.heap.size by omega)).below ((Below.refl W.heap.size W).drew.alloc (Nat.le_refl _) (.cells #[.int .i64 (j : Int)] 3))
          obtain ⟨cap, w2, happ, hcap, hb2, hz2, he2⟩ := run_push_full (P := Tryd.prog) (t := 32) (ty := 32) (e := 3) Tryd.underlying32 (i := _) rfl rfl rfl rfl (some ⟨b2, off2, none⟩) (q + 1) (intsOf l) (by rw [intsOf, List.length_map]; exact HM.out) (by omega) (fun h => (HM0.out h).1) (W.drew.alloc (.cells #[.int .i64 (j : Int)] 3)) _ hRL W.heap.size (j : Int) (by
            have := (Blk.new W.drew 3 #[.int .i64 (j : Int)]).cell 0
            exact this)
          have heq : intsOf l ++ [(j : Int)] = intsOf (l ++ [j]) := by simp [intsOf]
          have hsz8 : (W.drew.alloc (.cells #[.int .i64 (j : Int)] 3)).heap.size = W.heap.size + 1 := size_alloc' _ _
          rw [heq, hsz8] at he2
          rw [hsz8] at happ hb2 hz2
          have hbc : Below W.heap.size W (W.drew.alloc (.cells #[.int .i64 (j : Int)] 3)) := (Below.refl _ W).drew.alloc (Nat.le_refl _) _
          have hb2' : Below W.heap.size W w2 := hbc.trans (hb2.mono (by omega))
          have hbw2 : Below S w w2 := hbW.trans (hb2'.mono (by omega))
          have HCALL := Lib.hid (HIH.out (l ++ [j]) (some ⟨W.heap.size + 1, 0, none⟩) ((q + 1) + 1) cap w2 (by rw [List.length_append, HM.out]; rfl) (by omega) (HOK.out.snoc hjn hjc) ((HRT.out.below hbw2).more (by omega)) he2 hcap (fun h => by omega) (HT.out.below hbw2 h0S))
          rw [leftW_snoc, ← HY.out] at HCALL
          have HH := Lib.hid hh
          have HI := Lib.hid hi
          have HBC := Lib.hid hbc
          have HB2 := Lib.hid hb2'
          have HJX := Lib.hid hjX
          have HPRE := Lib.hid hpre
          simp only [List.setIfInBounds_toArray, List.set_cons_succ, List.set_cons_zero]
          clear hh hi hbc hb2' hbw2 hb2 he2 hjb hjc hbW hRL heq hjX hpre
          gi_wp2_with fail
          refine region_round 15 17 (fun w' => Below W.heap.size W w') (by kernel_rfl) rfl (by kernel_rfl) ?_
          refine anyC_reads (by kernel_rfl) [0, 1, 2, 3, 4, 5, 6, 7, 10, 11, 12, 13, 14] ?opl ?ohl 4 _ _ _ (by kernel_rfl) ?okk
          case ohl => (simp only [List.filterMap_cons, List.filterMap_nil, List.getElem?_toArray, List.getElem?_cons_zero, List.getElem?_cons_succ]; try rfl)
          case okk =>
            repeat (
              refine readC_step (v := ?_) rfl (fun w' hw' => ?_) ?_
              rotate_left
              focus (obtain ⟨e0, e1, e2, e3⟩ := HC.out w' hw'; go_simp; try with_reducible rfl)
              go_simp)
            refine readC_nil ?_
            have hC0 : Below W.heap.size W W.drew := (Below.refl _ W).drew
            refine anyC_one (i := 8) (by kernel_rfl) rfl rfl (.inr hC0) ?_
            go_simp
            refine anyC_one (i := 9) (by kernel_rfl) rfl rfl (.inr HBC.out) ?_
            refine wp_append_run _ _ _ rfl _ _ rfl rfl _ _ happ ?_
            go_simp
            refine anyC_one (i := 15) (by kernel_rfl) rfl rfl (.inr HB2.out) ?_
            go_simp
            refine HCALL.out.mono ?_
            clear HCALL
            rintro e v3 ⟨R, k, cr, rfl, hb3, hres⟩
            have hbv : Below W.heap.size W v3 := HB2.out.trans (hb3.mono HB2.out.size)
            have hlt4 := HI.out.2.lt
            have hk4 : Blk v3 (S + 1 + 1 + 1 + 1) 32 #[.slice none 0 0] := (hbv.block _ hlt4).trans HI.out.2
            have c4 := hk4.cell 0
            have f4 := hk4.frozen 0
            have HBV := Lib.hid hbv
            have HK4V := Lib.hid hk4
            cases hrow : rowF t ring n f (l ++ [j]) with
            | none =>
              rw [hrow] at hres
              obtain ⟨rfl, rfl, rfl⟩ := hres
              have HROW := Lib.hid hrow
              clear hrow hb3 hbv hk4
              go_simp
              refine anyC_one (i := 16) (by kernel_rfl) rfl rfl (.inl (by kernel_rfl)) ?_
              go_simp
              refine anyC_end (by kernel_rfl) (.inl (by kernel_rfl)) ?_
              gi_wp2_with fail
              exact ⟨KeepsFrom.below HBV.out (Nat.le_refl _), KpE.below HBV.out (by omega) (by omega), HH.out.below HBV.out (Nat.le_refl _), findSome_more HI.out.1 HROW.out, HK4V.out⟩
            | some u =>
              rw [hrow] at hres
              obtain ⟨hkk, he3⟩ := hres
              have hul := rowF_length t ring n f _ _ hrow
              rw [List.length_append, HM.out, List.length_singleton] at hul
              obtain ⟨rb, ro, hR, _, _⟩ := he3 (by rw [intsOf, List.length_map]; omega)
              subst hR hkk
              have HROW := Lib.hid hrow
              have HE3 := Lib.hid he3
              clear hrow hb3 hbv hk4 he3 hul
              go_simp
              refine anyC_one (i := 16) (by kernel_rfl) rfl rfl (.inl (by kernel_rfl)) ?_
              go_simp
              refine anyC_end (by kernel_rfl) (.inl (by kernel_rfl)) ?_
              gi_wp2_with fail
              refine ⟨(KeepsFrom.below HBV.out (Nat.le_refl _)).trans (KeepsFrom.box (t := 32) HK4V.out _), (HH.out.below HBV.out (Nat.le_refl _)).setCell (p := ⟨S + 1 + 1 + 1 + 1, 0, none⟩) (by simp) _, rfl, u, some ⟨rb, ro, none⟩, cr, ?_, HK4V.out.put 0 _, els_far HE3.out HK4V.out (fun z h => (by cases h)) _⟩
              rw [List.findSome?_append, HI.out.1]
              simp [HROW.out]
        case done =>
          intro D W hD hh hi hdef
          have HH := Lib.hid hh
          have HI := Lib.hid hi
          have hk2 := hi.2
          have f2 := hk2.frozen 0
          have c2 := hk2.cell 0
          have hlt2 := hk2.lt
          have hmk := hh.mark (Marks.nil S W5) (by simp; exact ⟨⟨_, _, HK4.out⟩, ⟨_, _, HK5.out⟩⟩) (by omega) hD hdef
          have HM2 := Lib.hid (hmk.setCell (p := ⟨S + 1 + 1 + 1 + 1, 0, none⟩) (.slice none 0 0) (fun o ho he => by rw [show W.heap[S + 1 + 1 + 1 + 1]? = _ from hk2] at ho; cases ho; cases he))
          have HP2 := Lib.hid (hk2.put 0 (.slice none 0 0))
          clear hh hi hdef hk2 ht5 hk5b hmk
          gi_wp2_with fail
          refine bodyPostM_ret HM2.out fun w' hw' => ?_
          have hv := (HP2.out.shut hw').cell 0
          have hbe := (HB5.out.trans (HH.out.to (B := S) (by omega) (by simp; omega))).setCell (p := ⟨S + 1 + 1 + 1 + 1, 0, none⟩) (show S ≤ S + 1 + 1 + 1 + 1 by omega) (.slice none 0 0)
          exact ⟨.slice none 0 0, by simp [results, Tryd.results59, go_sem, hv], none, 0, 0, rfl, hbe.trans hw'.1, by rw [rowF_bits (by omega), ← HX.out, HI.out.1]; exact ⟨rfl, rfl, rfl⟩⟩
        case stop =>
          rintro D cd pre W hD hpre hh ⟨rfl, u, R, cr, hfs, hnb, hel⟩ hdef
          have HH := Lib.hid hh
          have HMK := Lib.hid (hh.mark (Marks.nil S W5) (by simp; exact ⟨⟨_, _, HK4.out⟩, ⟨_, _, HK5.out⟩⟩) (by omega) hD hdef)
          have HNB := Lib.hid hnb
          have HEL := Lib.hid hel
          have hall : rowF t ring n (f + 1) l = some u := by
            rw [rowF_bits (by omega), ← HX.out]
            obtain ⟨z, hz⟩ := hpre
            rw [← hz, List.findSome?_append, hfs]
            rfl
          have HALL := Lib.hid hall
          clear hh hdef hnb hfs hpre ht5 hk5b hel hall
          gi_wp2_with fail
          refine bodyPostM_ret HMK.out fun w' hw' => ?_
          have hv := (HNB.out.shut hw').cell 0
          exact ⟨.slice R u.length cr, by simp [results, Tryd.results59, go_sem, hv], R, u.length, cr, rfl, (HB5.out.trans (HH.out.to (B := S) (by omega) (by simp; omega))).trans hw'.1, by rw [HALL.out]; exact ⟨rfl, els_shut (fun _ => rfl) (by omega) HEL.out hw'⟩⟩
end Go.Proofs.YtnpcbbdfpbnakaaDoor
