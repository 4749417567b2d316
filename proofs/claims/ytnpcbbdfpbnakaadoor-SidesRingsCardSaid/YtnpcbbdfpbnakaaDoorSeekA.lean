/- The first ring of so many nodes from a node on: the program's search. Conditions: the words read as a list, the path lies in a row of its own; the table. -/
import Derived.Test.YtnpcbbdfpbnakaaDoorSeekP
namespace Go.Proofs.YtnpcbbdfpbnakaaDoor
open Go.RowKit Go.Shelf
attribute [local go_sem] Oper.semAt_some
attribute [local go_sem ↓] w_and w_or w_xor w_andNot w_and1 w_and255 w_xor1 w_or0 w_shl w_shl1 w_shr w_sub w_add w_sub1 w_add1
attribute [local go_sem] w_eq0 w_ne0 w_eq1 w_eq w_ne

/-- What the search hands back, and leaves in the seeker at Q. -/
def SkRes (r : Option (List Nat)) (e : Ending) (Q B m : Nat) (near size : Value) (g cr : Nat) (l : List Nat) (w : World) : Prop :=
  match r with
  | some u => e = .returned (.bool true) ∧ Blk w Q 84 #[near, .slice (some ⟨g, 0, none⟩) u.length cr, size] ∧ Own w B 3 1 icell (some ⟨g, 0, none⟩) cr (intsOf u)
  | none => e = .returned (.bool false) ∧ Blk w Q 84 #[near, .slice (some ⟨g, 0, none⟩) m cr, size] ∧ Own w B 3 1 icell (some ⟨g, 0, none⟩) cr (intsOf l)
theorem shr_and1_eq1 (x : BitVec 32) (i : Nat) : (wAnd (wShr x i) w1 == w1) = bitB x i := by
  have h := shr_and1_eq0 x i
  rcases bool_or (bitB x i) with hb | hb
  · rw [hb] at h ⊢
    have h2 : wAnd (wShr x i) w1 = w0 := by simpa using h
    rw [h2]
    rfl
  · rw [hb] at h ⊢
    have hne : wAnd (wShr x i) w1 ≠ w0 := by simpa using h
    rw [beq_iff_eq]
    refine w_ext fun j hj => ?_
    have hb0 : (wAnd (wShr x i) w1).getLsbD j = (x.getLsbD (i + j) && decide (j = 0)) := by rw [b_and, b_shr, b_1]
    rw [hb0, b_1]
    by_cases hj0 : j = 0
    · subst hj0
      rw [bitB_nat] at hb
      simp [hb]
    · simp [hj0]

set_option maxRecDepth 100000 in
set_option maxHeartbeats 4000000 in
theorem sides_on (N : Nat) (hN : N ≤ 10) (t : List (BitVec 32)) (ht : t.length = N) (A : Option Addr) (c size B Q : Nat) (hsN : size ≤ N) (hB0 : 0 < B) (hBQ : B ≤ Q) : ∀ (f : Nat) (l : List Nat) (g m cl : Nat) (w : World), l.length = m → m + f = size → 1 ≤ m → RowOk N l → Els w B 1 wcell A t →
    Blk w Q 84 #[.slice A N c, .slice (some ⟨g, 0, none⟩) m cl, .int .i64 size] → Own w B 3 1 icell (some ⟨g, 0, none⟩) cl (intsOf l) → TabOk w →
    Calls Tryd.prog 56 #[.pointer (some ⟨Q, 0, none⟩), .int .u32 (wN (leftW N l))] w fun e w' => ∃ g' cr : Nat, Held [Q, g] w w' ∧ (g' = g ∨ w.heap.size ≤ g') ∧ SkRes (rowF t true N f l) e Q B m (.slice A N c) (.int .i64 size) g' cr l w' := by
  have HL := Lib.hid ht
  clear ht
  intro f
  induction f with
  | zero =>
    intro l g m cl w hlm hmf h1m hok hrt hq hown htab
    have HOK := Lib.hid hok
    have HM := Lib.hid hlm
    have HT := Lib.hid htab
    have HQ := Lib.hid hq
    have HO := Lib.hid hown
    have hgQ : g ≠ Q := own_blk_ne hown hq (by decide)
    have hgl := own_lt hown
    have hQl := hq.lt
    obtain ⟨q, hmq⟩ : ∃ q, m = q + 1 := ⟨m - 1, by omega⟩
    have hlq : q < l.length := by rw [hlm]; omega
    have hzl : lastN l = l[q] := by rw [lastN_at (hlm.trans hmq), List.getD_eq_getElem?_getD, List.getElem?_eq_getElem hlq]; rfl
    have hzn : lastN l < N := by rw [hzl]; exact hok.2 _ (List.getElem_mem hlq)
    have hil : q < (intsOf l).length := by rw [intsOf, List.length_map]; exact hlq
    have hgl2 : (intsOf l)[q] = ((lastN l : Nat) : Int) := by rw [hzl]; simp [intsOf]
    have hne0 : l.isEmpty = false := by
      cases hl0 : l with
      | nil => rw [hl0] at hlq; simp at hlq
      | cons a b => rfl
    have HX0 : Hid (wAnd (lw t (lastN l)) (leftW N l) = nextW t N l) := Lib.hid (by rw [nextW, hne0, wAnd_comm]; rfl)
    obtain ⟨S, hS⟩ : ∃ S, S = w.heap.size := ⟨_, rfl⟩
    obtain ⟨Y, hY⟩ : ∃ Y, Y = leftW N l := ⟨_, rfl⟩
    rw [← hY] at HX0 ⊢
    have HY := Lib.hid hY
    obtain ⟨W1, hW1⟩ : ∃ W1, W1 = (((w.alloc (.cells #[.pointer (some ⟨Q, 0, none⟩)] 82)).alloc (.cells #[.int .u32 (wN Y)] 46)).alloc (.cells #[.bool false] 4)) := ⟨_, rfl⟩
    have hB1 : Below S w W1 := by rw [hW1, hS]; exact (((Below.refl _ w).alloc (Nat.le_refl _) _).alloc (by simp) _).alloc (by first | (simp; done) | (simp; omega)) _
    have hk0 : Blk W1 S 82 #[.pointer (some ⟨Q, 0, none⟩)] := by rw [hW1, hS]; exact ((Blk.new w _ _).alloc _).alloc _
    have hk1 : Blk W1 (S + 1) 46 #[.int .u32 (wN Y)] := by rw [hW1, hS]; exact (Blk.new_at (by simp)).alloc _
    have hk2 : Blk W1 (S + 1 + 1) 4 #[.bool false] := by rw [hW1, hS]; exact Blk.new_at (by simp)
    have hz1 : W1.heap.size = S + 1 + 1 + 1 := by rw [hW1, hS]; simp
    rw [← hS] at hgl hQl
    have hq1 : Blk W1 Q 84 #[.slice A N c, .slice (some ⟨g, 0, none⟩) m cl, .int .i64 size] := hq.below hB1 hQl
    have ho1 : Own W1 B 3 1 icell (some ⟨g, 0, none⟩) cl (intsOf l) := hown.below hB1 (by rw [hS]; exact Nat.le_refl _)
    have hrt1 : Els W1 B 1 wcell A t := hrt.below (hB1.mono (by omega))
    obtain ⟨g2', hge, _, _, e5, _⟩ := ho1.cell1 hil
    obtain rfl : g = g2' := by injection hge with h; injection h
    rw [hgl2] at e5
    have htl : lastN l < t.length := by rw [HL.out]; exact hzn
    obtain ⟨b3, off3, hAe, _, e6⟩ := hrt1.at1 htl
    rw [← lw_at t _ htl] at e6
    subst hAe
    obtain ⟨z, hz⟩ : ∃ z, z = lastN l := ⟨_, rfl⟩
    rw [← hz] at e5 e6 HX0 hzn
    have e0 := hk0.cell 0
    have e1 := hk1.cell 0
    have e2 := hk2.cell 0
    have e3 := hq1.cell 0
    have e4 := hq1.cell 1
    have e7 := hq1.cell 2
    have hwq : IntKind.i64.wrap (q : Int) = (q : Int) := wrap_le20 q (by omega)
    have hms : (m : Int) - 1 = (q : Int) := by omega
    have hqm : (q : Int) < (m : Int) := by omega
    have hq0 : (0 : Int) ≤ (q : Int) := by omega
    have hzi : (z : Int) < (N : Int) := by omega
    have hsz : m = size := by omega
    have hne : ((m : Int) == (size : Int)) = true := by simp; omega
    have hne2 : decide (m = size) = true := decide_eq_true hsz
    have HS := Lib.hid hS
    have HW1 := Lib.hid hW1
    have HB1 := Lib.hid hB1
    have HK0 := Lib.hid hk0
    have HK1 := Lib.hid hk1
    have HK2 := Lib.hid hk2
    have HQ1 := Lib.hid hq1
    have HO1 := Lib.hid ho1
    have HRT := Lib.hid hrt1
    have hi0 : 0 < (intsOf l).length := by omega
    have hg0 : (intsOf l)[0] = ((l.getD 0 0 : Nat) : Int) := by
      rw [List.getD_eq_getElem?_getD, List.getElem?_eq_getElem (show 0 < l.length by omega)]
      simp [intsOf]
    obtain ⟨g3', hge3, _, _, e8, _⟩ := ho1.cell1 hi0
    obtain rfl : g = g3' := by injection hge3 with h; injection h
    rw [hg0] at e8
    have hend : endOk t true l = bitB (lw t z) (l.getD 0 0 : Nat) := by unfold endOk; rw [hne0, hz]; rfl
    obtain ⟨y0, hy0⟩ : ∃ y, y = l.getD 0 0 := ⟨_, rfl⟩
    rw [← hy0] at e8 hend
    have hbit := shr_and1_eq1 (lw t z) y0
    rw [← hend] at hbit
    have HEND0 : Hid (rowF t true N 0 l = if endOk t true l = true then some l else none) := Lib.hid rfl
    obtain ⟨be, hbe0⟩ : ∃ be, be = endOk t true l := ⟨_, rfl⟩
    rw [← hbe0] at hbit HEND0
    have f2 := hk2.frozen 0
    have hm0 : (0 : Int) < (m : Int) := by omega
    have hm00 : 0 < m := h1m
    clear hi0 hg0 hge3 hend hbe0 hy0 hsz hmf
    clear hok hlm htab hq hown hrt hS hY hW1 hB1 hk0 hk1 hk2 hq1 ho1 hrt1 hil hgl2 hne0 hzl hlq hmq htl hz hge
    refine (callsIn_wide (n := 9)).1 ?_
    refine callsIn_of_wp_marks Tryd.func56 rfl trivial ?_ rfl
    simp only [Tryd.ntmps56, List.size_toArray, List.length_cons, List.length_nil, Nat.reduceAdd, Nat.reduceSub, Array.replicate_succ, Array.replicate_zero, List.push_toArray, List.append_toArray, List.nil_append, List.cons_append]
    gi_wp2_with fail
    rw [← HW1.out, ← HS.out]
    refine region_wide 99 13 (fun w' => w' = W1.drew) (by kernel_rfl) rfl ?_
    refine anyC_reads (by kernel_rfl) [0, 1, 2, 3, 4, 5, 6, 7, 8, 9, 10, 11, 12] ?opg ?ohg 0 _ _ _ (by kernel_rfl) ?okg
    case ohg => (simp only [List.filterMap_cons, List.filterMap_nil, List.getElem?_toArray, List.getElem?_cons_zero, List.getElem?_cons_succ]; try rfl)
    repeat (
      refine readC_step (v := ?_) rfl (fun w' hw' => ?_) ?_
      rotate_left
      focus (subst hw'; go_simp; try with_reducible rfl)
      go_simp)
    refine readC_nil ?_
    refine anyC_end (by kernel_rfl) (.inr rfl) ?_
    gi_wp2_with fail
    refine region_wide 99 10 (fun w' => w' = W1.drew.drew) (by kernel_rfl) rfl ?_
    refine anyC_reads (by kernel_rfl) [0, 1, 2, 3, 4, 5, 6, 7, 8, 9] ?oph ?ohh 0 _ _ _ (by kernel_rfl) ?okh
    case ohh => (simp only [List.filterMap_cons, List.filterMap_nil, List.getElem?_toArray, List.getElem?_cons_zero, List.getElem?_cons_succ]; try rfl)
    repeat (
      refine readC_step (v := ?_) rfl (fun w' hw' => ?_) ?_
      rotate_left
      focus (subst hw'; go_simp; try with_reducible rfl)
      go_simp)
    refine readC_nil ?_
    refine anyC_end (by kernel_rfl) (.inr rfl) ?_
    gi_wp2_with fail
    refine region_wide 16 17 (fun w' => w' = W1.drew.drew.drew) (by kernel_rfl) rfl ?_
    refine anyC_reads (by kernel_rfl) [0, 1, 2, 3, 4, 5, 6, 7, 8, 9, 10, 11, 12, 13, 14, 15] ?opi ?ohi 1 _ _ _ (by kernel_rfl) ?oki
    case ohi => (simp only [List.filterMap_cons, List.filterMap_nil, List.getElem?_toArray, List.getElem?_cons_zero, List.getElem?_cons_succ]; try rfl)
    repeat (
      refine readC_step (v := ?_) rfl (fun w' hw' => ?_) ?_
      rotate_left
      focus (subst hw'; go_simp; try with_reducible rfl)
      go_simp)
    refine readC_nil ?_
    refine anyC_one (i := 16) (by kernel_rfl) rfl rfl (.inr rfl) ?_
    go_simp
    refine anyC_end (by kernel_rfl) (.inl (by kernel_rfl)) ?_
    gi_wp2_with fail
    have hpb : Blk (W1.setCell ⟨S + 1 + 1, 0, none⟩ (.bool be)).drew.drew.drew (S + 1 + 1) 4 #[.bool be] := (HK2.out.put 0 (.bool be)).drew.drew.drew
    have hqq : Blk (W1.setCell ⟨S + 1 + 1, 0, none⟩ (.bool be)).drew.drew.drew Q 84 #[.slice (some ⟨b3, off3, none⟩) N c, .slice (some ⟨g, 0, none⟩) m cl, .int .i64 size] := (HQ1.out.far (p := ⟨S + 1 + 1, 0, none⟩) (show Q ≠ S + 1 + 1 by omega) _).drew.drew.drew
    have hgS2 : g = S + 1 + 1 → False := fun h => by omega
    have hoo : Own (W1.setCell ⟨S + 1 + 1, 0, none⟩ (.bool be)).drew.drew.drew B 3 1 icell (some ⟨g, 0, none⟩) cl (intsOf l) := (HO1.out.far (p := ⟨S + 1 + 1, 0, none⟩) (fun he => hgS2 (by injection he)) _).drew.drew.drew
    refine bodyPostM_ret (Marks.nil S _) fun w' hw' => ?_
    have hv := (hpb.shut hw').cell 0
    have hbe := (HB1.out.setCell (p := ⟨S + 1 + 1, 0, none⟩) (show S ≤ S + 1 + 1 by omega) (.bool be)).drew.drew.drew.trans hw'.1
    refine ⟨.bool be, by simp [results, Tryd.results56, go_sem, hv], g, cl, ⟨hbe.os, hbe.tape, hbe.output, hbe.size, fun k hk hx => hbe.block k (by rw [HS.out]; exact hk)⟩, .inl rfl, ?_⟩
    cases be with
    | true =>
      rw [HEND0.out]
      exact ⟨rfl, by rw [HM.out]; exact hqq.shut hw', hoo.shut hw'⟩
    | false =>
      rw [HEND0.out]
      exact ⟨rfl, hqq.shut hw', hoo.shut hw'⟩
  | succ f ih =>
    intro l g m cl w hlm hmf h1m hok hrt hq hown htab
    have HIH := Lib.hid ih
    have HOK := Lib.hid hok
    have HM := Lib.hid hlm
    have HT := Lib.hid htab
    have HQ := Lib.hid hq
    have HO := Lib.hid hown
    have hgQ : g ≠ Q := own_blk_ne hown hq (by decide)
    have hgl := own_lt hown
    have hQl := hq.lt
    obtain ⟨q, hmq⟩ : ∃ q, m = q + 1 := ⟨m - 1, by omega⟩
    have hlq : q < l.length := by rw [hlm]; omega
    have hzl : lastN l = l[q] := by rw [lastN_at (hlm.trans hmq), List.getD_eq_getElem?_getD, List.getElem?_eq_getElem hlq]; rfl
    have hzn : lastN l < N := by rw [hzl]; exact hok.2 _ (List.getElem_mem hlq)
    have hil : q < (intsOf l).length := by rw [intsOf, List.length_map]; exact hlq
    have hgl2 : (intsOf l)[q] = ((lastN l : Nat) : Int) := by rw [hzl]; simp [intsOf]
    have hne0 : l.isEmpty = false := by
      cases hl0 : l with
      | nil => rw [hl0] at hlq; simp at hlq
      | cons a b => rfl
    have HX0 : Hid (wAnd (lw t (lastN l)) (leftW N l) = nextW t N l) := Lib.hid (by rw [nextW, hne0, wAnd_comm]; rfl)
    obtain ⟨S, hS⟩ : ∃ S, S = w.heap.size := ⟨_, rfl⟩
    obtain ⟨Y, hY⟩ : ∃ Y, Y = leftW N l := ⟨_, rfl⟩
    rw [← hY] at HX0 ⊢
    have HY := Lib.hid hY
    obtain ⟨W1, hW1⟩ : ∃ W1, W1 = (((w.alloc (.cells #[.pointer (some ⟨Q, 0, none⟩)] 82)).alloc (.cells #[.int .u32 (wN Y)] 46)).alloc (.cells #[.bool false] 4)) := ⟨_, rfl⟩
    have hB1 : Below S w W1 := by rw [hW1, hS]; exact (((Below.refl _ w).alloc (Nat.le_refl _) _).alloc (by simp) _).alloc (by first | (simp; done) | (simp; omega)) _
    have hk0 : Blk W1 S 82 #[.pointer (some ⟨Q, 0, none⟩)] := by rw [hW1, hS]; exact ((Blk.new w _ _).alloc _).alloc _
    have hk1 : Blk W1 (S + 1) 46 #[.int .u32 (wN Y)] := by rw [hW1, hS]; exact (Blk.new_at (by simp)).alloc _
    have hk2 : Blk W1 (S + 1 + 1) 4 #[.bool false] := by rw [hW1, hS]; exact Blk.new_at (by simp)
    have hz1 : W1.heap.size = S + 1 + 1 + 1 := by rw [hW1, hS]; simp
    rw [← hS] at hgl hQl
    have hq1 : Blk W1 Q 84 #[.slice A N c, .slice (some ⟨g, 0, none⟩) m cl, .int .i64 size] := hq.below hB1 hQl
    have ho1 : Own W1 B 3 1 icell (some ⟨g, 0, none⟩) cl (intsOf l) := hown.below hB1 (by rw [hS]; exact Nat.le_refl _)
    have hrt1 : Els W1 B 1 wcell A t := hrt.below (hB1.mono (by omega))
    obtain ⟨g2', hge, _, _, e5, _⟩ := ho1.cell1 hil
    obtain rfl : g = g2' := by injection hge with h; injection h
    rw [hgl2] at e5
    have htl : lastN l < t.length := by rw [HL.out]; exact hzn
    obtain ⟨b3, off3, hAe, _, e6⟩ := hrt1.at1 htl
    rw [← lw_at t _ htl] at e6
    subst hAe
    obtain ⟨z, hz⟩ : ∃ z, z = lastN l := ⟨_, rfl⟩
    rw [← hz] at e5 e6 HX0 hzn
    have e0 := hk0.cell 0
    have e1 := hk1.cell 0
    have e2 := hk2.cell 0
    have e3 := hq1.cell 0
    have e4 := hq1.cell 1
    have e7 := hq1.cell 2
    have hwq : IntKind.i64.wrap (q : Int) = (q : Int) := wrap_le20 q (by omega)
    have hms : (m : Int) - 1 = (q : Int) := by omega
    have hqm : (q : Int) < (m : Int) := by omega
    have hq0 : (0 : Int) ≤ (q : Int) := by omega
    have hzi : (z : Int) < (N : Int) := by omega
    have hne : ((m : Int) == (size : Int)) = false := by simp; omega
    have hne2 : decide (m = size) = false := decide_eq_false (by omega)
    have HS := Lib.hid hS
    have HW1 := Lib.hid hW1
    have HB1 := Lib.hid hB1
    have HK0 := Lib.hid hk0
    have HK1 := Lib.hid hk1
    have HK2 := Lib.hid hk2
    have HQ1 := Lib.hid hq1
    have HO1 := Lib.hid ho1
    have HRT := Lib.hid hrt1
    clear ih hok hlm htab hq hown hrt hS hY hW1 hB1 hk0 hk1 hk2 hq1 ho1 hrt1 hil hgl2 hne0 hzl hlq hmq htl hz hge
    refine (callsIn_wide (n := 9)).1 ?_
    refine callsIn_of_wp_marks Tryd.func56 rfl trivial ?_ rfl
    simp only [Tryd.ntmps56, List.size_toArray, List.length_cons, List.length_nil, Nat.reduceAdd, Nat.reduceSub, Array.replicate_succ, Array.replicate_zero, List.push_toArray, List.append_toArray, List.nil_append, List.cons_append]
    gi_wp2_with fail
    rw [← HW1.out, ← HS.out]
    refine region_wide 99 13 (fun w' => w' = W1.drew) (by kernel_rfl) rfl ?_
    refine anyC_reads (by kernel_rfl) [0, 1, 2, 3, 4, 5, 6, 7, 8, 9, 10, 11, 12] ?opa ?oha 0 _ _ _ (by kernel_rfl) ?oka
    case oha => (simp only [List.filterMap_cons, List.filterMap_nil, List.getElem?_toArray, List.getElem?_cons_zero, List.getElem?_cons_succ]; try rfl)
    repeat (
      refine readC_step (v := ?_) rfl (fun w' hw' => ?_) ?_
      rotate_left
      focus (subst hw'; go_simp; try with_reducible rfl)
      go_simp)
    refine readC_nil ?_
    refine anyC_end (by kernel_rfl) (.inr rfl) ?_
    gi_wp2_with fail
    refine region_wide 99 10 (fun w' => w' = W1.drew.drew) (by kernel_rfl) rfl ?_
    refine anyC_reads (by kernel_rfl) [0, 1, 2, 3, 4, 5, 6, 7, 8, 9] ?opb ?ohb 0 _ _ _ (by kernel_rfl) ?okb
    case ohb => (simp only [List.filterMap_cons, List.filterMap_nil, List.getElem?_toArray, List.getElem?_cons_zero, List.getElem?_cons_succ]; try rfl)
    repeat (
      refine readC_step (v := ?_) rfl (fun w' hw' => ?_) ?_
      rotate_left
      focus (subst hw'; go_simp; try with_reducible rfl)
      go_simp)
    refine readC_nil ?_
    refine anyC_end (by kernel_rfl) (.inr rfl) ?_
    gi_wp2_with fail
    refine region_wide 9 10 (fun w' => w' = W1.drew.drew.drew) (by kernel_rfl) rfl ?_
    refine anyC_reads (by kernel_rfl) [0, 1, 2, 3, 4, 5, 6, 7, 8] ?opc ?ohc 1 _ _ _ (by kernel_rfl) ?okc
    case ohc => (simp only [List.filterMap_cons, List.filterMap_nil, List.getElem?_toArray, List.getElem?_cons_zero, List.getElem?_cons_succ]; try rfl)
    repeat (
      refine readC_step (v := ?_) rfl (fun w' hw' => ?_) ?_
      rotate_left
      focus (subst hw'; go_simp; try with_reducible rfl)
      go_simp)
    refine readC_nil ?_
    obtain ⟨X, hX⟩ : ∃ X, X = wAnd (lw t z) Y := ⟨_, rfl⟩
    rw [← hX] at HX0 ⊢
    have HX := HX0
    clear HX0 hX
    refine anyC_one (i := 9) (by kernel_rfl) rfl rfl (.inr rfl) ?_
    go_simp
    refine (graph_Each X _).mono ?_
    rintro e W3 ⟨rfl, rfl⟩
    go_simp
    refine anyC_end (by kernel_rfl) (.inl (by kernel_rfl)) ?_
    gi_wp2_with fail
    obtain ⟨W5, hW5⟩ : ∃ W5, W5 = (W1.alloc (.cells #[.int .u32 (wN X)] 46)).drew.drew.drew := ⟨_, rfl⟩
    rw [← hW5]
    have hk5 : Blk W5 (S + 1 + 1 + 1) 46 #[.int .u32 (wN X)] := by rw [hW5]; exact (Blk.new_at hz1).drew.drew.drew
    have hz5 : W5.heap.size = S + 1 + 1 + 1 + 1 := by rw [hW5]; exact (size_alloc' W1 _).trans (congrArg (· + 1) hz1)
    have hb5 : Below S w W5 := by rw [hW5]; exact (HB1.out.alloc (by omega) _).drew.drew.drew
    have q0 : Blk W5 S 82 #[.pointer (some ⟨Q, 0, none⟩)] := by rw [hW5]; exact (HK0.out.alloc _).drew.drew.drew
    have q1 : Blk W5 (S + 1) 46 #[.int .u32 (wN Y)] := by rw [hW5]; exact (HK1.out.alloc _).drew.drew.drew
    have q2 : Blk W5 (S + 1 + 1) 4 #[.bool false] := by rw [hW5]; exact (HK2.out.alloc _).drew.drew.drew
    have q3 : Blk W5 Q 84 #[.slice (some ⟨b3, off3, none⟩) N c, .slice (some ⟨g, 0, none⟩) m cl, .int .i64 size] := by rw [hW5]; exact (HQ1.out.alloc _).drew.drew.drew
    have q4 : Own W5 B 3 1 icell (some ⟨g, 0, none⟩) cl (intsOf l) := by rw [hW5]; exact (HO1.out.alloc _).drew.drew.drew
    have q5 : Els W5 B 1 wcell (some ⟨b3, off3, none⟩) t := by rw [hW5]; exact HRT.out.below (((Below.refl B W1).alloc (by omega) _).drew.drew.drew)
    clear HK0 HK1 HK2 HQ1 HO1 HRT HB1 HW1 hz1 hW5 e0 e1 e2 e3 e4 e5 e6 e7 HQ HO
    have HB5 := Lib.hid hb5
    have HK0 := Lib.hid q0
    have HK1 := Lib.hid q1
    have HK2 := Lib.hid q2
    have HQ5 := Lib.hid q3
    have HO5 := Lib.hid q4
    have HRT := Lib.hid q5
    have HK5 := Lib.hid hk5
    have hSw : S = w.heap.size := HS.out
    have hBS : B ≤ S := by omega
    have hS0 : 0 < S := by omega
    have htw : TabOk W5 := HT.out.below hb5 hS0
    have HSw := Lib.hid hSw
    clear hb5 q0 q1 q2 q3 q4 q5 hk5 hSw
    have hk5b : Boxed W5 (S + 1 + 1 + 1) 46 (.int .u32 (wN X)) := HK5.out
    have hbxne : ∀ g1 : Nat, (g1 = g ∨ W5.heap.size ≤ g1) → g1 = S + 1 + 1 + 1 → False := fun g1 h h2 => by
      have h3 := hz5
      have h4 := hgl.2
      omega
    have hbxne2 : ∀ g1 : Nat, (g1 = g ∨ W5.heap.size ≤ g1) → g1 = S + 1 + 1 → False := fun g1 h h2 => by
      have h3 := hz5
      have h4 := hgl.2
      omega
    have hmarks : ∀ (D : Nat) (W : World), W5.heap.size ≤ D → Held [Q, g, S + 1 + 1, S + 1 + 1 + 1] W5 W → W.heap[D]? = some (.deferred (some [])) → Marks S [{ target := .collected D, args := #[] }] W := fun D W hD hh hdef =>
      (Marks.nil S W5).cons rfl hD (by omega) (fun k hk he => (hh.block k hk (fun hm => by
        have hcell : (Obj.deferred (some [])).isCells = true := by
          simp only [List.mem_cons, List.not_mem_nil, or_false] at hm
          rcases hm with rfl | rfl | rfl | rfl
          · exact HQ5.out.isCells _ he
          · exact HO5.out.isCells _ he
          · exact HK2.out.isCells _ he
          · exact HK5.out.isCells _ he
        cases hcell)).trans he) hdef
    have hfin : ∀ (W W' : World), Held [Q, g, S + 1 + 1, S + 1 + 1 + 1] W5 W → Shut S W W' → Held [Q, g] w W' := fun W W' hh hw' =>
      ⟨hw'.1.os.trans (hh.os.trans HB5.out.os), hw'.1.tape.trans (hh.tape.trans HB5.out.tape), hw'.1.output.trans (hh.output.trans HB5.out.output), Nat.le_trans HB5.out.size (Nat.le_trans hh.size hw'.1.size), fun k hk hx => by
        have hkS : k < S := by rw [HSw.out]; exact hk
        have hkn : k ∉ [Q, g, S + 1 + 1, S + 1 + 1 + 1] := by simp at hx ⊢; omega
        exact (hw'.1.block k hkS).trans ((hh.block k (by omega) hkn).trans (HB5.out.block k hkS))⟩
    have hSw2 : w.heap.size = S := HSw.out.symm
    have HSW2 := Lib.hid hSw2
    clear hSw2
    refine wpIn_bits (p := 55) (q := 6) 9 83 (S + 1 + 1 + 1) 46 (.int .u32 (wN X)) (bitsL X) [Q, g, S + 1 + 1, S + 1 + 1 + 1] rfl (enters_of Tryd.func83 (by kernel_rfl) rfl)
      (Each1_seq _ _ _ (by omega)) hk5b htw (by simp)
      (fun pre W => ∃ g1 cl1 : Nat, pre.findSome? (fun i => rowF t true N f (l ++ [i])) = none ∧ Blk W Q 84 #[.slice (some ⟨b3, off3, none⟩) N c, .slice (some ⟨g1, 0, none⟩) m cl1, .int .i64 size] ∧ Own W B 3 1 icell (some ⟨g1, 0, none⟩) cl1 (intsOf l) ∧ (g1 = g ∨ W5.heap.size ≤ g1) ∧ Blk W (S + 1 + 1) 4 #[.bool false])
      (fun cd pre W => cd = .ret ∧ ∃ (u : List Nat) (g1 cr : Nat), pre.findSome? (fun i => rowF t true N f (l ++ [i])) = some u ∧ Blk W Q 84 #[.slice (some ⟨b3, off3, none⟩) N c, .slice (some ⟨g1, 0, none⟩) u.length cr, .int .i64 size] ∧ Own W B 3 1 icell (some ⟨g1, 0, none⟩) cr (intsOf u) ∧ (g1 = g ∨ W5.heap.size ≤ g1) ∧ Blk W (S + 1 + 1) 4 #[.bool true])
      (fun s X Y row h hg hrow => by obtain ⟨g1, cl1, h1, h2, h3, h4, h5⟩ := h; exact ⟨g1, cl1, h1, blk_kept h2 hg hrow, own_kept h3 hg hrow, h4, blk_kept h5 hg hrow⟩)
      (fun cd s X Y row h hg hrow => by obtain ⟨h0, u, g1, cr, h1, h2, h3, h4, h5⟩ := h; exact ⟨h0, u, g1, cr, h1, blk_kept h2 hg hrow, own_kept h3 hg hrow, h4, blk_kept h5 hg hrow⟩)
      (fun s X v h => by obtain ⟨g1, cl1, h1, h2, h3, h4, h5⟩ := h; exact ⟨g1, cl1, h1, h2.far (show Q ≠ S + 1 + 1 + 1 by omega) v, h3.far (fun he => hbxne g1 h4 (by injection he)) v, h4, h5.far (show S + 1 + 1 ≠ S + 1 + 1 + 1 by omega) v⟩)
      ⟨g, cl, rfl, HQ5.out, HO5.out, .inl rfl, HK2.out⟩ ?assign ?body ?done ?stop
    case assign =>
      intro l' j W K hK
      simp only [List.setIfInBounds_toArray, List.set_cons_succ, List.set_cons_zero] at hK ⊢
      gi_wp2_with fail
      exact hK
    case body =>
      intro l' pre j W hh hi hpre
      obtain ⟨g1, cl1, hfs, hqW, hoW, hg1, hk2W⟩ := hi
      have hjX : j ∈ bitsL X := by obtain ⟨z, hz⟩ := hpre; rw [← hz]; simp
      have hjb : (decide (j < N) && canGo t l j) = true := by rw [← nextW_bit (by omega), ← HX.out]; exact mem_bitsL.1 hjX
      have hjn : j < N := by rw [Bool.and_eq_true, decide_eq_true_iff] at hjb; exact hjb.1
      have hjc : l.contains j = false := by
        rw [Bool.and_eq_true] at hjb
        have := hjb.2
        unfold canGo at this
        rw [Bool.and_eq_true] at this
        simpa using this.1
      have hSW := hh.size
      have hgo1 := own_lt hoW
      have hg1Q : g1 ≠ Q := own_blk_ne hoW hqW (by decide)
      have hg1S : g1 ≠ S ∧ g1 ≠ S + 1 ∧ g1 ≠ S + 1 + 1 ∧ g1 ≠ S + 1 + 1 + 1 := by omega
      have hp0 : Blk W S 82 #[.pointer (some ⟨Q, 0, none⟩)] := HK0.out.held hh (by simp; omega)
      have hp1 : Blk W (S + 1) 46 #[.int .u32 (wN Y)] := HK1.out.held hh (by simp; omega)
      have hrtW : Els W B 1 wcell (some ⟨b3, off3, none⟩) t := HRT.out.below (hh.to (B := B) (by omega) (by simp; omega))
      have htW : TabOk W := htw.block hh.size (hh.block 0 (by omega) (by simp; omega))
      have hbc : Blk (W.drew.alloc (.cells #[.int .i64 (j : Int)] 3)) W.heap.size 3 #[.int .i64 (j : Int)] := Blk.new W.drew _ _
      have hlenI : (intsOf l).length = m := by rw [intsOf, List.length_map]; exact HM.out
      obtain ⟨A4, cap4, w4, happ, hown4, hgrow4, hloc4⟩ := run_append_els (P := Tryd.prog) 32 32 B 1 3 (.int .i64 0) 8 Tryd.underlying32 (by kernel_rfl) rfl (by omega) icell (W.drew.alloc (.cells #[.int .i64 (j : Int)] 3)) (some ⟨g1, 0, none⟩) m cl1 (intsOf l) hlenI (hoW.drew.alloc _)
        (some ⟨W.heap.size, 0, none⟩) 1 1 [(j : Int)] rfl (W.heap.size + 1) (by have := els_of_blk hbc 1 icell (fun _ => rfl) [(j : Int)] rfl; rwa [size_alloc'] at this) (by simp [Value.oneCell']) (by unfold maxLen; omega) (by omega) (by rw [size_alloc']; show B ≤ W.heap.size + 1; omega)
      have heq : intsOf l ++ [(j : Int)] = intsOf (l ++ [j]) := by simp [intsOf]
      rw [heq] at hown4
      obtain ⟨g4, hA4, hg4B, hg4w⟩ := hown4.form_ (by simp [intsOf])
      subst hA4
      have hsz8 : (W.drew.alloc (.cells #[.int .i64 (j : Int)] 3)).heap.size = W.heap.size + 1 := size_alloc' _ _
      have hg4 : g4 = g1 ∨ g4 = W.heap.size + 1 := by
        rcases hloc4 with h | h
        · left; injection h
        · right; rw [hsz8] at h; injection h
      have hh4 : Held [g1] W w4 := (((Held.refl [g1] W).drew1).alloc (.cells #[.int .i64 (j : Int)] 3)).turned hgrow4 (by simp)
      have hq4 : Blk w4 Q 84 #[.slice (some ⟨b3, off3, none⟩) N c, .slice (some ⟨g1, 0, none⟩) m cl1, .int .i64 size] := hqW.held hh4 (by simp; omega)
      have hp04 : Blk w4 S 82 #[.pointer (some ⟨Q, 0, none⟩)] := hp0.held hh4 (by simp; omega)
      have hQlt := hqW.lt
      have hc4 : w4.cell? ⟨S, 0, none⟩ = some (.pointer (some ⟨Q, 0, none⟩)) ∧ w4.cell? ⟨Q, 1, none⟩ = some (.slice (some ⟨g1, 0, none⟩) m cl1) := ⟨hp04.cell 0, hq4.cell 1⟩
      have hc0 : W.drew.cell? ⟨S, 0, none⟩ = some (.pointer (some ⟨Q, 0, none⟩)) ∧ W.drew.cell? ⟨Q, 1, none⟩ = some (.slice (some ⟨g1, 0, none⟩) m cl1) := ⟨hp0.drew.cell 0, hqW.drew.cell 1⟩
      have hc1 : (W.drew.alloc (.cells #[.int .i64 (j : Int)] 3)).cell? ⟨S, 0, none⟩ = some (.pointer (some ⟨Q, 0, none⟩)) ∧ (W.drew.alloc (.cells #[.int .i64 (j : Int)] 3)).cell? ⟨Q, 1, none⟩ = some (.slice (some ⟨g1, 0, none⟩) m cl1) := ⟨(hp0.drew.alloc _).cell 0, (hqW.drew.alloc _).cell 1⟩
      have f4 := hq4.frozen 1
      have c41 := hq4.cell 1
      have HC4 := Lib.hid hc4
      have HC0 := Lib.hid hc0
      have HC1 := Lib.hid hc1
      have HQ4 := Lib.hid hq4
      have HP04 := Lib.hid hp04
      have HP14 := Lib.hid (hp1.held hh4 (by simp; omega))
      have HK24 := Lib.hid (hk2W.held hh4 (by simp; omega))
      have HRT4 := Lib.hid (hrtW.below (hh4.to (B := B) (by omega) (by simp; omega)))
      have HT4 := Lib.hid (htW.block hh4.size (hh4.block 0 (by omega) (by simp; omega)))
      have HO4 := Lib.hid hown4
      have HH4 := Lib.hid hh4
      have HH := Lib.hid hh
      have HFS := Lib.hid hfs
      have HOW := Lib.hid hoW
      have HQW := Lib.hid hqW
      have HOKJ := Lib.hid (HOK.out.snoc hjn hjc)
      have hsz4 := hh4.size
      simp only [List.setIfInBounds_toArray, List.set_cons_succ, List.set_cons_zero]
      clear hh hfs hqW hoW hk2W hpre hjX hjb hjc hrtW htW hbc hown4 hgrow4 hloc4 heq hq4 hp04 hc4 hc0 hc1 hh4 hp0 hp1 hlenI
      gi_wp2_with fail
      refine region_round 10 11 (fun w' => w'.cell? ⟨S, 0, none⟩ = some (.pointer (some ⟨Q, 0, none⟩)) ∧ w'.cell? ⟨Q, 1, none⟩ = some (.slice (some ⟨g1, 0, none⟩) m cl1)) (by kernel_rfl) rfl (by kernel_rfl) ?_
      refine anyC_reads (by kernel_rfl) [0, 1, 2, 3, 4, 5] ?opd ?ohd 5 _ _ _ (by kernel_rfl) ?okd
      case ohd => (simp only [List.filterMap_cons, List.filterMap_nil, List.getElem?_toArray, List.getElem?_cons_zero, List.getElem?_cons_succ]; try rfl)
      repeat (
        refine readC_step (v := ?_) rfl (fun w' hw' => ?_) ?_
        rotate_left
        focus (obtain ⟨s0, s1⟩ := hw'; go_simp; try with_reducible rfl)
        go_simp)
      refine readC_nil ?_
      refine anyC_one (i := 6) (by kernel_rfl) rfl rfl (.inr HC0.out) ?_
      go_simp
      refine anyC_one (i := 7) (by kernel_rfl) rfl rfl (.inr HC1.out) ?_
      refine wp_append_run _ _ _ rfl _ _ rfl rfl _ _ happ ?_
      go_simp
      refine anyC_one (i := 8) (by kernel_rfl) rfl rfl (.inr HC4.out) ?_
      go_simp
      refine anyC_one (i := 9) (by kernel_rfl) rfl rfl (.inr HC4.out) ?_
      go_simp
      refine anyC_one (i := 10) (by kernel_rfl) rfl rfl (.inr HC4.out) ?_
      go_simp
      refine anyC_end (by kernel_rfl) (.inl (by kernel_rfl)) ?_
      gi_wp2_with fail
      obtain ⟨W6, hW6⟩ : ∃ W6, W6 = w4.setCell ⟨Q, 1, none⟩ (.slice (some ⟨g4, 0, none⟩) (m + 1) cap4) := ⟨_, rfl⟩
      rw [← hW6]
      have hg4Q : g4 ≠ Q := own_blk_ne HO4.out HQ4.out (by decide)
      have hg4S : g4 ≠ S ∧ g4 ≠ S + 1 ∧ g4 ≠ S + 1 + 1 ∧ g4 ≠ S + 1 + 1 + 1 := by omega
      have hz6 : W6.heap.size = w4.heap.size := by rw [hW6]; simp [World.setCell]
      have hq6 : Blk W6 Q 84 #[.slice (some ⟨b3, off3, none⟩) N c, .slice (some ⟨g4, 0, none⟩) (m + 1) cap4, .int .i64 size] := by rw [hW6]; exact HQ4.out.put 1 _
      have ho6 : Own W6 B 3 1 icell (some ⟨g4, 0, none⟩) cap4 (intsOf (l ++ [j])) := by rw [hW6]; exact HO4.out.far (p := ⟨Q, 1, none⟩) (fun he => hg4Q (by injection he)) _
      have hp06 : Blk W6 S 82 #[.pointer (some ⟨Q, 0, none⟩)] := by rw [hW6]; exact HP04.out.far (p := ⟨Q, 1, none⟩) (show S ≠ Q by omega) _
      have hp16 : Blk W6 (S + 1) 46 #[.int .u32 (wN Y)] := by rw [hW6]; exact HP14.out.far (p := ⟨Q, 1, none⟩) (show S + 1 ≠ Q by omega) _
      have hk26 : Blk W6 (S + 1 + 1) 4 #[.bool false] := by rw [hW6]; exact HK24.out.far (p := ⟨Q, 1, none⟩) (show S + 1 + 1 ≠ Q by omega) _
      have hh6 : Held [Q, g1] W W6 := by rw [hW6]; exact (HH4.out.mono (ex' := [Q, g1]) (fun k hk _ => by simp at hk ⊢; omega)).setCell (p := ⟨Q, 1, none⟩) (by simp) _
      have hrt6 : Els W6 B 1 wcell (some ⟨b3, off3, none⟩) t := by rw [hW6]; exact HRT4.out.below ((Below.refl B w4).setCell (p := ⟨Q, 1, none⟩) hBQ _)
      have htb6 : TabOk W6 := HT4.out.block (by rw [hz6]; exact Nat.le_refl _) (by rw [hW6]; exact Below.heap_setCell w4 ⟨Q, 1, none⟩ _ 0 (show (0 : Nat) ≠ Q by omega))
      have HCALL := Lib.hid (HIH.out (l ++ [j]) g4 (m + 1) cap4 W6.drew (by rw [List.length_append, HM.out]; rfl) (by omega) (by omega) HOKJ.out (hrt6.below (Below.refl B W6).drew) hq6.drew ho6.drew (htb6.block (Nat.le_refl _) rfl))
      rw [leftW_snoc, ← HY.out] at HCALL
      have r0 := hp06.cell 0
      have r1 := hp16.cell 0
      have HQ6 := Lib.hid hq6
      have HO6 := Lib.hid ho6
      have HP06 := Lib.hid hp06
      have HK26 := Lib.hid hk26
      have HH6 := Lib.hid hh6
      clear hW6 hq6 ho6 hp06 hp16 hk26 hh6 hrt6 htb6 f4 c41 happ HC0 HC1 HC4
      refine region_round 5 6 (fun w' => w' = W6.drew) (by kernel_rfl) rfl (by kernel_rfl) ?_
      refine anyC_reads (by kernel_rfl) [0, 1, 2, 3, 4] ?ope ?ohe 1 _ _ _ (by kernel_rfl) ?oke
      case ohe => (simp only [List.filterMap_cons, List.filterMap_nil, List.getElem?_toArray, List.getElem?_cons_zero, List.getElem?_cons_succ]; try rfl)
      repeat (
        refine readC_step (v := ?_) rfl (fun w' hw' => ?_) ?_
        rotate_left
        focus (subst hw'; go_simp; try with_reducible rfl)
        go_simp)
      refine readC_nil ?_
      refine anyC_one (i := 5) (by kernel_rfl) rfl rfl (.inr rfl) ?_
      go_simp
      refine HCALL.out.mono ?_
      clear HCALL
      rintro e v7 ⟨g7, cr7, hh7, hg7, hres⟩
      have hs6 : W6.drew.heap.size = W6.heap.size := rfl
      rw [hs6] at hg7
      have hg7c : g7 = g ∨ W5.heap.size ≤ g7 := by omega
      have hg7S : g7 ≠ S ∧ g7 ≠ S + 1 ∧ g7 ≠ S + 1 + 1 ∧ g7 ≠ S + 1 + 1 + 1 := by omega
      have hall : Held [Q, g1] W v7 := HH6.out.then (b := W6) (Held.then (ex := [Q, g4]) ((Held.refl [Q, g4] W6).drew1) hh7 (fun i hi _ => hi)) (fun i hi hlt => by simp at hi ⊢; omega)
      have hk7 : Blk v7 (S + 1 + 1) 4 #[.bool false] := HK26.out.drew.held hh7 (by simp; omega)
      have hp7 : Blk v7 S 82 #[.pointer (some ⟨Q, 0, none⟩)] := HP06.out.drew.held hh7 (by simp; omega)
      have hkf : KeepsFrom W5.heap.size W v7 := KeepsFrom.held hall (fun k hk o ho => by
        simp only [List.mem_cons, List.not_mem_nil, or_false] at hk
        rcases hk with rfl | rfl
        · exact HQW.out.isCells o ho
        · exact HOW.out.isCells o ho)
      have hkp : KpE (S + 1 + 1 + 1) 46 W v7 := KpE.held hall (by simp; omega) (by simp; omega)
      have hhx : Held [Q, g, S + 1 + 1, S + 1 + 1 + 1] W5 v7 := HH.out.then hall (fun i hi hlt => by simp at hi ⊢; omega)
      have HALL := Lib.hid hall
      have HK7 := Lib.hid hk7
      have HP7 := Lib.hid hp7
      have HKF := Lib.hid hkf
      have HKP := Lib.hid hkp
      have HHX := Lib.hid hhx
      cases hrow : rowF t true N f (l ++ [j]) with
      | some u =>
        rw [hrow] at hres
        obtain ⟨rfl, hq7, ho7⟩ := hres
        have HROW := Lib.hid hrow
        have HQ7 := Lib.hid hq7
        have HO7 := Lib.hid ho7
        have c7 := hk7.cell 0
        have f7 := hk7.frozen 0
        clear hrow hq7 ho7 hall hk7 hp7 hkf hkp hhx hh7
        go_simp
        refine anyC_end (by kernel_rfl) (.inl (by kernel_rfl)) ?_
        gi_wp2_with fail
        refine ⟨HKF.out.trans (KeepsFrom.box (t := 4) HK7.out _), HHX.out.setCell (p := ⟨S + 1 + 1, 0, none⟩) (by simp) _, rfl, u, g7, cr7, ?_, HQ7.out.far (p := ⟨S + 1 + 1, 0, none⟩) (show Q ≠ S + 1 + 1 by omega) _, HO7.out.far (p := ⟨S + 1 + 1, 0, none⟩) (fun he => hg7S.2.2.1 (by injection he)) _, hg7c, HK7.out.put 0 _⟩
        rw [List.findSome?_append, HFS.out]
        simp [HROW.out]
      | none =>
        rw [hrow] at hres
        obtain ⟨rfl, hq7, ho7⟩ := hres
        have hcr := ho7.cap_le
        rw [intsOf, List.length_map, List.length_append, HM.out, List.length_singleton] at hcr
        have heq7 : intsOf (l ++ [j]) = intsOf l ++ [(j : Int)] := by simp [intsOf]
        have hpop : Own v7 B 3 1 icell (some ⟨g7, 0, none⟩) cr7 (intsOf l) := by rw [heq7] at ho7; exact ho7.pop
        have hg7Q : g7 ≠ Q := own_blk_ne ho7 hq7 (by decide)
        have HROW := Lib.hid hrow
        have HQ7 := Lib.hid hq7
        have HPOP := Lib.hid hpop
        have c70 := hp7.cell 0
        have c71 := hq7.cell 1
        have f71 := hq7.frozen 1
        have hwm : IntKind.i64.wrap (m : Int) = (m : Int) := wrap_le20 m (by omega)
        have hm0 : (0 : Int) ≤ (m : Int) ∧ (m : Int) ≤ (cr7 : Int) := by omega
        have hm1 : (m : Int) ≤ (cr7 : Int) := by omega
        clear hrow hq7 ho7 hall hk7 hp7 hkf hkp hhx hh7 hpop heq7
        go_simp
        refine anyC_end (by kernel_rfl) (.inl (by kernel_rfl)) ?_
        gi_wp2_with fail
        refine region_round 14 15 (fun w' => w' = v7.drew) (by kernel_rfl) rfl (by kernel_rfl) ?_
        refine anyC_reads (by kernel_rfl) [0, 1, 2, 3, 4, 5, 6, 7, 8, 9, 10, 11, 12, 13] ?opf ?ohf 1 _ _ _ (by kernel_rfl) ?okf
        case ohf => (simp only [List.filterMap_cons, List.filterMap_nil, List.getElem?_toArray, List.getElem?_cons_zero, List.getElem?_cons_succ]; try rfl)
        repeat (
          refine readC_step (v := ?_) rfl (fun w' hw' => ?_) ?_
          rotate_left
          focus (subst hw'; go_simp; try with_reducible rfl)
          go_simp)
        refine readC_nil ?_
        refine anyC_one (i := 14) (by kernel_rfl) rfl rfl (.inr rfl) ?_
        go_simp
        refine anyC_end (by kernel_rfl) (.inl (by kernel_rfl)) ?_
        gi_wp2_with fail
        have hsx : Held [Q] v7 (v7.setCell ⟨Q, 1, none⟩ (.slice (some ⟨g7, 0, none⟩) m cr7)) := (Held.refl [Q] v7).setCell (p := ⟨Q, 1, none⟩) (by simp) _
        have hkx : KeepsFrom W5.heap.size v7 (v7.setCell ⟨Q, 1, none⟩ (.slice (some ⟨g7, 0, none⟩) m cr7)) := KeepsFrom.held hsx (fun k hk o ho => by
          simp only [List.mem_cons, List.not_mem_nil, or_false] at hk
          subst hk
          exact HQ7.out.isCells o ho)
        have hkpx : KpE (S + 1 + 1 + 1) 46 v7 (v7.setCell ⟨Q, 1, none⟩ (.slice (some ⟨g7, 0, none⟩) m cr7)) := KpE.held hsx (by simp; omega) (by simp; omega)
        exact ⟨KeepsFrom.drew (HKF.out.trans hkx), (HKP.out.trans hkpx).drew, (HHX.out.setCell (p := ⟨Q, 1, none⟩) (by simp) _).drew1, g7, cr7, findSome_more HFS.out HROW.out, (HQ7.out.put 1 _).drew, (HPOP.out.far (p := ⟨Q, 1, none⟩) (fun he => hg7Q (by injection he)) _).drew, hg7c, (HK7.out.far (p := ⟨Q, 1, none⟩) (show S + 1 + 1 ≠ Q by omega) _).drew⟩
    case done =>
      intro D W hD hh hi hdef
      obtain ⟨g1, cl1, hfs, hqW, hoW, hg1, hk2W⟩ := hi
      have HMK := Lib.hid (hmarks D W hD hh hdef)
      have f2 := hk2W.frozen 0
      have c2 := hk2W.cell 0
      have HM2 := Lib.hid (HMK.out.setCell (p := ⟨S + 1 + 1, 0, none⟩) (.bool false) (fun o ho he => by rw [show W.heap[S + 1 + 1]? = _ from hk2W] at ho; cases ho; cases he))
      have HQ2 := Lib.hid (hqW.far (p := ⟨S + 1 + 1, 0, none⟩) (show Q ≠ S + 1 + 1 by omega) (.bool false))
      have HO2 := Lib.hid (hoW.far (p := ⟨S + 1 + 1, 0, none⟩) (fun he => hbxne2 g1 hg1 (by injection he)) (.bool false))
      have HP2 := Lib.hid (hk2W.put 0 (.bool false))
      have HHH := Lib.hid (hh.setCell (p := ⟨S + 1 + 1, 0, none⟩) (by simp) (.bool false))
      have HFS := Lib.hid hfs
      clear hh hdef hfs hqW hoW hk2W HMK htw hk5b
      gi_wp2_with fail
      refine bodyPostM_ret HM2.out fun w' hw' => ?_
      have hv := (HP2.out.shut hw').cell 0
      refine ⟨.bool false, by simp [results, Tryd.results56, go_sem, hv], g1, cl1, hfin _ _ HHH.out hw', by rw [HSW2.out]; omega, ?_⟩
      rw [rowF_bits (by omega), ← HX.out, HFS.out]
      exact ⟨rfl, HQ2.out.shut hw', HO2.out.shut hw'⟩
    case stop =>
      rintro D cd pre W hD hpre hh ⟨rfl, u, g1, cr, hfs, hqW, hoW, hg1, hk2W⟩ hdef
      have HMK := Lib.hid (hmarks D W hD hh hdef)
      have HQ2 := Lib.hid hqW
      have HO2 := Lib.hid hoW
      have HP2 := Lib.hid hk2W
      have HHH := Lib.hid hh
      have hall : rowF t true N (f + 1) l = some u := by
        rw [rowF_bits (by omega), ← HX.out]
        obtain ⟨z, hz⟩ := hpre
        rw [← hz, List.findSome?_append, hfs]
        rfl
      have HALL := Lib.hid hall
      clear hh hdef hfs hqW hoW hk2W hpre htw hk5b hall
      gi_wp2_with fail
      refine bodyPostM_ret HMK.out fun w' hw' => ?_
      have hv := (HP2.out.shut hw').cell 0
      refine ⟨.bool true, by simp [results, Tryd.results56, go_sem, hv], g1, cr, hfin _ _ HHH.out hw', by rw [HSW2.out]; omega, ?_⟩
      rw [HALL.out]
      exact ⟨rfl, HQ2.out.shut hw', HO2.out.shut hw'⟩
end Go.Proofs.YtnpcbbdfpbnakaaDoor
