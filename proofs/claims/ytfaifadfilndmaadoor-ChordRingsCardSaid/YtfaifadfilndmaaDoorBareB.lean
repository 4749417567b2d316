/- Rings without a short cut: the program's search. Conditions: the words read as a list, the path lies in a row of its own; the table. -/
import Derived.Test.YtfaifadfilndmaaDoorBareA
import Derived.IntWalk
namespace Go.Proofs.YtfaifadfilndmaaDoor
open Go.RowKit Go.Shelf
attribute [local go_sem] Oper.semAt_some
attribute [local go_sem ↓] w_and w_or w_xor w_andNot w_and1 w_and255 w_xor1 w_or0 w_shl w_shl1 w_shr w_sub w_add w_sub1 w_add1
attribute [local go_sem] w_eq0 w_ne0 w_eq1 w_eq w_ne

/-- What the search hands back, and leaves in the seeker at Q. -/
def BkRes (r : Option (List Nat)) (e : Ending) (Q B m : Nat) (near size : Value) (g cr : Nat) (l : List Nat) (w : World) : Prop :=
  match r with
  | some u => e = .returned (.bool true) ∧ Blk w Q 81 #[near, .slice (some ⟨g, 0, none⟩) u.length cr, size] ∧ Own w B 3 1 icell (some ⟨g, 0, none⟩) cr (intsOf u)
  | none => e = .returned (.bool false) ∧ Blk w Q 81 #[near, .slice (some ⟨g, 0, none⟩) m cr, size] ∧ Own w B 3 1 icell (some ⟨g, 0, none⟩) cr (intsOf l)
def stepB (t : List (BitVec 32)) (N f : Nat) (l : List Nat) (i : Nat) : Option (List Nat) := if pickB t l i (f == 0) then bareF t N f (l ++ [i]) else none

set_option maxRecDepth 100000 in
set_option maxHeartbeats 8000000 in
theorem chord_on (N : Nat) (hN : N ≤ 10) (t : List (BitVec 32)) (ht : t.length = N) (A : Option Addr) (c size B Q : Nat) (hsN : size ≤ N) (hB0 : 0 < B) (hBQ : B ≤ Q) : ∀ (f : Nat) (l : List Nat) (g m cl : Nat) (w : World), l.length = m → m + f = size → 1 ≤ m → RowOk N l → Els w B 1 wcell A t →
    Blk w Q 81 #[.slice A N c, .slice (some ⟨g, 0, none⟩) m cl, .int .i64 size] → Own w B 3 1 icell (some ⟨g, 0, none⟩) cl (intsOf l) → TabOk w →
    Calls Tryd.prog 51 #[.pointer (some ⟨Q, 0, none⟩), .int .u32 (wN (leftW N l))] w fun e w' => ∃ g' cr : Nat, Held [Q, g] w w' ∧ (g' = g ∨ w.heap.size ≤ g') ∧ BkRes (bareF t N f l) e Q B m (.slice A N c) (.int .i64 size) g' cr l w' := by
  have HL := Lib.hid ht
  clear ht
  intro f
  induction f with
  | zero =>
    intro l g m cl w hlm hmf h1m hok hrt hq hown htab
    have HM := Lib.hid hlm
    have hgQ : g ≠ Q := own_blk_ne hown hq (by decide)
    have hgl := own_lt hown
    have hQl := hq.lt
    obtain ⟨S, hS⟩ : ∃ S, S = w.heap.size := ⟨_, rfl⟩
    obtain ⟨Y, hY⟩ : ∃ Y, Y = leftW N l := ⟨_, rfl⟩
    rw [← hY]
    obtain ⟨W1, hW1⟩ : ∃ W1, W1 = ((((w.alloc (.cells #[.pointer (some ⟨Q, 0, none⟩)] 79)).alloc (.cells #[.int .u32 (wN Y)] 58)).alloc (.cells #[.bool false] 4)).alloc (.cells #[.int .i64 m] 3)) := ⟨_, rfl⟩
    have hB1 : Below S w W1 := by rw [hW1, hS]; exact ((((Below.refl _ w).alloc (Nat.le_refl _) _).alloc (by simp) _).alloc (by first | (simp; done) | (simp; omega)) _).alloc (by first | (simp; done) | (simp; omega)) _
    have hk0 : Blk W1 S 79 #[.pointer (some ⟨Q, 0, none⟩)] := by rw [hW1, hS]; exact (((Blk.new w _ _).alloc _).alloc _).alloc _
    have hk2 : Blk W1 (S + 1 + 1) 4 #[.bool false] := by rw [hW1, hS]; exact (Blk.new_at (by simp)).alloc _
    have hk3 : Blk W1 (S + 1 + 1 + 1) 3 #[.int .i64 m] := by rw [hW1, hS]; exact Blk.new_at (by simp)
    rw [← hS] at hgl hQl
    have hq0 : Blk w Q 81 #[.slice A N c, .slice (some ⟨g, 0, none⟩) m cl, .int .i64 size] := hq
    have hq1 : Blk W1 Q 81 #[.slice A N c, .slice (some ⟨g, 0, none⟩) m cl, .int .i64 size] := hq.below hB1 hQl
    have ho1 : Own W1 B 3 1 icell (some ⟨g, 0, none⟩) cl (intsOf l) := hown.below hB1 (by rw [hS]; exact Nat.le_refl _)
    have e0 := hk0.cell 0
    have e2 := hk2.cell 0
    have f2 := hk2.frozen 0
    have e3 := hk3.cell 0
    have e4 := hq1.cell 2
    have d1 := hq1.cell 1
    have hsz : m = size := by omega
    have hne : ((m : Int) == (size : Int)) = true := by simp; omega
    have hne2 : decide (m = size) = true := decide_eq_true hsz
    have HS := Lib.hid hS
    have HW1 := Lib.hid hW1
    have HB1 := Lib.hid hB1
    have HK2 := Lib.hid hk2
    have HQ1 := Lib.hid hq1
    have HO1 := Lib.hid ho1
    have hb00 : Below S w (((w.alloc (.cells #[.pointer (some ⟨Q, 0, none⟩)] 79)).alloc (.cells #[.int .u32 (wN Y)] 58)).alloc (.cells #[.bool false] 4)) := by rw [hS]; exact (((Below.refl _ w).alloc (Nat.le_refl _) _).alloc (by simp) _).alloc (by first | (simp; done) | (simp; omega)) _
    have d10 := (hq0.below hb00 hQl).cell 1
    have d00 := (((Blk.new w 79 #[.pointer (some ⟨Q, 0, none⟩)]).alloc (.cells #[.int .u32 (wN Y)] 58)).alloc (.cells #[.bool false] 4)).cell 0
    clear hok hlm htab hq hq0 hown hrt hS hY hW1 hB1 hk0 hk2 hk3 hq1 ho1 hmf hsz hb00
    refine (callsIn_wide (n := 9)).1 ?_
    refine callsIn_of_wp_marks Tryd.func51 rfl trivial ?_ rfl
    simp only [Tryd.ntmps51, List.size_toArray, List.length_cons, List.length_nil, Nat.reduceAdd, Nat.reduceSub, Array.replicate_succ, Array.replicate_zero, List.push_toArray, List.append_toArray, List.nil_append, List.cons_append]
    gi_wp2_with fail
    rw [← HW1.out, ← HS.out]
    refine region_wide 99 6 (fun w' => w' = W1.drew) (by kernel_rfl) rfl ?_
    refine anyC_reads (by kernel_rfl) [0, 1, 2, 3, 4, 5] ?opg ?ohg 0 _ _ _ (by kernel_rfl) ?okg
    case ohg => (simp only [List.filterMap_cons, List.filterMap_nil, List.getElem?_toArray, List.getElem?_cons_zero, List.getElem?_cons_succ]; try rfl)
    repeat (
      refine readC_step (v := ?_) rfl (fun w' hw' => ?_) ?_
      rotate_left
      focus (subst hw'; go_simp; try with_reducible rfl)
      go_simp)
    refine readC_nil ?_
    refine anyC_end (by kernel_rfl) (.inr rfl) ?_
    gi_wp2_with fail
    have hpb : Blk (W1.setCell ⟨S + 1 + 1, 0, none⟩ (.bool true)).drew (S + 1 + 1) 4 #[.bool true] := (HK2.out.put 0 (.bool true)).drew
    have hqq : Blk (W1.setCell ⟨S + 1 + 1, 0, none⟩ (.bool true)).drew Q 81 #[.slice A N c, .slice (some ⟨g, 0, none⟩) m cl, .int .i64 size] := (HQ1.out.far (p := ⟨S + 1 + 1, 0, none⟩) (show Q ≠ S + 1 + 1 by omega) _).drew
    have hgS2 : g = S + 1 + 1 → False := fun h => by omega
    have hoo : Own (W1.setCell ⟨S + 1 + 1, 0, none⟩ (.bool true)).drew B 3 1 icell (some ⟨g, 0, none⟩) cl (intsOf l) := (HO1.out.far (p := ⟨S + 1 + 1, 0, none⟩) (fun he => hgS2 (by injection he)) _).drew
    refine bodyPostM_ret (Marks.nil S _) fun w' hw' => ?_
    have hv := (hpb.shut hw').cell 0
    have hbe := (HB1.out.setCell (p := ⟨S + 1 + 1, 0, none⟩) (show S ≤ S + 1 + 1 by omega) (.bool true)).drew.trans hw'.1
    refine ⟨.bool true, by simp [results, Tryd.results51, go_sem, hv], g, cl, ⟨hbe.os, hbe.tape, hbe.output, hbe.size, fun k hk hx => hbe.block k (by rw [HS.out]; exact hk)⟩, .inl rfl, ?_⟩
    exact ⟨rfl, by rw [HM.out]; exact hqq.shut hw', hoo.shut hw'⟩
  | succ f ih =>
    intro l g m cl w hlm hmf h1m hok hrt hq hown htab
    have HIH := Lib.hid ih
    have HOK := Lib.hid hok
    have HM := Lib.hid hlm
    have HT := Lib.hid htab
    have hgQ : g ≠ Q := own_blk_ne hown hq (by decide)
    have hgl := own_lt hown
    have hQl := hq.lt
    obtain ⟨q, hmq⟩ : ∃ q, m = q + 1 := ⟨m - 1, by omega⟩
    have hlq : q < l.length := by rw [hlm]; omega
    have hzl : lastN l = l[q] := by rw [lastN_at (hlm.trans hmq), List.getD_eq_getElem?_getD, List.getElem?_eq_getElem hlq]; rfl
    have hzn : lastN l < N := by rw [hzl]; exact hok.2 _ (List.getElem_mem hlq)
    have hil : q < (intsOf l).length := by rw [intsOf, List.length_map]; exact hlq
    have hgl2 : (intsOf l)[q] = ((lastN l : Nat) : Int) := by rw [hzl]; simp [intsOf]
    have hne0 : l.isEmpty = false := by
      cases hl0 : l with
      | nil => rw [hl0] at hlq; simp at hlq
      | cons a b => rfl
    have HX0 : Hid (wAnd (lw t (lastN l)) (leftW N l) = nextW t N l) := Lib.hid (by rw [nextW, hne0, wAnd_comm]; rfl)
    have HWT : Hid (∀ i, pickB t l i (f == 0) = (wAnd (lw t i) (seenW l) == wantW l (f == 0))) := Lib.hid (fun i => by unfold pickB; rw [hne0, Bool.false_or])
    obtain ⟨S, hS⟩ : ∃ S, S = w.heap.size := ⟨_, rfl⟩
    obtain ⟨Y, hY⟩ : ∃ Y, Y = leftW N l := ⟨_, rfl⟩
    rw [← hY] at HX0 ⊢
    have HY := Lib.hid hY
    obtain ⟨W1, hW1⟩ : ∃ W1, W1 = ((((w.alloc (.cells #[.pointer (some ⟨Q, 0, none⟩)] 79)).alloc (.cells #[.int .u32 (wN Y)] 58)).alloc (.cells #[.bool false] 4)).alloc (.cells #[.int .i64 m] 3)) := ⟨_, rfl⟩
    have hB1 : Below S w W1 := by rw [hW1, hS]; exact ((((Below.refl _ w).alloc (Nat.le_refl _) _).alloc (by simp) _).alloc (by first | (simp; done) | (simp; omega)) _).alloc (by first | (simp; done) | (simp; omega)) _
    have hk0 : Blk W1 S 79 #[.pointer (some ⟨Q, 0, none⟩)] := by rw [hW1, hS]; exact (((Blk.new w _ _).alloc _).alloc _).alloc _
    have hk1 : Blk W1 (S + 1) 58 #[.int .u32 (wN Y)] := by rw [hW1, hS]; exact ((Blk.new_at (by simp)).alloc _).alloc _
    have hk2 : Blk W1 (S + 1 + 1) 4 #[.bool false] := by rw [hW1, hS]; exact (Blk.new_at (by simp)).alloc _
    have hk3 : Blk W1 (S + 1 + 1 + 1) 3 #[.int .i64 m] := by rw [hW1, hS]; exact Blk.new_at (by simp)
    have hz1 : W1.heap.size = S + 1 + 1 + 1 + 1 := by rw [hW1, hS]; simp
    rw [← hS] at hgl hQl
    have hq0 : Blk w Q 81 #[.slice A N c, .slice (some ⟨g, 0, none⟩) m cl, .int .i64 size] := hq
    have hq1 : Blk W1 Q 81 #[.slice A N c, .slice (some ⟨g, 0, none⟩) m cl, .int .i64 size] := hq.below hB1 hQl
    have ho1 : Own W1 B 3 1 icell (some ⟨g, 0, none⟩) cl (intsOf l) := hown.below hB1 (by rw [hS]; exact Nat.le_refl _)
    have hrt1 : Els W1 B 1 wcell A t := hrt.below (hB1.mono (by omega))
    have hb00 : Below S w (((w.alloc (.cells #[.pointer (some ⟨Q, 0, none⟩)] 79)).alloc (.cells #[.int .u32 (wN Y)] 58)).alloc (.cells #[.bool false] 4)) := by rw [hS]; exact (((Below.refl _ w).alloc (Nat.le_refl _) _).alloc (by simp) _).alloc (by first | (simp; done) | (simp; omega)) _
    have d10 := (hq0.below hb00 hQl).cell 1
    have d00 := (((Blk.new w 79 #[.pointer (some ⟨Q, 0, none⟩)]).alloc (.cells #[.int .u32 (wN Y)] 58)).alloc (.cells #[.bool false] 4)).cell 0
    have htl : lastN l < t.length := by rw [HL.out]; exact hzn
    obtain ⟨b3, off3, hAe, hb3B, hrest3⟩ := hrt1.at1 htl
    subst hAe
    obtain ⟨z, hz⟩ : ∃ z, z = lastN l := ⟨_, rfl⟩
    rw [← hz] at HX0 hzn hgl2
    have HZL := Lib.hid hz
    have e0 := hk0.cell 0
    have e3 := hk3.cell 0
    have e4 := hq1.cell 2
    have hwq : IntKind.i64.wrap (q : Int) = (q : Int) := wrap_le20 q (by omega)
    have hms : (m : Int) - 1 = (q : Int) := by omega
    have hqm : (q : Int) < (m : Int) := by omega
    have hqm2 : q < m := by omega
    have hq0' : (0 : Int) ≤ (q : Int) := by omega
    have hzi : (z : Int) < (N : Int) := by omega
    have hne : ((m : Int) == (size : Int)) = false := by simp; omega
    have hne2 : decide (m = size) = false := decide_eq_false (by omega)
    have HS := Lib.hid hS
    have HW1 := Lib.hid hW1
    have HB1 := Lib.hid hB1
    have HK0 := Lib.hid hk0
    have HK1 := Lib.hid hk1
    have HK2 := Lib.hid hk2
    have HK3 := Lib.hid hk3
    have HQ1 := Lib.hid hq1
    have HO1 := Lib.hid ho1
    have HRT := Lib.hid hrt1
    have HGL2 := Lib.hid hgl2
    have HIL := Lib.hid hil
    have HC1 : Hid (∀ w' : World, Below (S + 1 + 1 + 1 + 1) W1 w' → w'.cell? ⟨S, 0, none⟩ = some (.pointer (some ⟨Q, 0, none⟩)) ∧ w'.cell? ⟨S + 1, 0, none⟩ = some (.int .u32 (wN Y)) ∧ w'.cell? ⟨S + 1 + 1 + 1, 0, none⟩ = some (.int .i64 m) ∧ w'.cell? ⟨Q, 0, none⟩ = some (.slice (some ⟨b3, off3, none⟩) N c) ∧ w'.cell? ⟨Q, 1, none⟩ = some (.slice (some ⟨g, 0, none⟩) m cl) ∧ w'.cell? ⟨Q, 2, none⟩ = some (.int .i64 size) ∧ w'.cell? ⟨g, q, none⟩ = some (.int .i64 z) ∧ w'.cell? ⟨b3, off3 + z, none⟩ = some (.int .u32 (wN (lw t z)))) := Lib.hid (fun w' hb => by
      have h1 := (hrt1.below (hb.mono (by omega))).at1 htl
      obtain ⟨b3', off3', hA', _, h2⟩ := h1
      simp only [Option.some.injEq, Addr.mk.injEq] at hA'
      obtain ⟨rfl, rfl, _⟩ := hA'
      rw [← lw_at t _ htl, ← hz] at h2
      have ho := ho1.below hb (by rw [hz1]; exact Nat.le_refl _)
      obtain ⟨g2', hge, _, _, h3, _⟩ := ho.cell1 HIL.out
      obtain rfl : g = g2' := by injection hge with h; injection h
      rw [HGL2.out] at h3
      refine ⟨(hk0.below hb (by omega)).cell 0, (hk1.below hb (by omega)).cell 0, (hk3.below hb (by omega)).cell 0, (hq1.below hb (by omega)).cell 0, (hq1.below hb (by omega)).cell 1, (hq1.below hb (by omega)).cell 2, h3, h2⟩)
    have HZ1 := Lib.hid hz1
    clear hrest3
    clear ih hok hlm htab hq hq0 hown hrt hS hY hW1 hB1 hk0 hk1 hk2 hk3 hq1 ho1 hrt1 hgl2 hne0 hzl hlq hmq htl hz hb00
    clear HGL2 hil
    refine (callsIn_wide (n := 9)).1 ?_
    refine callsIn_of_wp_marks Tryd.func51 rfl trivial ?_ rfl
    simp only [Tryd.ntmps51, List.size_toArray, List.length_cons, List.length_nil, Nat.reduceAdd, Nat.reduceSub, Array.replicate_succ, Array.replicate_zero, List.push_toArray, List.append_toArray, List.nil_append, List.cons_append]
    gi_wp2_with fail
    rw [← HW1.out, ← HS.out]
    refine region_wide 99 6 (fun w' => w' = W1.drew) (by kernel_rfl) rfl ?_
    refine anyC_reads (by kernel_rfl) [0, 1, 2, 3, 4, 5] ?oph ?ohh 0 _ _ _ (by kernel_rfl) ?okh
    case ohh => (simp only [List.filterMap_cons, List.filterMap_nil, List.getElem?_toArray, List.getElem?_cons_zero, List.getElem?_cons_succ]; try rfl)
    repeat (
      refine readC_step (v := ?_) rfl (fun w' hw' => ?_) ?_
      rotate_left
      focus (subst hw'; go_simp; try with_reducible rfl)
      go_simp)
    refine readC_nil ?_
    refine anyC_end (by kernel_rfl) (.inr rfl) ?_
    gi_wp2_with fail
    clear e0 e3 e4 d10 d00
    have hU1 : Below (S + 1 + 1 + 1 + 1) W1 W1.drew := (Below.refl _ W1).drew
    refine region_wide 9 10 (fun w' => Below (S + 1 + 1 + 1 + 1) W1 w') (by kernel_rfl) rfl ?_
    refine anyC_reads (by kernel_rfl) [0, 1, 2, 3, 4, 5, 6, 7] ?opi ?ohi 2 _ _ _ (by kernel_rfl) ?oki
    case ohi => (simp only [List.filterMap_cons, List.filterMap_nil, List.getElem?_toArray, List.getElem?_cons_zero, List.getElem?_cons_succ]; try rfl)
    repeat (
      refine readC_step (v := ?_) rfl (fun w' hw' => ?_) ?_
      rotate_left
      focus (obtain ⟨p0, p1, p2, p3, p4, p5, p6, p7⟩ := HC1.out w' hw'; go_simp; try with_reducible rfl)
      go_simp)
    refine readC_nil ?_
    have hU2 : Below (S + 1 + 1 + 1 + 1) W1 W1.drew.drew := hU1.drew
    refine anyC_one (i := 8) (by kernel_rfl) rfl rfl (.inr hU2) ?_
    go_simp
    have hA3 : Below (S + 1 + 1 + 1 + 1) W1 (W1.alloc (.cells #[.int .i64 0] 3)).drew.drew := (((Below.refl _ W1).alloc (by rw [HZ1.out]; exact Nat.le_refl _) _).drew).drew
    have hy3 : Blk (W1.alloc (.cells #[.int .i64 0] 3)).drew.drew (S + 1 + 1 + 1 + 1) 3 #[.int .i64 0] := (Blk.new_at HZ1.out).drew.drew
    have y3 := hy3.cell 0
    have y4 := hy3.frozen 0
    refine anyC_one (i := 9) (by kernel_rfl) rfl rfl (.inr hA3) ?_
    go_simp
    refine anyC_end (by kernel_rfl) (.inl (by kernel_rfl)) ?_
    clear hA3 hy3 y3 y4
    gi_wp2_with fail
    obtain ⟨V2, hV2⟩ : ∃ V2, V2 = (W1.alloc (.cells #[.int .i64 z] 3)).drew.drew := ⟨_, rfl⟩
    rw [← hV2]
    have hzV : V2.heap.size = S + 1 + 1 + 1 + 1 + 1 := by rw [hV2]; exact (size_alloc' W1 _).trans (congrArg (· + 1) HZ1.out)
    have hbV : Below (S + 1 + 1 + 1 + 1) W1 V2 := by rw [hV2]; exact (((Below.refl _ W1).alloc (by rw [HZ1.out]; exact Nat.le_refl _) _).drew).drew
    have hk4V : Blk V2 (S + 1 + 1 + 1 + 1) 3 #[.int .i64 z] := by rw [hV2]; exact (Blk.new_at HZ1.out).drew.drew
    obtain ⟨a0, a1, a2, a3, a4, a5, a6, a7⟩ := HC1.out V2.drew hbV.drew
    have a8 := hk4V.drew.cell 0
    have HK4 := Lib.hid hk4V
    have HBV := Lib.hid hbV
    have HZV := Lib.hid hzV
    clear hV2 hk4V hbV hzV hU1 hU2
    refine region_wide 9 10 (fun w' => w' = V2.drew) (by kernel_rfl) rfl ?_
    refine anyC_reads (by kernel_rfl) [0, 1, 2, 3, 4, 5, 6, 7, 8] ?opj ?ohj 1 _ _ _ (by kernel_rfl) ?okj
    case ohj => (simp only [List.filterMap_cons, List.filterMap_nil, List.getElem?_toArray, List.getElem?_cons_zero, List.getElem?_cons_succ]; try rfl)
    repeat (
      refine readC_step (v := ?_) rfl (fun w' hw' => ?_) ?_
      rotate_left
      focus (subst hw'; go_simp; try with_reducible rfl)
      go_simp)
    refine readC_nil ?_
    obtain ⟨X, hX⟩ : ∃ X, X = wAnd (lw t z) Y := ⟨_, rfl⟩
    rw [← hX] at HX0 ⊢
    have HX := HX0
    clear HX0 hX
    refine anyC_one (i := 9) (by kernel_rfl) rfl rfl (.inr rfl) ?_
    go_simp
    refine (graph_Each X _).mono ?_
    rintro e W3 ⟨rfl, rfl⟩
    go_simp
    refine anyC_end (by kernel_rfl) (.inl (by kernel_rfl)) ?_
    clear a0 a1 a2 a3 a4 a5 a6 a7 a8
    gi_wp2_with fail
    obtain ⟨W5, hW5⟩ : ∃ W5, W5 = (V2.alloc (.cells #[.int .u32 (wN X)] 58)).drew := ⟨_, rfl⟩
    rw [← hW5]
    try rw [HZV.out]
    have hk5 : Blk W5 (S + 1 + 1 + 1 + 1 + 1) 58 #[.int .u32 (wN X)] := by rw [hW5]; exact (Blk.new_at HZV.out).drew
    have hz5 : W5.heap.size = S + 1 + 1 + 1 + 1 + 1 + 1 := by rw [hW5]; exact (size_alloc' V2 _).trans (congrArg (· + 1) HZV.out)
    have hbV5 : Below (S + 1 + 1 + 1 + 1 + 1) V2 W5 := by rw [hW5]; exact ((Below.refl _ V2).alloc (by rw [HZV.out]; exact Nat.le_refl _) _).drew
    have hb15 : Below (S + 1 + 1 + 1 + 1) W1 W5 := HBV.out.trans (hbV5.mono (by omega))
    have hb5 : Below S w W5 := HB1.out.trans (hb15.mono (by omega))
    have q0 : Blk W5 S 79 #[.pointer (some ⟨Q, 0, none⟩)] := HK0.out.below hb15 (by omega)
    have q1 : Blk W5 (S + 1) 58 #[.int .u32 (wN Y)] := HK1.out.below hb15 (by omega)
    have q2 : Blk W5 (S + 1 + 1) 4 #[.bool false] := HK2.out.below hb15 (by omega)
    have q6 : Blk W5 (S + 1 + 1 + 1) 3 #[.int .i64 m] := HK3.out.below hb15 (by omega)
    have q7 : Blk W5 (S + 1 + 1 + 1 + 1) 3 #[.int .i64 z] := HK4.out.below hbV5 (by omega)
    have q3 : Blk W5 Q 81 #[.slice (some ⟨b3, off3, none⟩) N c, .slice (some ⟨g, 0, none⟩) m cl, .int .i64 size] := HQ1.out.below hb15 (by omega)
    have q4 : Own W5 B 3 1 icell (some ⟨g, 0, none⟩) cl (intsOf l) := HO1.out.below hb15 (by rw [HZ1.out]; exact Nat.le_refl _)
    have q5 : Els W5 B 1 wcell (some ⟨b3, off3, none⟩) t := HRT.out.below (hb15.mono (by omega))
    clear HK0 HK1 HK2 HK3 HK4 HQ1 HO1 HRT HB1 HW1 HZ1 HZV HBV HC1 hW5 hbV5 hb15
    have HB5 := Lib.hid hb5
    have HK0 := Lib.hid q0
    have HK1 := Lib.hid q1
    have HK2 := Lib.hid q2
    have HK3 := Lib.hid q6
    have HK4 := Lib.hid q7
    have HQ5 := Lib.hid q3
    have HO5 := Lib.hid q4
    have HRT := Lib.hid q5
    have HK5 := Lib.hid hk5
    have hSw : S = w.heap.size := HS.out
    have hBS : B ≤ S := by omega
    have hS0 : 0 < S := by omega
    have htw : TabOk W5 := HT.out.below hb5 hS0
    have HSw := Lib.hid hSw
    clear hb5 q0 q1 q2 q3 q4 q5 q6 q7 hk5 hSw
    have hk5b : Boxed W5 (S + 1 + 1 + 1 + 1 + 1) 58 (.int .u32 (wN X)) := HK5.out
    have hbxne : ∀ g1 : Nat, (g1 = g ∨ W5.heap.size ≤ g1) → g1 = S + 1 + 1 + 1 + 1 + 1 → False := fun g1 h h2 => by
      have h3 := hz5
      have h4 := hgl.2
      omega
    have hbxne2 : ∀ g1 : Nat, (g1 = g ∨ W5.heap.size ≤ g1) → g1 = S + 1 + 1 → False := fun g1 h h2 => by
      have h3 := hz5
      have h4 := hgl.2
      omega
    have hmarks : ∀ (D : Nat) (W : World), W5.heap.size ≤ D → Held [Q, g, S + 1 + 1, S + 1 + 1 + 1 + 1 + 1] W5 W → W.heap[D]? = some (.deferred (some [])) → Marks S [{ target := .collected D, args := #[] }] W := fun D W hD hh hdef =>
      (Marks.nil S W5).cons rfl hD (by omega) (fun k hk he => (hh.block k hk (fun hm => by
        have hcell : (Obj.deferred (some [])).isCells = true := by
          simp only [List.mem_cons, List.not_mem_nil, or_false] at hm
          rcases hm with rfl | rfl | rfl | rfl
          · exact HQ5.out.isCells _ he
          · exact HO5.out.isCells _ he
          · exact HK2.out.isCells _ he
          · exact HK5.out.isCells _ he
        cases hcell)).trans he) hdef
    have hfin : ∀ (W W' : World), Held [Q, g, S + 1 + 1, S + 1 + 1 + 1 + 1 + 1] W5 W → Shut S W W' → Held [Q, g] w W' := fun W W' hh hw' =>
      ⟨hw'.1.os.trans (hh.os.trans HB5.out.os), hw'.1.tape.trans (hh.tape.trans HB5.out.tape), hw'.1.output.trans (hh.output.trans HB5.out.output), Nat.le_trans HB5.out.size (Nat.le_trans hh.size hw'.1.size), fun k hk hx => by
        have hkS : k < S := by rw [HSw.out]; exact hk
        have hkn : k ∉ [Q, g, S + 1 + 1, S + 1 + 1 + 1 + 1 + 1] := by simp at hx ⊢; omega
        exact (hw'.1.block k hkS).trans ((hh.block k (by omega) hkn).trans (HB5.out.block k hkS))⟩
    have hSw2 : w.heap.size = S := HSw.out.symm
    have HSW2 := Lib.hid hSw2
    clear hSw2
    refine wpIn_bits (p := 38) (q := 7) 9 79 (S + 1 + 1 + 1 + 1 + 1) 58 (.int .u32 (wN X)) (bitsL X) [Q, g, S + 1 + 1, S + 1 + 1 + 1 + 1 + 1] rfl (enters_of Tryd.func79 (by kernel_rfl) rfl)
      (Each1_seq _ _ _ (by omega)) hk5b htw (by simp)
      (fun pre W => ∃ g1 cl1 : Nat, pre.findSome? (stepB t N f l) = none ∧ Blk W Q 81 #[.slice (some ⟨b3, off3, none⟩) N c, .slice (some ⟨g1, 0, none⟩) m cl1, .int .i64 size] ∧ Own W B 3 1 icell (some ⟨g1, 0, none⟩) cl1 (intsOf l) ∧ (g1 = g ∨ W5.heap.size ≤ g1) ∧ Blk W (S + 1 + 1) 4 #[.bool false])
      (fun cd pre W => cd = .ret ∧ ∃ (u : List Nat) (g1 cr : Nat), pre.findSome? (stepB t N f l) = some u ∧ Blk W Q 81 #[.slice (some ⟨b3, off3, none⟩) N c, .slice (some ⟨g1, 0, none⟩) u.length cr, .int .i64 size] ∧ Own W B 3 1 icell (some ⟨g1, 0, none⟩) cr (intsOf u) ∧ (g1 = g ∨ W5.heap.size ≤ g1) ∧ Blk W (S + 1 + 1) 4 #[.bool true])
      (fun s X Y row h hg hrow => by obtain ⟨g1, cl1, h1, h2, h3, h4, h5⟩ := h; exact ⟨g1, cl1, h1, blk_kept h2 hg hrow, own_kept h3 hg hrow, h4, blk_kept h5 hg hrow⟩)
      (fun cd s X Y row h hg hrow => by obtain ⟨h0, u, g1, cr, h1, h2, h3, h4, h5⟩ := h; exact ⟨h0, u, g1, cr, h1, blk_kept h2 hg hrow, own_kept h3 hg hrow, h4, blk_kept h5 hg hrow⟩)
      (fun s X v h => by obtain ⟨g1, cl1, h1, h2, h3, h4, h5⟩ := h; exact ⟨g1, cl1, h1, h2.far (show Q ≠ S + 1 + 1 + 1 + 1 + 1 by omega) v, h3.far (fun he => hbxne g1 h4 (by injection he)) v, h4, h5.far (show S + 1 + 1 ≠ S + 1 + 1 + 1 + 1 + 1 by omega) v⟩)
      ⟨g, cl, rfl, HQ5.out, HO5.out, .inl rfl, HK2.out⟩ ?assign ?body ?done ?stop
    case assign =>
      intro l' j W K hK
      simp only [List.setIfInBounds_toArray, List.set_cons_succ, List.set_cons_zero] at hK ⊢
      gi_wp2_with fail
      exact hK
    case body =>
      intro l' pre j W hh hi hpre
      obtain ⟨g1, cl1, hfs, hqW, hoW, hg1, hk2W⟩ := hi
      have hjX : j ∈ bitsL X := by obtain ⟨z, hz⟩ := hpre; rw [← hz]; simp
      have hjb : (decide (j < N) && canGo t l j) = true := by rw [← nextW_bit (by omega), ← HX.out]; exact mem_bitsL.1 hjX
      have hjn : j < N := by rw [Bool.and_eq_true, decide_eq_true_iff] at hjb; exact hjb.1
      have hjc : l.contains j = false := by
        rw [Bool.and_eq_true] at hjb
        have := hjb.2
        unfold canGo at this
        rw [Bool.and_eq_true] at this
        simpa using this.1
      have hSW := hh.size
      have hgo1 := own_lt hoW
      have hg1Q : g1 ≠ Q := own_blk_ne hoW hqW (by decide)
      have hg1S : g1 ≠ S ∧ g1 ≠ S + 1 ∧ g1 ≠ S + 1 + 1 ∧ g1 ≠ S + 1 + 1 + 1 ∧ g1 ≠ S + 1 + 1 + 1 + 1 ∧ g1 ≠ S + 1 + 1 + 1 + 1 + 1 := by omega
      have hp0 : Blk W S 79 #[.pointer (some ⟨Q, 0, none⟩)] := HK0.out.held hh (by simp; omega)
      have hp1 : Blk W (S + 1) 58 #[.int .u32 (wN Y)] := HK1.out.held hh (by simp; omega)
      have hp3 : Blk W (S + 1 + 1 + 1) 3 #[.int .i64 m] := HK3.out.held hh (by simp; omega)
      have hp4 : Blk W (S + 1 + 1 + 1 + 1) 3 #[.int .i64 z] := HK4.out.held hh (by simp; omega)
      have hrtW : Els W B 1 wcell (some ⟨b3, off3, none⟩) t := HRT.out.below (hh.to (B := B) (by omega) (by simp; omega))
      have htW : TabOk W := htw.block hh.size (hh.block 0 (by omega) (by simp; omega))
      have hjl : j < t.length := by rw [HL.out]; exact hjn
      obtain ⟨b3', off3', hA3', _, x3⟩ := hrtW.at1 hjl
      simp only [Option.some.injEq, Addr.mk.injEq] at hA3'
      obtain ⟨rfl, rfl, _⟩ := hA3'
      rw [← lw_at t j hjl] at x3
      have hlen0 : 0 < (intsOf l).length := by rw [intsOf, List.length_map, HM.out]; omega
      obtain ⟨g2', hge, _, _, x8, _⟩ := hoW.cell1 hlen0
      obtain rfl : g1 = g2' := by injection hge with h; injection h
      have hg0 : (intsOf l)[0] = ((l.getD 0 0 : Nat) : Int) := by
        rw [List.getD_eq_getElem?_getD, List.getElem?_eq_getElem (show 0 < l.length by rw [HM.out]; omega)]
        simp [intsOf]
      rw [hg0] at x8
      obtain ⟨y0, hy0⟩ : ∃ y, y = l.getD 0 0 := ⟨_, rfl⟩
      rw [← hy0] at x8
      have x0 := hp0.cell 0
      have x1 := hqW.cell 0
      have x2 := hqW.cell 1
      have x4 := hqW.cell 2
      have x5 := hp3.cell 0
      have x6 := hp4.cell 0
      obtain ⟨V, hV⟩ : ∃ V, V = W.drew.drew := ⟨_, rfl⟩
      have hhV1 : Held [Q, g1] W V := by rw [hV]; exact ((Held.refl [Q, g1] W).drew1).drew1
      have hhV : Held [Q, g, S + 1 + 1, S + 1 + 1 + 1 + 1 + 1] W5 V := by rw [hV]; exact (hh.drew1).drew1
      have hqV : Blk V Q 81 #[.slice (some ⟨b3, off3, none⟩) N c, .slice (some ⟨g1, 0, none⟩) m cl1, .int .i64 size] := by rw [hV]; exact hqW.drew.drew
      have hoV : Own V B 3 1 icell (some ⟨g1, 0, none⟩) cl1 (intsOf l) := by rw [hV]; exact hoW.drew.drew
      have hk2V : Blk V (S + 1 + 1) 4 #[.bool false] := by rw [hV]; exact hk2W.drew.drew
      have hp0V : Blk V S 79 #[.pointer (some ⟨Q, 0, none⟩)] := by rw [hV]; exact hp0.drew.drew
      have hp1V : Blk V (S + 1) 58 #[.int .u32 (wN Y)] := by rw [hV]; exact hp1.drew.drew
      have hp3V : Blk V (S + 1 + 1 + 1) 3 #[.int .i64 m] := by rw [hV]; exact hp3.drew.drew
      have hrtV : Els V B 1 wcell (some ⟨b3, off3, none⟩) t := by rw [hV]; exact hrtW.below (((Below.refl B W).drew).drew)
      have htV : TabOk V := by rw [hV]; exact htW
      have hkfV : KeepsFrom W5.heap.size W V := KeepsFrom.held hhV1 (fun k hk o ho => by
        simp only [List.mem_cons, List.not_mem_nil, or_false] at hk
        rcases hk with rfl | rfl
        · exact hqW.isCells o ho
        · exact hoW.isCells o ho)
      have hkpV : KpE (S + 1 + 1 + 1 + 1 + 1) 58 W V := KpE.held hhV1 (by simp; omega) (by simp; omega)
      have hseen := chord_seen (.slice (some ⟨b3, off3, none⟩) N c) (.int .i64 size) Q g1 cl1 B m l V HM.out (by omega) hqV hoV
      have HSEEN := Lib.hid hseen
      have hwt := HWT.out j
      obtain ⟨pk, hpk⟩ : ∃ pk, pk = pickB t l j (f == 0) := ⟨_, rfl⟩
      rw [← hpk] at hwt
      have HPK := Lib.hid hpk
      have HVE := Lib.hid hV
      have HKFV := Lib.hid hkfV
      have HKPV := Lib.hid hkpV
      have HHV := Lib.hid hhV
      have HQV := Lib.hid hqV
      have HOV := Lib.hid hoV
      have HK2V := Lib.hid hk2V
      have HP0V := Lib.hid hp0V
      have HP1V := Lib.hid hp1V
      have HP3V := Lib.hid hp3V
      have HRTV := Lib.hid hrtV
      have HTV := Lib.hid htV
      have HFS := Lib.hid hfs
      have hSV := hhV.size
      have hQV := hqV.lt
      have hgoV := own_lt hoV
      have HOKJ := Lib.hid (HOK.out.snoc hjn hjc)
      have HSTP : Hid (stepB t N f l j = if pk then bareF t N f (l ++ [j]) else none) := Lib.hid (by unfold stepB; rw [HPK.out])
      have hj0 : (0 : Int) ≤ (j : Int) := by omega
      have hz0 : (0 : Int) ≤ (z : Int) := by omega
      have hy00 : (0 : Int) ≤ (y0 : Int) := by omega
      have hmm : IntKind.i64.wrap ((m : Int) + 1) = (m : Int) + 1 := IntWalk.i64_in _ (by omega)
      have hm00 : 0 < m := by omega
      have hHE : Hid (y0 = l.getD 0 0) := Lib.hid hy0
      simp only [List.setIfInBounds_toArray, List.set_cons_succ, List.set_cons_zero]
      clear hpre hjX hjb hjc hlen0 hge hg0 hhV1 hhV hqV hoV hk2V hp0V hp1V hp3V hrtV htV hkfV hkpV hseen hpk hV hy0 hfs hqW hoW hk2W hh hp0 hp1 hp3 hp4 hrtW htW
      by_cases hf0 : f = 0
      · have hfin1 : (((m : Int) + 1) == (size : Int)) = true := by simp; omega
        have hpk2 : (wAnd (lw t j) (seenW l) != wOr (wShl w1 z) (wShl w1 y0)) = !pk := by
          rw [hwt, hf0, HZL.out, hHE.out]; rfl
        clear hwt
        gi_wp2_with fail
        refine region_round 99 7 (fun w' => w' = W.drew) (by kernel_rfl) rfl (by kernel_rfl) ?_
        refine anyC_reads (by kernel_rfl) [0, 1, 2, 3, 4, 5, 6] ?opk ?ohk 0 _ _ _ (by kernel_rfl) ?okk
        case ohk => (simp only [List.filterMap_cons, List.filterMap_nil, List.getElem?_toArray, List.getElem?_cons_zero, List.getElem?_cons_succ]; try rfl)
        repeat (
          refine readC_step (v := ?_) rfl (fun w' hw' => ?_) ?_
          rotate_left
          focus (subst hw'; go_simp; try with_reducible rfl)
          go_simp)
        refine readC_nil ?_
        refine anyC_end (by kernel_rfl) (.inr rfl) ?_
        gi_wp2_with fail
        refine region_round 11 12 (fun w' => w' = W.drew.drew) (by kernel_rfl) rfl (by kernel_rfl) ?_
        refine anyC_reads (by kernel_rfl) [0, 1, 2, 3, 4, 5, 6, 7, 10] ?opsa ?ohsa 3 _ _ _ (by kernel_rfl) ?oksa
        case ohsa => (simp only [List.filterMap_cons, List.filterMap_nil, List.getElem?_toArray, List.getElem?_cons_zero, List.getElem?_cons_succ]; try rfl)
        repeat (
          refine readC_step (v := ?_) rfl (fun w' hw' => ?_) ?_
          rotate_left
          focus (subst hw'; go_simp; try with_reducible rfl)
          go_simp)
        refine readC_nil ?_
        have hs10 := HSEEN.out
        rw [HVE.out] at hs10
        refine anyC_one (i := 8) (by kernel_rfl) rfl rfl (.inr rfl) ?_
        go_simp
        refine hs10.mono ?_
        clear hs10
        rintro e w' ⟨rfl, rfl⟩
        go_simp
        refine anyC_one (i := 9) (by kernel_rfl) rfl rfl (.inr rfl) ?_
        go_simp
        refine anyC_one (i := 11) (by kernel_rfl) rfl rfl (.inr rfl) ?_
        go_simp
        refine anyC_end (by kernel_rfl) (.inl (by kernel_rfl)) ?_
        rw [← HVE.out]
        clear HSEEN
        cases pk with
        | false =>
          gi_wp2_with fail
          exact ⟨HKFV.out, HKPV.out, HHV.out, g1, cl1, findSome_more HFS.out (by rw [HSTP.out]; rfl), HQV.out, HOV.out, hg1, HK2V.out⟩
        | true =>
          have hbc : Blk (V.drew.alloc (.cells #[.int .i64 (j : Int)] 3)) V.heap.size 3 #[.int .i64 (j : Int)] := Blk.new V.drew _ _
          have hlenI : (intsOf l).length = m := by rw [intsOf, List.length_map]; exact HM.out
          obtain ⟨A4, cap4, w4, happ, hown4, hgrow4, hloc4⟩ := run_append_els (P := Tryd.prog) 31 31 B 1 3 (.int .i64 0) 8 Tryd.underlying31 (by kernel_rfl) rfl (by omega) icell (V.drew.alloc (.cells #[.int .i64 (j : Int)] 3)) (some ⟨g1, 0, none⟩) m cl1 (intsOf l) hlenI (HOV.out.drew.alloc _)
            (some ⟨V.heap.size, 0, none⟩) 1 1 [(j : Int)] rfl (V.heap.size + 1) (by have := els_of_blk hbc 1 icell (fun _ => rfl) [(j : Int)] rfl; rwa [size_alloc'] at this) (by simp [Value.oneCell']) (by unfold maxLen; omega) (by omega) (by rw [size_alloc']; show B ≤ V.heap.size + 1; omega)
          have heq : intsOf l ++ [(j : Int)] = intsOf (l ++ [j]) := by simp [intsOf]
          rw [heq] at hown4
          obtain ⟨g4, hA4, hg4B, hg4w⟩ := hown4.form_ (by simp [intsOf])
          subst hA4
          have hsz8 : (V.drew.alloc (.cells #[.int .i64 (j : Int)] 3)).heap.size = V.heap.size + 1 := size_alloc' _ _
          have hg4 : g4 = g1 ∨ g4 = V.heap.size + 1 := by
            rcases hloc4 with h | h
            · left; injection h
            · right; rw [hsz8] at h; injection h
          have hh4 : Held [g1] V w4 := (((Held.refl [g1] V).drew1).alloc (.cells #[.int .i64 (j : Int)] 3)).turned hgrow4 (by simp)
          have hq4 : Blk w4 Q 81 #[.slice (some ⟨b3, off3, none⟩) N c, .slice (some ⟨g1, 0, none⟩) m cl1, .int .i64 size] := HQV.out.held hh4 (by simp; omega)
          have hp04 : Blk w4 S 79 #[.pointer (some ⟨Q, 0, none⟩)] := HP0V.out.held hh4 (by simp; omega)
          have hc4 : w4.cell? ⟨S, 0, none⟩ = some (.pointer (some ⟨Q, 0, none⟩)) ∧ w4.cell? ⟨Q, 1, none⟩ = some (.slice (some ⟨g1, 0, none⟩) m cl1) := ⟨hp04.cell 0, hq4.cell 1⟩
          have hc0 : V.drew.cell? ⟨S, 0, none⟩ = some (.pointer (some ⟨Q, 0, none⟩)) ∧ V.drew.cell? ⟨Q, 1, none⟩ = some (.slice (some ⟨g1, 0, none⟩) m cl1) := ⟨HP0V.out.drew.cell 0, HQV.out.drew.cell 1⟩
          have hc1 : (V.drew.alloc (.cells #[.int .i64 (j : Int)] 3)).cell? ⟨S, 0, none⟩ = some (.pointer (some ⟨Q, 0, none⟩)) ∧ (V.drew.alloc (.cells #[.int .i64 (j : Int)] 3)).cell? ⟨Q, 1, none⟩ = some (.slice (some ⟨g1, 0, none⟩) m cl1) := ⟨(HP0V.out.drew.alloc _).cell 0, (HQV.out.drew.alloc _).cell 1⟩
          have f4 := hq4.frozen 1
          have c41 := hq4.cell 1
          have HC4 := Lib.hid hc4
          have HC0 := Lib.hid hc0
          have HC1 := Lib.hid hc1
          have HQ4 := Lib.hid hq4
          have HP04 := Lib.hid hp04
          have HP14 := Lib.hid (HP1V.out.held hh4 (by simp; omega))
          have HP34 := Lib.hid (HP3V.out.held hh4 (by simp; omega))
          have HK24 := Lib.hid (HK2V.out.held hh4 (by simp; omega))
          have HRT4 := Lib.hid (HRTV.out.below (hh4.to (B := B) (by omega) (by simp; omega)))
          have HT4 := Lib.hid (HTV.out.block hh4.size (hh4.block 0 (by omega) (by simp; omega)))
          have HO4 := Lib.hid hown4
          have HH4 := Lib.hid hh4
          have hsz4 := hh4.size
          clear hbc hown4 hgrow4 hloc4 heq hq4 hp04 hc4 hc0 hc1 hh4 hlenI x0 x1 x2 x3 x4 x5 x6 x8
          gi_wp2_with fail
          refine region_round 10 11 (fun w' => w'.cell? ⟨S, 0, none⟩ = some (.pointer (some ⟨Q, 0, none⟩)) ∧ w'.cell? ⟨Q, 1, none⟩ = some (.slice (some ⟨g1, 0, none⟩) m cl1)) (by kernel_rfl) rfl (by kernel_rfl) ?_
          refine anyC_reads (by kernel_rfl) [0, 1, 2, 3, 4, 5] ?opta ?ohta 5 _ _ _ (by kernel_rfl) ?okta
          case ohta => (simp only [List.filterMap_cons, List.filterMap_nil, List.getElem?_toArray, List.getElem?_cons_zero, List.getElem?_cons_succ]; try rfl)
          repeat (
            refine readC_step (v := ?_) rfl (fun w' hw' => ?_) ?_
            rotate_left
            focus (obtain ⟨s0, s1⟩ := hw'; go_simp; try with_reducible rfl)
            go_simp)
          refine readC_nil ?_
          refine anyC_one (i := 6) (by kernel_rfl) rfl rfl (.inr HC0.out) ?_
          go_simp
          refine anyC_one (i := 7) (by kernel_rfl) rfl rfl (.inr HC1.out) ?_
          refine wp_append_run _ _ _ rfl _ _ rfl rfl _ _ happ ?_
          go_simp
          refine anyC_one (i := 8) (by kernel_rfl) rfl rfl (.inr HC4.out) ?_
          go_simp
          refine anyC_one (i := 9) (by kernel_rfl) rfl rfl (.inr HC4.out) ?_
          go_simp
          refine anyC_one (i := 10) (by kernel_rfl) rfl rfl (.inr HC4.out) ?_
          go_simp
          refine anyC_end (by kernel_rfl) (.inl (by kernel_rfl)) ?_
          gi_wp2_with fail
          obtain ⟨W6, hW6⟩ : ∃ W6, W6 = w4.setCell ⟨Q, 1, none⟩ (.slice (some ⟨g4, 0, none⟩) (m + 1) cap4) := ⟨_, rfl⟩
          rw [← hW6]
          have hg4Q : g4 ≠ Q := own_blk_ne HO4.out HQ4.out (by decide)
          have hg4S : g4 ≠ S ∧ g4 ≠ S + 1 ∧ g4 ≠ S + 1 + 1 ∧ g4 ≠ S + 1 + 1 + 1 ∧ g4 ≠ S + 1 + 1 + 1 + 1 ∧ g4 ≠ S + 1 + 1 + 1 + 1 + 1 := by omega
          have hz6 : W6.heap.size = w4.heap.size := by rw [hW6]; simp [World.setCell]
          have hq6 : Blk W6 Q 81 #[.slice (some ⟨b3, off3, none⟩) N c, .slice (some ⟨g4, 0, none⟩) (m + 1) cap4, .int .i64 size] := by rw [hW6]; exact HQ4.out.put 1 _
          have ho6 : Own W6 B 3 1 icell (some ⟨g4, 0, none⟩) cap4 (intsOf (l ++ [j])) := by rw [hW6]; exact HO4.out.far (p := ⟨Q, 1, none⟩) (fun he => hg4Q (by injection he)) _
          have hp06 : Blk W6 S 79 #[.pointer (some ⟨Q, 0, none⟩)] := by rw [hW6]; exact HP04.out.far (p := ⟨Q, 1, none⟩) (show S ≠ Q by omega) _
          have hp16 : Blk W6 (S + 1) 58 #[.int .u32 (wN Y)] := by rw [hW6]; exact HP14.out.far (p := ⟨Q, 1, none⟩) (show S + 1 ≠ Q by omega) _
          have hp36 : Blk W6 (S + 1 + 1 + 1) 3 #[.int .i64 m] := by rw [hW6]; exact HP34.out.far (p := ⟨Q, 1, none⟩) (show S + 1 + 1 + 1 ≠ Q by omega) _
          have hk26 : Blk W6 (S + 1 + 1) 4 #[.bool false] := by rw [hW6]; exact HK24.out.far (p := ⟨Q, 1, none⟩) (show S + 1 + 1 ≠ Q by omega) _
          have hh6 : Held [Q, g1] V W6 := by rw [hW6]; exact (HH4.out.mono (ex' := [Q, g1]) (fun k hk _ => by simp at hk ⊢; omega)).setCell (p := ⟨Q, 1, none⟩) (by simp) _
          have hrt6 : Els W6 B 1 wcell (some ⟨b3, off3, none⟩) t := by rw [hW6]; exact HRT4.out.below ((Below.refl B w4).setCell (p := ⟨Q, 1, none⟩) hBQ _)
          have htb6 : TabOk W6 := HT4.out.block (by rw [hz6]; exact Nat.le_refl _) (by rw [hW6]; exact Below.heap_setCell w4 ⟨Q, 1, none⟩ _ 0 (show (0 : Nat) ≠ Q by omega))
          have HCALL := Lib.hid (HIH.out (l ++ [j]) g4 (m + 1) cap4 W6.drew (by rw [List.length_append, HM.out]; rfl) (by omega) (by omega) HOKJ.out (hrt6.below (Below.refl B W6).drew) hq6.drew ho6.drew (htb6.block (Nat.le_refl _) rfl))
          rw [leftW_snoc, ← HY.out] at HCALL
          have r0 := hp06.cell 0
          have r1 := hp16.cell 0
          have HQ6 := Lib.hid hq6
          have HO6 := Lib.hid ho6
          have HP06 := Lib.hid hp06
          have HP36 := Lib.hid hp36
          have HK26 := Lib.hid hk26
          have HH6 := Lib.hid hh6
          clear hW6 hq6 ho6 hp06 hp16 hp36 hk26 hh6 hrt6 htb6 f4 c41 happ HC0 HC1 HC4
          refine region_round 5 6 (fun w' => w' = W6.drew) (by kernel_rfl) rfl (by kernel_rfl) ?_
          refine anyC_reads (by kernel_rfl) [0, 1, 2, 3, 4] ?opua ?ohua 1 _ _ _ (by kernel_rfl) ?okua
          case ohua => (simp only [List.filterMap_cons, List.filterMap_nil, List.getElem?_toArray, List.getElem?_cons_zero, List.getElem?_cons_succ]; try rfl)
          repeat (
            refine readC_step (v := ?_) rfl (fun w' hw' => ?_) ?_
            rotate_left
            focus (subst hw'; go_simp; try with_reducible rfl)
            go_simp)
          refine readC_nil ?_
          refine anyC_one (i := 5) (by kernel_rfl) rfl rfl (.inr rfl) ?_
          go_simp
          refine HCALL.out.mono ?_
          clear HCALL
          rintro e v7 ⟨g7, cr7, hh7, hg7, hres⟩
          have hs6 : W6.drew.heap.size = W6.heap.size := rfl
          rw [hs6] at hg7
          have hg7c : g7 = g ∨ W5.heap.size ≤ g7 := by omega
          have hg7S : g7 ≠ S ∧ g7 ≠ S + 1 ∧ g7 ≠ S + 1 + 1 ∧ g7 ≠ S + 1 + 1 + 1 ∧ g7 ≠ S + 1 + 1 + 1 + 1 ∧ g7 ≠ S + 1 + 1 + 1 + 1 + 1 := by omega
          have hall : Held [Q, g1] V v7 := HH6.out.then (b := W6) (Held.then (ex := [Q, g4]) ((Held.refl [Q, g4] W6).drew1) hh7 (fun i hi _ => hi)) (fun i hi hlt => by simp at hi ⊢; omega)
          have hk7 : Blk v7 (S + 1 + 1) 4 #[.bool false] := HK26.out.drew.held hh7 (by simp; omega)
          have hp7 : Blk v7 S 79 #[.pointer (some ⟨Q, 0, none⟩)] := HP06.out.drew.held hh7 (by simp; omega)
          have hp37 : Blk v7 (S + 1 + 1 + 1) 3 #[.int .i64 m] := HP36.out.drew.held hh7 (by simp; omega)
          have hkf : KeepsFrom W5.heap.size V v7 := KeepsFrom.held hall (fun k hk o ho => by
            simp only [List.mem_cons, List.not_mem_nil, or_false] at hk
            rcases hk with rfl | rfl
            · exact HQV.out.isCells o ho
            · exact HOV.out.isCells o ho)
          have hkp : KpE (S + 1 + 1 + 1 + 1 + 1) 58 V v7 := KpE.held hall (by simp; omega) (by simp; omega)
          have hhx : Held [Q, g, S + 1 + 1, S + 1 + 1 + 1 + 1 + 1] W5 v7 := HHV.out.then hall (fun i hi hlt => by simp at hi ⊢; omega)
          have HK7 := Lib.hid hk7
          have HP7 := Lib.hid hp7
          have HP37 := Lib.hid hp37
          have HKF := Lib.hid (HKFV.out.trans hkf)
          have HKP := Lib.hid (HKPV.out.trans hkp)
          have HHX := Lib.hid hhx
          cases hrow : bareF t N f (l ++ [j]) with
          | some u =>
            rw [hrow] at hres
            obtain ⟨rfl, hq7, ho7⟩ := hres
            have HROW := Lib.hid hrow
            have HQ7 := Lib.hid hq7
            have HO7 := Lib.hid ho7
            have c7 := hk7.cell 0
            have f7 := hk7.frozen 0
            clear hrow hq7 ho7 hall hk7 hp7 hp37 hkf hkp hhx hh7
            go_simp
            refine anyC_end (by kernel_rfl) (.inl (by kernel_rfl)) ?_
            gi_wp2_with fail
            refine ⟨HKF.out.trans (KeepsFrom.box (t := 4) HK7.out _), HHX.out.setCell (p := ⟨S + 1 + 1, 0, none⟩) (by simp) _, rfl, u, g7, cr7, ?_, HQ7.out.far (p := ⟨S + 1 + 1, 0, none⟩) (show Q ≠ S + 1 + 1 by omega) _, HO7.out.far (p := ⟨S + 1 + 1, 0, none⟩) (fun he => hg7S.2.2.1 (by injection he)) _, hg7c, HK7.out.put 0 _⟩
            rw [List.findSome?_append, HFS.out]
            simp [HSTP.out, HROW.out]
          | none =>
            rw [hrow] at hres
            obtain ⟨rfl, hq7, ho7⟩ := hres
            have hcr := ho7.cap_le
            rw [intsOf, List.length_map, List.length_append, HM.out, List.length_singleton] at hcr
            have heq7 : intsOf (l ++ [j]) = intsOf l ++ [(j : Int)] := by simp [intsOf]
            have hpop : Own v7 B 3 1 icell (some ⟨g7, 0, none⟩) cr7 (intsOf l) := by rw [heq7] at ho7; exact ho7.pop
            have hg7Q : g7 ≠ Q := own_blk_ne ho7 hq7 (by decide)
            have HROW := Lib.hid hrow
            have HQ7 := Lib.hid hq7
            have HPOP := Lib.hid hpop
            have c70 := hp7.cell 0
            have c71 := hq7.cell 1
            have c72 := hp37.cell 0
            have f71 := hq7.frozen 1
            have hwm : IntKind.i64.wrap (m : Int) = (m : Int) := wrap_le20 m (by omega)
            have hm0 : (0 : Int) ≤ (m : Int) ∧ (m : Int) ≤ (cr7 : Int) := by omega
            have hm1 : (m : Int) ≤ (cr7 : Int) := by omega
            clear hrow hq7 ho7 hall hk7 hp7 hp37 hkf hkp hhx hh7 hpop heq7
            go_simp
            refine anyC_end (by kernel_rfl) (.inl (by kernel_rfl)) ?_
            gi_wp2_with fail
            refine region_round 9 10 (fun w' => w' = v7.drew) (by kernel_rfl) rfl (by kernel_rfl) ?_
            refine anyC_reads (by kernel_rfl) [0, 1, 2, 3, 4, 5, 6, 7, 8] ?opva ?ohva 1 _ _ _ (by kernel_rfl) ?okva
            case ohva => (simp only [List.filterMap_cons, List.filterMap_nil, List.getElem?_toArray, List.getElem?_cons_zero, List.getElem?_cons_succ]; try rfl)
            repeat (
              refine readC_step (v := ?_) rfl (fun w' hw' => ?_) ?_
              rotate_left
              focus (subst hw'; go_simp; try with_reducible rfl)
              go_simp)
            refine readC_nil ?_
            refine anyC_one (i := 9) (by kernel_rfl) rfl rfl (.inr rfl) ?_
            go_simp
            refine anyC_end (by kernel_rfl) (.inl (by kernel_rfl)) ?_
            gi_wp2_with fail
            have hsx : Held [Q] v7 (v7.setCell ⟨Q, 1, none⟩ (.slice (some ⟨g7, 0, none⟩) m cr7)) := (Held.refl [Q] v7).setCell (p := ⟨Q, 1, none⟩) (by simp) _
            have hkx : KeepsFrom W5.heap.size v7 (v7.setCell ⟨Q, 1, none⟩ (.slice (some ⟨g7, 0, none⟩) m cr7)) := KeepsFrom.held hsx (fun k hk o ho => by
              simp only [List.mem_cons, List.not_mem_nil, or_false] at hk
              subst hk
              exact HQ7.out.isCells o ho)
            have hkpx : KpE (S + 1 + 1 + 1 + 1 + 1) 58 v7 (v7.setCell ⟨Q, 1, none⟩ (.slice (some ⟨g7, 0, none⟩) m cr7)) := KpE.held hsx (by simp; omega) (by simp; omega)
            exact ⟨KeepsFrom.drew (HKF.out.trans hkx), (HKP.out.trans hkpx).drew, (HHX.out.setCell (p := ⟨Q, 1, none⟩) (by simp) _).drew1, g7, cr7, findSome_more HFS.out (by rw [HSTP.out]; exact HROW.out), (HQ7.out.put 1 _).drew, (HPOP.out.far (p := ⟨Q, 1, none⟩) (fun he => hg7Q (by injection he)) _).drew, hg7c, (HK7.out.far (p := ⟨Q, 1, none⟩) (show S + 1 + 1 ≠ Q by omega) _).drew⟩
      · have hfin1 : (((m : Int) + 1) == (size : Int)) = false := by simp; omega
        have hff : (f == 0) = false := by simpa using hf0
        have hpk2 : (wAnd (lw t j) (seenW l) != wShl w1 z) = !pk := by
          rw [hwt, hff, HZL.out]; rfl
        clear hwt
        gi_wp2_with fail
        refine region_round 99 7 (fun w' => w' = W.drew) (by kernel_rfl) rfl (by kernel_rfl) ?_
        refine anyC_reads (by kernel_rfl) [0, 1, 2, 3, 4, 5, 6] ?opl ?ohl 0 _ _ _ (by kernel_rfl) ?okl
        case ohl => (simp only [List.filterMap_cons, List.filterMap_nil, List.getElem?_toArray, List.getElem?_cons_zero, List.getElem?_cons_succ]; try rfl)
        repeat (
          refine readC_step (v := ?_) rfl (fun w' hw' => ?_) ?_
          rotate_left
          focus (subst hw'; go_simp; try with_reducible rfl)
          go_simp)
        refine readC_nil ?_
        refine anyC_end (by kernel_rfl) (.inr rfl) ?_
        gi_wp2_with fail
        refine region_round 11 12 (fun w' => w' = W.drew.drew) (by kernel_rfl) rfl (by kernel_rfl) ?_
        refine anyC_reads (by kernel_rfl) [0, 1, 2, 3, 4, 5, 6, 7, 10] ?opsb ?ohsb 3 _ _ _ (by kernel_rfl) ?oksb
        case ohsb => (simp only [List.filterMap_cons, List.filterMap_nil, List.getElem?_toArray, List.getElem?_cons_zero, List.getElem?_cons_succ]; try rfl)
        repeat (
          refine readC_step (v := ?_) rfl (fun w' hw' => ?_) ?_
          rotate_left
          focus (subst hw'; go_simp; try with_reducible rfl)
          go_simp)
        refine readC_nil ?_
        have hs10 := HSEEN.out
        rw [HVE.out] at hs10
        refine anyC_one (i := 8) (by kernel_rfl) rfl rfl (.inr rfl) ?_
        go_simp
        refine hs10.mono ?_
        clear hs10
        rintro e w' ⟨rfl, rfl⟩
        go_simp
        refine anyC_one (i := 9) (by kernel_rfl) rfl rfl (.inr rfl) ?_
        go_simp
        refine anyC_one (i := 11) (by kernel_rfl) rfl rfl (.inr rfl) ?_
        go_simp
        refine anyC_end (by kernel_rfl) (.inl (by kernel_rfl)) ?_
        rw [← HVE.out]
        clear HSEEN
        cases pk with
        | false =>
          gi_wp2_with fail
          exact ⟨HKFV.out, HKPV.out, HHV.out, g1, cl1, findSome_more HFS.out (by rw [HSTP.out]; rfl), HQV.out, HOV.out, hg1, HK2V.out⟩
        | true =>
          have hbc : Blk (V.drew.alloc (.cells #[.int .i64 (j : Int)] 3)) V.heap.size 3 #[.int .i64 (j : Int)] := Blk.new V.drew _ _
          have hlenI : (intsOf l).length = m := by rw [intsOf, List.length_map]; exact HM.out
          obtain ⟨A4, cap4, w4, happ, hown4, hgrow4, hloc4⟩ := run_append_els (P := Tryd.prog) 31 31 B 1 3 (.int .i64 0) 8 Tryd.underlying31 (by kernel_rfl) rfl (by omega) icell (V.drew.alloc (.cells #[.int .i64 (j : Int)] 3)) (some ⟨g1, 0, none⟩) m cl1 (intsOf l) hlenI (HOV.out.drew.alloc _)
            (some ⟨V.heap.size, 0, none⟩) 1 1 [(j : Int)] rfl (V.heap.size + 1) (by have := els_of_blk hbc 1 icell (fun _ => rfl) [(j : Int)] rfl; rwa [size_alloc'] at this) (by simp [Value.oneCell']) (by unfold maxLen; omega) (by omega) (by rw [size_alloc']; show B ≤ V.heap.size + 1; omega)
          have heq : intsOf l ++ [(j : Int)] = intsOf (l ++ [j]) := by simp [intsOf]
          rw [heq] at hown4
          obtain ⟨g4, hA4, hg4B, hg4w⟩ := hown4.form_ (by simp [intsOf])
          subst hA4
          have hsz8 : (V.drew.alloc (.cells #[.int .i64 (j : Int)] 3)).heap.size = V.heap.size + 1 := size_alloc' _ _
          have hg4 : g4 = g1 ∨ g4 = V.heap.size + 1 := by
            rcases hloc4 with h | h
            · left; injection h
            · right; rw [hsz8] at h; injection h
          have hh4 : Held [g1] V w4 := (((Held.refl [g1] V).drew1).alloc (.cells #[.int .i64 (j : Int)] 3)).turned hgrow4 (by simp)
          have hq4 : Blk w4 Q 81 #[.slice (some ⟨b3, off3, none⟩) N c, .slice (some ⟨g1, 0, none⟩) m cl1, .int .i64 size] := HQV.out.held hh4 (by simp; omega)
          have hp04 : Blk w4 S 79 #[.pointer (some ⟨Q, 0, none⟩)] := HP0V.out.held hh4 (by simp; omega)
          have hc4 : w4.cell? ⟨S, 0, none⟩ = some (.pointer (some ⟨Q, 0, none⟩)) ∧ w4.cell? ⟨Q, 1, none⟩ = some (.slice (some ⟨g1, 0, none⟩) m cl1) := ⟨hp04.cell 0, hq4.cell 1⟩
          have hc0 : V.drew.cell? ⟨S, 0, none⟩ = some (.pointer (some ⟨Q, 0, none⟩)) ∧ V.drew.cell? ⟨Q, 1, none⟩ = some (.slice (some ⟨g1, 0, none⟩) m cl1) := ⟨HP0V.out.drew.cell 0, HQV.out.drew.cell 1⟩
          have hc1 : (V.drew.alloc (.cells #[.int .i64 (j : Int)] 3)).cell? ⟨S, 0, none⟩ = some (.pointer (some ⟨Q, 0, none⟩)) ∧ (V.drew.alloc (.cells #[.int .i64 (j : Int)] 3)).cell? ⟨Q, 1, none⟩ = some (.slice (some ⟨g1, 0, none⟩) m cl1) := ⟨(HP0V.out.drew.alloc _).cell 0, (HQV.out.drew.alloc _).cell 1⟩
          have f4 := hq4.frozen 1
          have c41 := hq4.cell 1
          have HC4 := Lib.hid hc4
          have HC0 := Lib.hid hc0
          have HC1 := Lib.hid hc1
          have HQ4 := Lib.hid hq4
          have HP04 := Lib.hid hp04
          have HP14 := Lib.hid (HP1V.out.held hh4 (by simp; omega))
          have HP34 := Lib.hid (HP3V.out.held hh4 (by simp; omega))
          have HK24 := Lib.hid (HK2V.out.held hh4 (by simp; omega))
          have HRT4 := Lib.hid (HRTV.out.below (hh4.to (B := B) (by omega) (by simp; omega)))
          have HT4 := Lib.hid (HTV.out.block hh4.size (hh4.block 0 (by omega) (by simp; omega)))
          have HO4 := Lib.hid hown4
          have HH4 := Lib.hid hh4
          have hsz4 := hh4.size
          clear hbc hown4 hgrow4 hloc4 heq hq4 hp04 hc4 hc0 hc1 hh4 hlenI x0 x1 x2 x3 x4 x5 x6 x8
          gi_wp2_with fail
          refine region_round 10 11 (fun w' => w'.cell? ⟨S, 0, none⟩ = some (.pointer (some ⟨Q, 0, none⟩)) ∧ w'.cell? ⟨Q, 1, none⟩ = some (.slice (some ⟨g1, 0, none⟩) m cl1)) (by kernel_rfl) rfl (by kernel_rfl) ?_
          refine anyC_reads (by kernel_rfl) [0, 1, 2, 3, 4, 5] ?optb ?ohtb 5 _ _ _ (by kernel_rfl) ?oktb
          case ohtb => (simp only [List.filterMap_cons, List.filterMap_nil, List.getElem?_toArray, List.getElem?_cons_zero, List.getElem?_cons_succ]; try rfl)
          repeat (
            refine readC_step (v := ?_) rfl (fun w' hw' => ?_) ?_
            rotate_left
            focus (obtain ⟨s0, s1⟩ := hw'; go_simp; try with_reducible rfl)
            go_simp)
          refine readC_nil ?_
          refine anyC_one (i := 6) (by kernel_rfl) rfl rfl (.inr HC0.out) ?_
          go_simp
          refine anyC_one (i := 7) (by kernel_rfl) rfl rfl (.inr HC1.out) ?_
          refine wp_append_run _ _ _ rfl _ _ rfl rfl _ _ happ ?_
          go_simp
          refine anyC_one (i := 8) (by kernel_rfl) rfl rfl (.inr HC4.out) ?_
          go_simp
          refine anyC_one (i := 9) (by kernel_rfl) rfl rfl (.inr HC4.out) ?_
          go_simp
          refine anyC_one (i := 10) (by kernel_rfl) rfl rfl (.inr HC4.out) ?_
          go_simp
          refine anyC_end (by kernel_rfl) (.inl (by kernel_rfl)) ?_
          gi_wp2_with fail
          obtain ⟨W6, hW6⟩ : ∃ W6, W6 = w4.setCell ⟨Q, 1, none⟩ (.slice (some ⟨g4, 0, none⟩) (m + 1) cap4) := ⟨_, rfl⟩
          rw [← hW6]
          have hg4Q : g4 ≠ Q := own_blk_ne HO4.out HQ4.out (by decide)
          have hg4S : g4 ≠ S ∧ g4 ≠ S + 1 ∧ g4 ≠ S + 1 + 1 ∧ g4 ≠ S + 1 + 1 + 1 ∧ g4 ≠ S + 1 + 1 + 1 + 1 ∧ g4 ≠ S + 1 + 1 + 1 + 1 + 1 := by omega
          have hz6 : W6.heap.size = w4.heap.size := by rw [hW6]; simp [World.setCell]
          have hq6 : Blk W6 Q 81 #[.slice (some ⟨b3, off3, none⟩) N c, .slice (some ⟨g4, 0, none⟩) (m + 1) cap4, .int .i64 size] := by rw [hW6]; exact HQ4.out.put 1 _
          have ho6 : Own W6 B 3 1 icell (some ⟨g4, 0, none⟩) cap4 (intsOf (l ++ [j])) := by rw [hW6]; exact HO4.out.far (p := ⟨Q, 1, none⟩) (fun he => hg4Q (by injection he)) _
          have hp06 : Blk W6 S 79 #[.pointer (some ⟨Q, 0, none⟩)] := by rw [hW6]; exact HP04.out.far (p := ⟨Q, 1, none⟩) (show S ≠ Q by omega) _
          have hp16 : Blk W6 (S + 1) 58 #[.int .u32 (wN Y)] := by rw [hW6]; exact HP14.out.far (p := ⟨Q, 1, none⟩) (show S + 1 ≠ Q by omega) _
          have hp36 : Blk W6 (S + 1 + 1 + 1) 3 #[.int .i64 m] := by rw [hW6]; exact HP34.out.far (p := ⟨Q, 1, none⟩) (show S + 1 + 1 + 1 ≠ Q by omega) _
          have hk26 : Blk W6 (S + 1 + 1) 4 #[.bool false] := by rw [hW6]; exact HK24.out.far (p := ⟨Q, 1, none⟩) (show S + 1 + 1 ≠ Q by omega) _
          have hh6 : Held [Q, g1] V W6 := by rw [hW6]; exact (HH4.out.mono (ex' := [Q, g1]) (fun k hk _ => by simp at hk ⊢; omega)).setCell (p := ⟨Q, 1, none⟩) (by simp) _
          have hrt6 : Els W6 B 1 wcell (some ⟨b3, off3, none⟩) t := by rw [hW6]; exact HRT4.out.below ((Below.refl B w4).setCell (p := ⟨Q, 1, none⟩) hBQ _)
          have htb6 : TabOk W6 := HT4.out.block (by rw [hz6]; exact Nat.le_refl _) (by rw [hW6]; exact Below.heap_setCell w4 ⟨Q, 1, none⟩ _ 0 (show (0 : Nat) ≠ Q by omega))
          have HCALL := Lib.hid (HIH.out (l ++ [j]) g4 (m + 1) cap4 W6.drew (by rw [List.length_append, HM.out]; rfl) (by omega) (by omega) HOKJ.out (hrt6.below (Below.refl B W6).drew) hq6.drew ho6.drew (htb6.block (Nat.le_refl _) rfl))
          rw [leftW_snoc, ← HY.out] at HCALL
          have r0 := hp06.cell 0
          have r1 := hp16.cell 0
          have HQ6 := Lib.hid hq6
          have HO6 := Lib.hid ho6
          have HP06 := Lib.hid hp06
          have HP36 := Lib.hid hp36
          have HK26 := Lib.hid hk26
          have HH6 := Lib.hid hh6
          clear hW6 hq6 ho6 hp06 hp16 hp36 hk26 hh6 hrt6 htb6 f4 c41 happ HC0 HC1 HC4
          refine region_round 5 6 (fun w' => w' = W6.drew) (by kernel_rfl) rfl (by kernel_rfl) ?_
          refine anyC_reads (by kernel_rfl) [0, 1, 2, 3, 4] ?opub ?ohub 1 _ _ _ (by kernel_rfl) ?okub
          case ohub => (simp only [List.filterMap_cons, List.filterMap_nil, List.getElem?_toArray, List.getElem?_cons_zero, List.getElem?_cons_succ]; try rfl)
          repeat (
            refine readC_step (v := ?_) rfl (fun w' hw' => ?_) ?_
            rotate_left
            focus (subst hw'; go_simp; try with_reducible rfl)
            go_simp)
          refine readC_nil ?_
          refine anyC_one (i := 5) (by kernel_rfl) rfl rfl (.inr rfl) ?_
          go_simp
          refine HCALL.out.mono ?_
          clear HCALL
          rintro e v7 ⟨g7, cr7, hh7, hg7, hres⟩
          have hs6 : W6.drew.heap.size = W6.heap.size := rfl
          rw [hs6] at hg7
          have hg7c : g7 = g ∨ W5.heap.size ≤ g7 := by omega
          have hg7S : g7 ≠ S ∧ g7 ≠ S + 1 ∧ g7 ≠ S + 1 + 1 ∧ g7 ≠ S + 1 + 1 + 1 ∧ g7 ≠ S + 1 + 1 + 1 + 1 ∧ g7 ≠ S + 1 + 1 + 1 + 1 + 1 := by omega
          have hall : Held [Q, g1] V v7 := HH6.out.then (b := W6) (Held.then (ex := [Q, g4]) ((Held.refl [Q, g4] W6).drew1) hh7 (fun i hi _ => hi)) (fun i hi hlt => by simp at hi ⊢; omega)
          have hk7 : Blk v7 (S + 1 + 1) 4 #[.bool false] := HK26.out.drew.held hh7 (by simp; omega)
          have hp7 : Blk v7 S 79 #[.pointer (some ⟨Q, 0, none⟩)] := HP06.out.drew.held hh7 (by simp; omega)
          have hp37 : Blk v7 (S + 1 + 1 + 1) 3 #[.int .i64 m] := HP36.out.drew.held hh7 (by simp; omega)
          have hkf : KeepsFrom W5.heap.size V v7 := KeepsFrom.held hall (fun k hk o ho => by
            simp only [List.mem_cons, List.not_mem_nil, or_false] at hk
            rcases hk with rfl | rfl
            · exact HQV.out.isCells o ho
            · exact HOV.out.isCells o ho)
          have hkp : KpE (S + 1 + 1 + 1 + 1 + 1) 58 V v7 := KpE.held hall (by simp; omega) (by simp; omega)
          have hhx : Held [Q, g, S + 1 + 1, S + 1 + 1 + 1 + 1 + 1] W5 v7 := HHV.out.then hall (fun i hi hlt => by simp at hi ⊢; omega)
          have HK7 := Lib.hid hk7
          have HP7 := Lib.hid hp7
          have HP37 := Lib.hid hp37
          have HKF := Lib.hid (HKFV.out.trans hkf)
          have HKP := Lib.hid (HKPV.out.trans hkp)
          have HHX := Lib.hid hhx
          cases hrow : bareF t N f (l ++ [j]) with
          | some u =>
            rw [hrow] at hres
            obtain ⟨rfl, hq7, ho7⟩ := hres
            have HROW := Lib.hid hrow
            have HQ7 := Lib.hid hq7
            have HO7 := Lib.hid ho7
            have c7 := hk7.cell 0
            have f7 := hk7.frozen 0
            clear hrow hq7 ho7 hall hk7 hp7 hp37 hkf hkp hhx hh7
            go_simp
            refine anyC_end (by kernel_rfl) (.inl (by kernel_rfl)) ?_
            gi_wp2_with fail
            refine ⟨HKF.out.trans (KeepsFrom.box (t := 4) HK7.out _), HHX.out.setCell (p := ⟨S + 1 + 1, 0, none⟩) (by simp) _, rfl, u, g7, cr7, ?_, HQ7.out.far (p := ⟨S + 1 + 1, 0, none⟩) (show Q ≠ S + 1 + 1 by omega) _, HO7.out.far (p := ⟨S + 1 + 1, 0, none⟩) (fun he => hg7S.2.2.1 (by injection he)) _, hg7c, HK7.out.put 0 _⟩
            rw [List.findSome?_append, HFS.out]
            simp [HSTP.out, HROW.out]
          | none =>
            rw [hrow] at hres
            obtain ⟨rfl, hq7, ho7⟩ := hres
            have hcr := ho7.cap_le
            rw [intsOf, List.length_map, List.length_append, HM.out, List.length_singleton] at hcr
            have heq7 : intsOf (l ++ [j]) = intsOf l ++ [(j : Int)] := by simp [intsOf]
            have hpop : Own v7 B 3 1 icell (some ⟨g7, 0, none⟩) cr7 (intsOf l) := by rw [heq7] at ho7; exact ho7.pop
            have hg7Q : g7 ≠ Q := own_blk_ne ho7 hq7 (by decide)
            have HROW := Lib.hid hrow
            have HQ7 := Lib.hid hq7
            have HPOP := Lib.hid hpop
            have c70 := hp7.cell 0
            have c71 := hq7.cell 1
            have c72 := hp37.cell 0
            have f71 := hq7.frozen 1
            have hwm : IntKind.i64.wrap (m : Int) = (m : Int) := wrap_le20 m (by omega)
            have hm0 : (0 : Int) ≤ (m : Int) ∧ (m : Int) ≤ (cr7 : Int) := by omega
            have hm1 : (m : Int) ≤ (cr7 : Int) := by omega
            clear hrow hq7 ho7 hall hk7 hp7 hp37 hkf hkp hhx hh7 hpop heq7
            go_simp
            refine anyC_end (by kernel_rfl) (.inl (by kernel_rfl)) ?_
            gi_wp2_with fail
            refine region_round 9 10 (fun w' => w' = v7.drew) (by kernel_rfl) rfl (by kernel_rfl) ?_
            refine anyC_reads (by kernel_rfl) [0, 1, 2, 3, 4, 5, 6, 7, 8] ?opvb ?ohvb 1 _ _ _ (by kernel_rfl) ?okvb
            case ohvb => (simp only [List.filterMap_cons, List.filterMap_nil, List.getElem?_toArray, List.getElem?_cons_zero, List.getElem?_cons_succ]; try rfl)
            repeat (
              refine readC_step (v := ?_) rfl (fun w' hw' => ?_) ?_
              rotate_left
              focus (subst hw'; go_simp; try with_reducible rfl)
              go_simp)
            refine readC_nil ?_
            refine anyC_one (i := 9) (by kernel_rfl) rfl rfl (.inr rfl) ?_
            go_simp
            refine anyC_end (by kernel_rfl) (.inl (by kernel_rfl)) ?_
            gi_wp2_with fail
            have hsx : Held [Q] v7 (v7.setCell ⟨Q, 1, none⟩ (.slice (some ⟨g7, 0, none⟩) m cr7)) := (Held.refl [Q] v7).setCell (p := ⟨Q, 1, none⟩) (by simp) _
            have hkx : KeepsFrom W5.heap.size v7 (v7.setCell ⟨Q, 1, none⟩ (.slice (some ⟨g7, 0, none⟩) m cr7)) := KeepsFrom.held hsx (fun k hk o ho => by
              simp only [List.mem_cons, List.not_mem_nil, or_false] at hk
              subst hk
              exact HQ7.out.isCells o ho)
            have hkpx : KpE (S + 1 + 1 + 1 + 1 + 1) 58 v7 (v7.setCell ⟨Q, 1, none⟩ (.slice (some ⟨g7, 0, none⟩) m cr7)) := KpE.held hsx (by simp; omega) (by simp; omega)
            exact ⟨KeepsFrom.drew (HKF.out.trans hkx), (HKP.out.trans hkpx).drew, (HHX.out.setCell (p := ⟨Q, 1, none⟩) (by simp) _).drew1, g7, cr7, findSome_more HFS.out (by rw [HSTP.out]; exact HROW.out), (HQ7.out.put 1 _).drew, (HPOP.out.far (p := ⟨Q, 1, none⟩) (fun he => hg7Q (by injection he)) _).drew, hg7c, (HK7.out.far (p := ⟨Q, 1, none⟩) (show S + 1 + 1 ≠ Q by omega) _).drew⟩
    case done =>
      intro D W hD hh hi hdef
      obtain ⟨g1, cl1, hfs, hqW, hoW, hg1, hk2W⟩ := hi
      have HMK := Lib.hid (hmarks D W hD hh hdef)
      have f2 := hk2W.frozen 0
      have c2 := hk2W.cell 0
      have HM2 := Lib.hid (HMK.out.setCell (p := ⟨S + 1 + 1, 0, none⟩) (.bool false) (fun o ho he => by rw [show W.heap[S + 1 + 1]? = _ from hk2W] at ho; cases ho; cases he))
      have HQ2 := Lib.hid (hqW.far (p := ⟨S + 1 + 1, 0, none⟩) (show Q ≠ S + 1 + 1 by omega) (.bool false))
      have HO2 := Lib.hid (hoW.far (p := ⟨S + 1 + 1, 0, none⟩) (fun he => hbxne2 g1 hg1 (by injection he)) (.bool false))
      have HP2 := Lib.hid (hk2W.put 0 (.bool false))
      have HHH := Lib.hid (hh.setCell (p := ⟨S + 1 + 1, 0, none⟩) (by simp) (.bool false))
      have HFS := Lib.hid hfs
      clear hh hdef hfs hqW hoW hk2W HMK htw hk5b
      gi_wp2_with fail
      refine bodyPostM_ret HM2.out fun w' hw' => ?_
      have hv := (HP2.out.shut hw').cell 0
      refine ⟨.bool false, by simp [results, Tryd.results51, go_sem, hv], g1, cl1, hfin _ _ HHH.out hw', by rw [HSW2.out]; omega, ?_⟩
      rw [bareF_bits (by omega), ← HX.out, show (bitsL X).findSome? (fun i => if pickB t l i (f == 0) = true then bareF t N f (l ++ [i]) else none) = none from HFS.out]
      exact ⟨rfl, HQ2.out.shut hw', HO2.out.shut hw'⟩
    case stop =>
      rintro D cd pre W hD hpre hh ⟨rfl, u, g1, cr, hfs, hqW, hoW, hg1, hk2W⟩ hdef
      have HMK := Lib.hid (hmarks D W hD hh hdef)
      have HQ2 := Lib.hid hqW
      have HO2 := Lib.hid hoW
      have HP2 := Lib.hid hk2W
      have HHH := Lib.hid hh
      have hall : bareF t N (f + 1) l = some u := by
        rw [bareF_bits (by omega), ← HX.out]
        obtain ⟨z, hz⟩ := hpre
        rw [← hz, List.findSome?_append]
        rw [show pre.findSome? (fun i => if pickB t l i (f == 0) = true then bareF t N f (l ++ [i]) else none) = some u from hfs]
        rfl
      have HALL := Lib.hid hall
      clear hh hdef hfs hqW hoW hk2W hpre htw hk5b hall
      gi_wp2_with fail
      refine bodyPostM_ret HMK.out fun w' hw' => ?_
      have hv := (HP2.out.shut hw').cell 0
      refine ⟨.bool true, by simp [results, Tryd.results51, go_sem, hv], g1, cr, hfin _ _ HHH.out hw', by rw [HSW2.out]; omega, ?_⟩
      rw [HALL.out]
      exact ⟨rfl, HQ2.out.shut hw', HO2.out.shut hw'⟩
end Go.Proofs.YtfaifadfilndmaaDoor
