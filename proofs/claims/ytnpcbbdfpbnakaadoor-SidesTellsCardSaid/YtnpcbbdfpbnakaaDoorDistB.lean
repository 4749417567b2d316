/- Distances: the program's walk. Conditions: the edges read as a list; the table. -/
import Derived.Test.YtnpcbbdfpbnakaaDoorHeldM
import Derived.Test.YtnpcbbdfpbnakaaDoorBfsP
import Derived.BigRegionIn
import Derived.Sort.QuietIn
namespace Go.Proofs.YtnpcbbdfpbnakaaDoor
open Go.RowKit Go.Shelf
attribute [local go_sem] Oper.semAt_some
attribute [local go_sem ↓] w_and w_or w_xor w_andNot w_and1 w_and255 w_xor1 w_or0 w_shl w_shl1 w_shr w_sub w_add w_sub1 w_add1
attribute [local go_sem] w_eq0 w_ne0 w_eq1 w_eq w_ne

theorem rowL_rep (N : Nat) (x : Int) : List.replicate N x = rowL N (fun _ => x) := by
  unfold rowL
  apply List.ext_getElem (by simp)
  intro i h1 h2
  simp
theorem rowL_set (N j : Nat) (f g : Nat → Int) (x : Int) (h : ∀ i, i < N → g i = if i = j then x else f i) : (rowL N f).set j x = rowL N g := by
  unfold rowL
  rw [mapR_set]
  exact mapR_congr fun i hi => (h i hi).symm

def DistRes (N : Int) (l : List Ed) (w w' : World) (e : Ending) : Prop :=
  ∃ (A' : Option Addr) (k cap : Nat), e = .returned (.tuple #[.slice A' k cap, .int .i64 (graphCheck N l)]) ∧ Below w.heap.size w w' ∧
      (graphCheck N l ≠ 0 → k = 0) ∧ (graphCheck N l = 0 → ∃ (m : Nat) (P : List (Nat × Nat)) (M : Nat → Nat → Int), N = m ∧ k = m ∧ P.length = m ∧ Mat w' w.heap.size m A' cap P M ∧ ∀ i j, i < m → j < m → DistIs (Adj l) i j (M i j))
set_option maxRecDepth 100000 in
set_option maxHeartbeats 2000000 in
theorem graph_Dist (N : Int) (A : Option Addr) (n c : Nat) (l : List Ed) (w : World) (hl : l.length = n) (hn : n ≤ maxLen) (hr : Els w w.heap.size 3 Ed.cells A l) (htab : TabOk w) :
    Calls Tryd.prog 47 #[.agg #[.int .i64 N, .slice A n c]] w fun e w' => DistRes N l w w' e := by
  have h0w : 0 < w.heap.size := Nat.lt_of_le_of_lt (Nat.zero_le _) htab.1
  have hb0 := (Below.refl w.heap.size w).alloc (Nat.le_refl _) (.cells #[.int .i64 N, .slice A n c] 31)
  have hB0 := Blk.new w 31 #[.int .i64 N, .slice A n c]
  have HW := Lib.hid (graph_Check N A n c l (w.alloc (.cells #[.int .i64 N, .slice A n c] 31)) hl hn ((hr.alloc (Nat.le_refl _) _).more (by rw [size_alloc']; omega)))
  have HL := Lib.hid hl
  have HR := Lib.hid hr
  have HB0 := Lib.hid hb0
  have HK0 := Lib.hid hB0
  have HTB := Lib.hid htab
  have c0 := hB0.cell 0
  have c1 := hB0.cell 1
  clear hr hb0 hB0 hl htab
  refine (callsIn_wide (n := 9)).1 ?_
  refine callsIn_of_wp_marks Tryd.func47 rfl trivial ?_ rfl
  simp only [Tryd.ntmps47, List.size_toArray, List.length_cons, List.length_nil, Nat.reduceAdd, Nat.reduceSub, Array.replicate_succ, Array.replicate_zero, List.push_toArray, List.append_toArray, List.nil_append, List.cons_append]
  refine wpIn_wide.2 ?_
  go_wp2_with fail
  refine HW.out.mono ?_
  clear HW
  rintro e v1 ⟨rfl, hb1⟩
  have hk1 := HK0.out.below hb1 (by rw [size_alloc']; omega)
  have hb1' := HB0.out.trans (hb1.mono (by rw [size_alloc']; omega))
  have hz1 := hb1'.size
  have hlt1 := hk1.lt
  have HB1 := Lib.hid hb1'
  have HK1 := Lib.hid hk1
  clear c0 c1 hb1 hb1'
  have c0 := hk1.cell 0
  have c1 := hk1.cell 1
  clear hk1
  by_cases h0 : graphCheck N l = 0
  · obtain ⟨m, rfl, hg⟩ := graph_good h0
    have HZ := Lib.hid h0
    have HG := Lib.hid hg
    have hm := hg.n10
    have HN := Lib.hid (graph_Near m A n c l v1 HL.out hg ((HR.out.below HB1.out).more hz1))
    rw [h0]
    clear h0 hg
    go_wp2_with fail
    refine HN.out.mono ?_
    clear HN
    rintro e v2 ⟨A1, rfl, hb2, hown2⟩
    have hk2 := HK1.out.below hb2 hlt1
    have hb2' := HB1.out.trans (hb2.mono hz1)
    have hz2 := hb2'.size
    obtain ⟨S, hS⟩ : ∃ S, S = v2.heap.size := ⟨_, rfl⟩
    obtain ⟨W1, hW1⟩ : ∃ W1, W1 = v2.alloc (.cells #[.slice A1 m m] 41) := ⟨_, rfl⟩
    have HE2 : Hid (Els v2 S 1 wcell A1 (nearL m l)) := Lib.hid (by rw [hS]; exact hown2.els)
    have hB2 : Below S v2 W1 := by rw [hW1, hS]; exact (Below.refl _ v2).alloc (Nat.le_refl _) _
    have hX2 : Boxed W1 S 41 (.slice A1 m m) := by rw [hW1, hS]; exact Boxed.new v2 _ _
    have hT2 : TabOk W1 := (HTB.out.below hb2' h0w).below hB2 (by omega)
    have hk2' := hk2.below hB2 (by rw [hS]; exact hk2.lt)
    have hwS : w.heap.size < S := by rw [hS]; exact hk2.lt
    have HB2 := Lib.hid hb2'
    have HK2 := Lib.hid hk2
    have HB2' := Lib.hid hB2
    have HX2 := Lib.hid hX2
    have HT2 := Lib.hid hT2
    have HS := Lib.hid hS
    clear hb2 hb2' hown2 c0 c1 HK1 hB2 hX2 hT2 hk2
    have c0 := hk2'.cell 0
    have c1 := hk2'.cell 1
    rw [hW1] at c0 c1
    go_wp2_with fail
    rw [← hW1, ← hS]
    clear c0 c1 hW1 hS hk2'
    refine wpIn_wide.1 (wpIn_loop_marks (F := Fence.wide) (n := 9) [6, 7, 8, 9, 10, 11, 12, 13, 14, 24, 25, 26, 27, 28, 29, 30, 31, 32, 33, 34, 35, 36, 37, 38, 39, 40, 41, 42, 43, 44, 45, 46, 47, 48, 49, 50, 51, 52, 53, 54, 55, 56, 57, 58, 59, 60, 61, 62, 63, 64, 65, 66, 67, 68, 69]
      (fun g ds wr => ∃ (k : Nat) (A6 : Option Addr) (c6 : Nat) (P : List (Nat × Nat)) (M : Nat → Nat → Int), k ≤ m ∧ g 24 = .int .i64 k ∧ g 6 = .slice A6 k c6 ∧ P.length = k ∧ (∀ i j, i < k → j < m → DistIs (Adj l) i j (M i j)) ∧ Below S v2 wr ∧ Boxed wr S 41 (.slice A1 m m) ∧ TabOk wr ∧ Marks S ds wr ∧ Mat wr (S + 1) m A6 c6 P M)
      (fun g _ => m - (intOf (g 24)).toNat) ?same ⟨0, none, 0, [], fun _ _ => 0, by omega, ?s24, ?s6, rfl, fun i j h => by omega, HB2'.out, HX2.out, HT2.out, Marks.nil _ _, Mat.nil _ _ _ _⟩ ?round (fun g g' w h => by simp only [h 24 (by simp)]) (by decide) 71 rfl (by decide))
    case same => simp only [patch, slot, List.foldl_cons, List.foldl_nil, List.set_cons_succ, List.set_cons_zero, List.getD_cons_succ, List.getD_cons_zero]
    case s24 => (simp only [slot, List.getD_cons_succ, List.getD_cons_zero]; try rfl)
    case s6 => simp only [slot, List.getD_cons_succ, List.getD_cons_zero]
    case round =>
      rintro g ds wr K ⟨k, A6, c6, P, M, hk, hg24, hg6, hP, hdi, hb, hx, ht, hmk, hmat⟩ hK
      refine wpIn_wide.2 ?_
      simp only [patch, List.foldl_cons, List.foldl_nil, List.set_cons_succ, List.set_cons_zero, hg24, hg6]
      have HG24 := Lib.hid hg24
      have HK := Lib.hid hK
      have HP := Lib.hid hP
      have HDI := Lib.hid hdi
      have HB := Lib.hid hb
      have HX := Lib.hid hx
      have HT := Lib.hid ht
      have HMK := Lib.hid hmk
      have HMAT := Lib.hid hmat
      have hkr := HK2.out.below hb (by omega)
      have c0 := hkr.cell 0
      have hSG := hx.lt
      clear hK hb hx ht hmk hmat hkr hg24 hg6 hP hdi
      by_cases hlt : k < m
      · go_wp2_with (at_make; go_loud (refine wpList_make1 rfl _ _ _ rfl wr.heap.size 3 8 (fun x => .int .i64 x) 0 Tryd.underlying32 (by kernel_rfl) rfl wr .i64 .i64 m rfl rfl (by omega) (by unfold maxLen; omega) (Nat.le_refl _) ?_; intro v4 hown4 hgrow4))
        obtain ⟨G, hG⟩ : ∃ G, G = wr.heap.size := ⟨_, rfl⟩
        obtain ⟨V, hV⟩ : ∃ V, V = v4.alloc (.cells #[.slice (some ⟨G, 0, none⟩) m m] 32) := ⟨_, rfl⟩
        obtain ⟨T8, hT8⟩ : ∃ T8, T8 = v4.heap.size := ⟨_, rfl⟩
        have hb4 : Below G wr v4 := by rw [hG]; exact (Below.refl _ _).grown hgrow4 (Nat.le_refl _) (fun g hg => by cases hg)
        have hGT : G < T8 := by rw [hT8, hG]; exact (hown4.lt _ rfl).2
        have hbV : Below G wr V := by rw [hV]; exact hb4.alloc (by omega) _
        have hoV : Own V G 3 1 icell (some ⟨G, 0, none⟩) m (rowL m (fun x => if x < 0 then -1 else 0)) := by
          rw [hV, hG]
          have := hown4.alloc (.cells #[.slice (some ⟨wr.heap.size, 0, none⟩) m m] 32)
          rw [rowL_rep] at this
          exact this
        have hxV : Boxed V T8 32 (.slice (some ⟨G, 0, none⟩) m m) := by rw [hV, hT8]; exact Boxed.new _ _ _
        have HG' := Lib.hid hG
        rw [← hG, ← hV, ← hT8]
        have HBV := Lib.hid hbV
        have HOV := Lib.hid hoV
        have HXV := Lib.hid hxV
        have c8 := hxV.cell
        rw [← hG] at hSG
        clear hown4 hgrow4 hb4 hbV hoV hxV hV hT8 hG c0
        go_wp2_with fail
        clear c8
        go_loopw [32] (fun s32 w5 => ∃ j : Nat, j ≤ m ∧ s32 = .int .i64 j ∧ Below G wr w5 ∧ Own w5 G 3 1 icell (some ⟨G, 0, none⟩) m (rowL m (fun x => if x < j then -1 else 0)) ∧ Boxed w5 T8 32 (.slice (some ⟨G, 0, none⟩) m m)) (fun s32 _ => m - (intOf s32).toNat)
        case atStart => exact ⟨0, by omega, rfl, HBV.out, HOV.out, HXV.out⟩
        case round =>
          clear HBV HOV HXV
          rename World => w5
          obtain ⟨j, hj, rfl, hb, ho, hx⟩ := hrel
          have c8 := hx.cell
          have HB5 := Lib.hid hb
          have HO5 := Lib.hid ho
          have HX5 := Lib.hid hx
          by_cases hlj : j < m
          · have hjl : j < (rowL m (fun x => if x < j then (-1 : Int) else 0)).length := by rw [rowL_len]; exact hlj
            obtain ⟨_, e1, _, _, d1, f1⟩ := ho.cell1 (f := fun x => .int .i64 x) hjl
            have hp := ho.put1 (f := fun x => .int .i64 x) (x := -1) hjl
            rw [rowL_set m j _ (fun x => if x < j + 1 then -1 else 0) (-1) (fun i _ => by by_cases h : i = j <;> simp [h] <;> (repeat' split) <;> omega)] at hp
            obtain rfl : G = _ := by simpa using e1
            have HPU := Lib.hid hp
            clear hb ho hx hp e1
            go_wp2_with fail
            go_roundw
            case rel => exact ⟨j + 1, by omega, by go_num, HB5.out.setCell (p := ⟨G, j, none⟩) (Nat.le_refl _) _, HPU.out, boxed_far HX5.out (p := ⟨G, j, none⟩) (show T8 ≠ G by omega) _⟩
            case measure => simp [intOf]; omega
          · obtain rfl : j = m := by omega
            have hrow : rowL j (fun x => if x < j then (-1 : Int) else 0) = rowL j (fun _ => -1) := mapR_congr fun i hi => by rw [if_pos hi]
            rw [hrow] at ho
            obtain ⟨w6, hw6⟩ : ∃ w6, w6 = w5.alloc (.cells #[.int .i64 0] 3) := ⟨_, rfl⟩
            obtain ⟨D0, hD0⟩ : ∃ D0, D0 = w5.heap.size := ⟨_, rfl⟩
            have hb6 : Below G wr w6 := by rw [hw6]; exact hb.alloc (by have := hb.size; rw [HG'.out]; omega) _
            have ho6 : Own w6 G 3 1 icell (some ⟨G, 0, none⟩) j (rowL j (fun _ => -1)) := by rw [hw6]; exact ho.alloc _
            have hx6 : Boxed w6 T8 32 (.slice (some ⟨G, 0, none⟩) j j) := by rw [hw6]; exact hx.alloc _
            have hd6 : Boxed w6 D0 3 (.int .i64 (0 : Nat)) := by rw [hw6, hD0]; exact Boxed.new _ _ _
            have hTD : T8 < D0 := by rw [hD0]; exact hx.lt
            have HB6 := Lib.hid hb6
            have HO6 := Lib.hid ho6
            have HX6 := Lib.hid hx6
            have HD6 := Lib.hid hd6
            have HMK6 := Lib.hid (HMK.out.below hb6 (by rw [HG'.out]; exact Nat.le_refl _))
            have HST := Lib.hid (Bfs.start (l := l) hlt hm)
            clear hb ho hx hrow hb6 ho6 hx6 hd6 HO5 HB5 HX5
            go_wp2_with fail
            rw [← hw6, ← hD0]
            clear hw6 hD0
            refine wpIn_wide.1 (wpIn_loop_marks (F := Fence.wide) (n := 9) [10, 11, 12, 13, 14, 41, 42, 43, 44, 45, 46, 47, 48, 49, 50, 51, 52, 53, 54, 55, 56, 57, 58, 59, 60, 61, 62, 63, 64]
              (fun g3 ds3 w7 => ∃ (d D : Nat) (seen next : BitVec 32) (f : Nat → Int), g3 10 = .int .u32 (wN seen) ∧ g3 11 = .int .u32 (wN next) ∧ g3 12 = .pointer (some ⟨D, 0, none⟩) ∧ Bfs j l k d seen next f ∧ T8 < D ∧ Below G wr w7 ∧ Boxed w7 T8 32 (.slice (some ⟨G, 0, none⟩) j j) ∧ Boxed w7 D 3 (.int .i64 d) ∧ Own w7 G 3 1 icell (some ⟨G, 0, none⟩) j (rowL j f) ∧ Marks S ds3 w7)
              (fun g3 _ => 4294967296 - (wordV (g3 10)).toNat) ?same3 ⟨0, D0, w0, wShl w1 k, fun _ => -1, ?s10, ?s11, ?s12, HST.out, hTD, HB6.out, HX6.out, HD6.out, HO6.out, HMK6.out⟩ ?round3 (fun g g' w h => by simp only [h 10 (by simp)]) (by decide) 71 rfl (by decide))
            case same3 => simp only [patch, slot, List.foldl_cons, List.foldl_nil, List.set_cons_succ, List.set_cons_zero, List.getD_cons_succ, List.getD_cons_zero]
            case s10 => (simp only [slot, List.getD_cons_succ, List.getD_cons_zero]; try rfl)
            case s11 => (simp only [slot, List.getD_cons_succ, List.getD_cons_zero]; try rfl)
            case s12 => simp only [slot, List.getD_cons_succ, List.getD_cons_zero]
            case round3 =>
              clear HB6 HX6 HD6 HO6 HMK6 HST hTD
              rintro g3 ds3 w7 K3 ⟨d, D, seen, next, f, hg10, hg11, hg12, hbf, hTD, hb, hx, hd, ho, hmk⟩ hK3
              refine wpIn_wide.2 ?_
              simp only [patch, List.foldl_cons, List.foldl_nil, List.set_cons_succ, List.set_cons_zero, hg10, hg11, hg12]
              have HG10 := Lib.hid hg10
              have HK3 := Lib.hid hK3
              have HBF := Lib.hid hbf
              have HB7 := Lib.hid hb
              have HX7 := Lib.hid hx
              have HD7 := Lib.hid hd
              have HO7 := Lib.hid ho
              have HMK7 := Lib.hid hmk
              have hG7 := (ho.lt G rfl).2
              have hD7 := hd.lt
              have c8 := hx.cell
              clear hK3 hg10 hg11 hg12 hbf hb hx hd ho hmk
              by_cases hy0 : next = w0
              · subst hy0
                have hw0 : (w0 != w0) = false := by simp
                obtain ⟨M', hM'⟩ : ∃ M' : Nat → Nat → Int, M' = fun i => if i = k then f else M i := ⟨_, rfl⟩
                have hmat7 : Mat w7 (S + 1) j A6 c6 P M' := (HMAT.out.below (by rw [← HG'.out]; exact HB7.out)).congr fun i hi q _ => by
                  rw [hM']
                  have : ¬ i = k := by have := HP.out; omega
                  simp [this]
                have hrow7 : Own w7 (S + 1) 3 1 icell (some ⟨G, 0, none⟩) j (rowL j (M' P.length)) := by
                  rw [hM', HP.out]
                  simp only [if_true]
                  exact HO7.out.weaken (by omega)
                have hap7 : Apart P G := fun i hi => by
                  obtain ⟨_, _, _, _, _, _, _, h7, _⟩ := HMAT.out.at_ hi
                  rw [HG'.out]
                  omega
                have hdi7 : ∀ i q, i < k + 1 → q < j → DistIs (Adj l) i q (M' i q) := fun i q hi hq => by
                  rw [hM']
                  by_cases e : i = k
                  · subst e
                    simp only [if_true]
                    exact HBF.out.done hq
                  · simp only [if_neg e]
                    exact HDI.out i q (by omega) hq
                have HMAT7 := Lib.hid hmat7
                have HROW7 := Lib.hid hrow7
                have HAP7 := Lib.hid hap7
                have HDI7 := Lib.hid hdi7
                have hS7 : S + 1 ≤ w7.heap.size := by omega
                clear hmat7 hrow7 hap7 hdi7 hM'
                go_wp2_with (at_builtin; go_loud (refine wpList_push rfl _ _ _ rfl (S + 1) 1 32 (.slice none 0 0) 24 Tryd.underlying71 (by kernel_rfl) rfl (by omega) (rowF j) w7 #[.slice (some ⟨G, 0, none⟩) j j] A6 k c6 P HP.out rfl HMAT7.out.out 1 [(G, j)] rfl rfl _ rfl rfl (by simp [Value.oneCell']) (by unfold maxLen; omega) (by omega) hS7 ?_; intro A9 c9 w9 hown9 hgrow9 hloc9))
                have hb79 : Below (S + 1) w7 w9 := ((Below.refl _ _).alloc hS7 _).grown hgrow9 (by rw [size_alloc']; omega) (fun g hg => (HMAT7.out.out.lt g hg).1)
                have hb9 : Below S v2 w9 := (HB.out.trans (HB7.out.mono (by omega))).trans (hb79.mono (by omega))
                have hx9 : Boxed w9 S 41 (.slice A1 j j) := boxed_below (boxed_below HX.out HB7.out hSG) hb79 (by omega)
                have ht9 : TabOk w9 := (HT.out.below HB7.out (by omega)).below hb79 (by omega)
                have hmk9 : Marks S ds3 w9 := (HMK7.out.alloc (.cells #[.slice (some ⟨G, 0, none⟩) j j] 32)).imp fun E hE => by
                  refine (hgrow9.block E (lt_of_block hE) (fun e => ?_)).trans hE
                  obtain ⟨cur, hcur⟩ := HMAT7.out.out.cellsAt e.symm
                  have hE' := (Below.heap_alloc w7 (.cells #[.slice (some ⟨G, 0, none⟩) j j] 32) E (lt_of_block hcur)).symm.trans hE
                  rw [hcur] at hE'
                  cases hE'
                have hmat9 := HMAT7.out.snoc HROW7.out HAP7.out _ rfl hown9 hgrow9
                go_wp2_with fail
                refine HK.out _ _ _ ?_ ⟨k + 1, A9, c9, P ++ [(G, j)], M', by omega, ?_, ?_, by rw [List.length_append, HP.out]; rfl, HDI7.out, hb9, hx9, ht9, hmk9, hmat9⟩ ?_
                · simp only [patch, slot, List.foldl_cons, List.foldl_nil, List.set_cons_succ, List.set_cons_zero, List.getD_cons_succ, List.getD_cons_zero]
                · simp only [slot, List.getD_cons_succ, List.getD_cons_zero]; go_num
                · simp only [slot, List.getD_cons_succ, List.getD_cons_zero]
                · simp only [slot, List.getD_cons_succ, List.getD_cons_zero]
                  rw [HG24.out]
                  simp [intOf]
                  omega
              · have hyn : (next != w0) = true := by simpa using hy0
                have HNX := Lib.hid (HBF.out.next HG.out hy0)
                have HFA := Lib.hid (bfs_falls HG.out HBF.out hy0)
                have HLO : Hid (∀ i, next.getLsbD i = true → i < j) := Lib.hid (fun i hi => lay_low HG.out hlt ((HBF.out.nx i).1 hi))
                have hd32 : d < 4294967296 := Nat.lt_of_le_of_lt HBF.out.dl seen.isLt
                clear hy0
                go_wp2_with fail
                refine (graph_Each next _).mono ?_
                rintro e W3 ⟨rfl, rfl⟩
                go_wp2_with fail
                obtain ⟨T, hT⟩ : ∃ T, T = w7.heap.size := ⟨_, rfl⟩
                obtain ⟨W2, hW2⟩ : ∃ W2, W2 = ((w7.alloc (.cells #[.int .u32 0] 46)).alloc (.cells #[.int .u32 (wN next)] 46)) := ⟨_, rfl⟩
                have hSZ2 : W2.heap.size = T + 2 := by rw [hW2, size_alloc', size_alloc', hT]
                have hbW2 : Below G wr W2 := by rw [hW2]; exact (HB7.out.alloc (by omega) _).alloc (by rw [size_alloc']; omega) _
                have hxW2 : Boxed W2 T8 32 (.slice (some ⟨G, 0, none⟩) j j) := by rw [hW2]; exact (HX7.out.alloc _).alloc _
                have hdW2 : Boxed W2 D 3 (.int .i64 d) := by rw [hW2]; exact (HD7.out.alloc _).alloc _
                have hoW2 : Own W2 G 3 1 icell (some ⟨G, 0, none⟩) j (rowL j (fun i => if i ∈ ([] : List Nat) then (d : Int) else f i)) := by
                  rw [hW2]
                  have := (HO7.out.alloc (.cells #[.int .u32 0] 46)).alloc (.cells #[.int .u32 (wN next)] 46)
                  simpa using this
                have hDT : D < T := by rw [hT]; exact hD7
                have htW2 : TabOk W2 := HT.out.below hbW2 (by omega)
                have hmW2 : Marks S ds3 W2 := by rw [hW2]; exact (HMK7.out.alloc _).alloc _
                have haW2 : Boxed W2 T 46 (.int .u32 (wN (orAll (nearL j l) w0 []))) := by rw [hW2, hT]; exact (Boxed.new w7 _ _).alloc _
                have hiW2 : Boxed W2 (T + 1) 46 (.int .u32 (wN next)) := by
                  have := Boxed.new (w7.alloc (.cells #[.int .u32 0] 46)) 46 (.int .u32 (wN next))
                  rw [size_alloc', ← hT, ← hW2] at this
                  exact this
                rw [← hW2, ← hT]
                have HBW2 := Lib.hid hbW2
                have HXW2 := Lib.hid hxW2
                have HDW2 := Lib.hid hdW2
                have HOW2 := Lib.hid hoW2
                have HMW2 := Lib.hid hmW2
                have HAW2 := Lib.hid haW2
                have HIW2 := Lib.hid hiW2
                have HTW2 := Lib.hid htW2
                clear hW2 hT hbW2 hxW2 hdW2 hoW2 hmW2 haW2 HB7 HX7 HD7 HO7 HMK7 c8
                refine wpIn_wide.1 (wpIn_bits (p := 50) (q := 14) 9 83 (T + 1) 46 (.int .u32 (wN next)) (bitsL next) [T, T + 1, G] rfl (enters_of Tryd.func83 (by kernel_rfl) rfl)
                  (Each1_seq _ _ _ (by omega)) hiW2 htW2 (by simp) (fun pre W => Boxed W T 46 (.int .u32 (wN (orAll (nearL j l) w0 pre))) ∧ Own W G 3 1 icell (some ⟨G, 0, none⟩) j (rowL j (fun i => if i ∈ pre then (d : Int) else f i))) (fun _ _ _ => False)
                  (fun s X Y row hs hg hr => ⟨boxed_own T 46 (fun pre => Value.int .u32 (wN (orAll (nearL j l) w0 pre))) s X Y row hs.1 hg hr, own_goes G 1 j 3 icell _ (fun pre => rowL j (fun i => if i ∈ pre then (d : Int) else f i)) s X Y row hs.2 hg hr⟩)
                  (fun _ _ _ _ _ h _ _ => h) (fun s A v h => ⟨h.1.other (by omega) v, h.2.far (p := ⟨T + 1, 0, none⟩) (by simp [blkOf]; omega) v⟩) ⟨HAW2.out, HOW2.out⟩ ?assign ?body ?done (fun _ _ _ _ _ _ _ h _ => h.elim))
                case assign =>
                  intro l' i W K hK
                  simp only [List.setIfInBounds_toArray, List.set_cons_succ, List.set_cons_zero] at hK ⊢
                  gi_wp2_with fail
                  exact hK
                case body =>
                  intro l' pre i W hh hi hpre
                  have hin : i < j := HLO.out i (mem_bitsL.1 (by obtain ⟨z, hz⟩ := hpre; rw [← hz]; simp))
                  have hil : i < (nearL j l).length := by rw [nearL_length]; exact hin
                  have hirl : i < (rowL j (fun i => if i ∈ pre then (d : Int) else f i)).length := by rw [rowL_len]; exact hin
                  have HH := Lib.hid hh
                  have hbGW : Below G W2 W := hh.to (by omega) (by simp; omega)
                  have hbW := HB.out.trans ((HBW2.out.trans hbGW).mono (show S ≤ G by omega))
                  have hxW := hh.boxed HXW2.out (by simp; omega)
                  have hdW := hh.boxed HDW2.out (by simp; omega)
                  have hnW := boxed_below HX.out (HBW2.out.trans hbGW) hSG
                  obtain ⟨_, e1, _, _, d1, f1⟩ := hi.2.cell1 (f := fun x => .int .i64 x) hirl
                  have hp := hi.2.put1 (f := fun x => .int .i64 x) (x := (d : Int)) hirl
                  rw [rowL_set j i _ (fun i' => if i' ∈ pre ++ [i] then (d : Int) else f i') (d : Int) (fun i' _ => by by_cases h : i' = i <;> simp [h])] at hp
                  obtain rfl : G = _ := by simpa using e1
                  obtain ⟨cur, hcur⟩ := hi.2.cellsAt rfl
                  have c8 := hxW.cell
                  have cD := hdW.cell
                  have HI1 := Lib.hid hi.1
                  have HPU := Lib.hid hp
                  have HCUR := Lib.hid hcur
                  have HNW := Lib.hid hnW
                  have HBW := Lib.hid hbW
                  simp only [List.setIfInBounds_toArray, List.set_cons_succ, List.set_cons_zero]
                  clear hh hbGW hbW hxW hdW hnW hi hp hcur
                  gi_wp2_with fail
                  obtain ⟨W5, hW5⟩ : ∃ W5, W5 = W.setCell ⟨G, i, none⟩ (.int .i64 d) := ⟨_, rfl⟩
                  rw [← hW5]
                  have K5 : ∀ B, KeepsFrom B W W5 := fun B => by rw [hW5]; exact KeepsFrom.cells HCUR.out _
                  have KP5 : KpE (T + 1) 46 W W5 := by rw [hW5]; exact KpE.setCell W ⟨G, i, none⟩ _ (by show T + 1 ≠ G; omega) (by show 0 ≠ G; omega)
                  have HH5 : Held [T, T + 1, G] W2 W5 := by rw [hW5]; exact HH.out.setCell (p := ⟨G, i, none⟩) (by simp) _
                  have hb5 : Below S v2 W5 := by rw [hW5]; exact HBW.out.setCell (p := ⟨G, i, none⟩) (show S ≤ G by omega) _
                  have hT5 : Boxed W5 T 46 (.int .u32 (wN (orAll (nearL j l) w0 pre))) := by rw [hW5]; exact boxed_far HI1.out (p := ⟨G, i, none⟩) (show T ≠ G by omega) _
                  have hS5 : Boxed W5 S 41 (.slice A1 j j) := by rw [hW5]; exact boxed_far HNW.out (p := ⟨G, i, none⟩) (show S ≠ G by omega) _
                  have hO5 : Own W5 G 3 1 icell (some ⟨G, 0, none⟩) j (rowL j (fun i' => if i' ∈ pre ++ [i] then (d : Int) else f i')) := by rw [hW5]; exact HPU.out
                  obtain ⟨b', off', rfl, _, g1⟩ := (HE2.out.below hb5).at1 hil
                  rw [← lw_at (nearL j l) i hil] at g1
                  have cT := hT5.cell
                  have fT := hT5.frozen
                  have cS := hS5.cell
                  have K5' := Lib.hid K5
                  have KP5' := Lib.hid KP5
                  have HH5' := Lib.hid HH5
                  have HT5 := Lib.hid hT5
                  have HO5' := Lib.hid hO5
                  clear hW5 K5 KP5 HH5 hb5 hT5 hS5 hO5 d1 f1 c8 cD HCUR HPU HI1 HNW HBW HH
                  gi_region
                  all_goals
                    refine ⟨KeepsFrom.drew (keeps_then (K5'.out _) (KeepsFrom.box HT5.out _)), (KP5'.out.trans (KpE.setCell W5 ⟨T, 0, none⟩ _ (by show T + 1 ≠ T; omega) (by show 0 ≠ T; omega))).drew, (HH5'.out.setCell (p := ⟨T, 0, none⟩) (by simp) _).drew1, ?_, (HO5'.out.far (p := ⟨T, 0, none⟩) (by simp [blkOf]; omega) _).drew⟩
                    rw [orAll_app]
                    exact Boxed.drew (HT5.out.set _)
                case done =>
                  intro Dm W hDm hh hi hdef
                  have HH := Lib.hid hh
                  have hbGW : Below G wr W := HBW2.out.trans (hh.to (by omega) (by simp; omega))
                  have hxW := hh.boxed HXW2.out (by simp; omega)
                  have hdW := hh.boxed HDW2.out (by simp; omega)
                  have hmk : Marks S ({ target := .collected Dm, args := #[] } :: ds3) W := hh.mark_ HMW2.out (by
                    intro q hq
                    simp at hq
                    rcases hq with rfl | rfl | rfl
                    · exact Boxed.noMark HAW2.out
                    · exact Boxed.noMark HIW2.out
                    · obtain ⟨cur, hcur⟩ := HOW2.out.cellsAt rfl
                      exact cells_noMark hcur) (by omega) hDm hdef
                  have hsz := hh.size
                  have cT := hi.1.cell
                  have cD := hdW.cell
                  have HBGW := Lib.hid hbGW
                  have HXW := Lib.hid hxW
                  have HOW := Lib.hid hi.2
                  have HMK3 := Lib.hid hmk
                  clear hh hbGW hxW hdW hmk hi hdef hiW2 htW2 HH
                  go_wp2_with fail
                  refine HK3.out _ _ _ ?_ ⟨d + 1, W.heap.size, wOr seen next, wBut (orAll (nearL j l) w0 (bitsL next)) (wOr seen next), bfsF next d f, ?_, ?_, ?_, HNX.out, by omega, HBGW.out.alloc (by have := HBGW.out.size; rw [HG'.out]; omega) _, HXW.out.alloc _, Boxed.new _ _ _, HOW.out.alloc _, HMK3.out.alloc _⟩ ?_
                  · simp only [patch, slot, List.foldl_cons, List.foldl_nil, List.set_cons_succ, List.set_cons_zero, List.getD_cons_succ, List.getD_cons_zero]
                  · simp only [slot, List.getD_cons_succ, List.getD_cons_zero]
                  · simp only [slot, List.getD_cons_succ, List.getD_cons_zero]
                  · simp only [slot, List.getD_cons_succ, List.getD_cons_zero]
                  · simp only [slot, List.getD_cons_succ, List.getD_cons_zero]
                    rw [HG10.out, wordV_of, wordV_of]
                    exact HFA.out
      · obtain rfl : k = m := by omega
        go_wp2_with fail
        refine bodyPostM_ret HMK.out fun w' hw' => ⟨.tuple #[.slice A6 k c6, .int .i64 0], by simp [results, Tryd.results47, go_sem], ?_⟩
        exact ⟨A6, k, c6, by rw [HZ.out], (HB2.out.trans (HB.out.mono (by omega))).trans (hw'.1.mono (by omega)), fun h => absurd HZ.out h, fun _ => ⟨k, P, M, rfl, rfl, HP.out, (HMAT.out.shut hw').weaken (by omega), HDI.out⟩⟩
  · have h1 : (graphCheck N l != 0) = true := by simpa using h0
    have H0 := Lib.hid h0
    obtain ⟨x, hx⟩ : ∃ x, x = graphCheck N l := ⟨_, rfl⟩
    rw [← hx] at h1 ⊢
    have HX := Lib.hid hx
    clear h0 hx
    go_wp2_with fail
    refine bodyPostM_ret (B := w.heap.size) (Marks.nil _ _) fun w' hw' => ⟨.tuple #[.slice none 0 0, .int .i64 x], by simp [results, Tryd.results47, go_sem], ?_⟩
    exact ⟨none, 0, 0, by rw [HX.out], HB1.out.trans hw'.1, fun _ => rfl, fun h => absurd h H0.out⟩
end Go.Proofs.YtnpcbbdfpbnakaaDoor
