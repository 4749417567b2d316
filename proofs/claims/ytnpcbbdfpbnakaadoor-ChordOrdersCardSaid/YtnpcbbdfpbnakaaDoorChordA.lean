/- The order in which the nodes of a graph go: the program's walk. Conditions: the edges read as a list; the table. -/
import Derived.Test.YtnpcbbdfpbnakaaDoorCollect
import Derived.Test.YtnpcbbdfpbnakaaDoorRegC
import Derived.Test.YtnpcbbdfpbnakaaDoorChordP
import Derived.Test.YtnpcbbdfpbnakaaDoorIdx
import Derived.Sort.QuietIn
import Derived.Test.YtnpcbbdfpbnakaaDoorSubP
namespace Go.Proofs.YtnpcbbdfpbnakaaDoor
open Go.RowKit Go.Shelf
attribute [local go_sem] Oper.semAt_some
attribute [local go_sem ↓] w_and w_or w_xor w_andNot w_and1 w_and255 w_xor1 w_or0 w_shl w_shl1 w_shr w_sub w_add w_sub1 w_add1
attribute [local go_sem] w_eq0 w_ne0 w_eq1 w_eq w_ne

theorem Blk.boxed {w : World} {g : Nat} {t : TypeId} {v : Value} (h : Blk w g t #[v]) : Boxed w g t v := h
set_option maxRecDepth 100000 in
set_option maxHeartbeats 1000000 in
theorem chord_all (A : Option Addr) (n c : Nat) (t : List (BitVec 32)) (x : BitVec 32) (w : World) (hl : t.length = n) (hn : n ≤ 32) (hr : Els w w.heap.size 1 wcell A t) (htab : TabOk w) (hx : ∀ j ∈ bitsL x, j < n) :
    Calls Tryd.prog 78 #[.slice A n c, .int .u32 (wN x)] w fun e w' => e = .returned (.bool (allB t x)) ∧ Below w.heap.size w w' := by
  have h0w : 0 < w.heap.size := Nat.lt_of_le_of_lt (Nat.zero_le _) htab.1
  have HL := Lib.hid hl
  have HX := Lib.hid hx
  clear hl hx
  refine (callsIn_wide (n := 9)).1 ?_
  refine callsIn_of_wp_marks Tryd.func78 rfl trivial ?_ rfl
  simp only [Tryd.ntmps78, List.size_toArray, List.length_cons, List.length_nil, Nat.reduceAdd, Nat.reduceSub, Array.replicate_succ, Array.replicate_zero, List.push_toArray, List.append_toArray, List.nil_append, List.cons_append]
  gi_wp2_with fail
  refine wide_call2 ((graph_Each x _).mono ?_)
  rintro e W3 ⟨rfl, rfl⟩
  gi_wp2_with fail
  obtain ⟨S, hS⟩ : ∃ S, S = w.heap.size := ⟨_, rfl⟩
  obtain ⟨W1, hW1⟩ : ∃ W1, W1 = (((w.alloc (.cells #[.slice A n c] 41)).alloc (.cells #[.int .u32 (wN x)] 46)).alloc (.cells #[.bool false] 4)).alloc (.cells #[.int .u32 (wN x)] 46) := ⟨_, rfl⟩
  have hB1 : Below S w W1 := by rw [hW1, hS]; exact (((((Below.refl _ w).alloc (Nat.le_refl _) _).alloc (by simp) _).alloc (by first | (simp; done) | (simp; omega)) _).alloc (by first | (simp; done) | (simp; omega)) _)
  have hk0 : Blk W1 S 41 #[.slice A n c] := by rw [hW1, hS]; exact (((Blk.new w _ _).alloc _).alloc _).alloc _
  have hk1 : Blk W1 (S + 1) 46 #[.int .u32 (wN x)] := by rw [hW1, hS]; exact ((Blk.new_at (by simp)).alloc _).alloc _
  have hk2 : Blk W1 (S + 1 + 1) 4 #[.bool false] := by rw [hW1, hS]; exact (Blk.new_at (by simp)).alloc _
  have hk3 : Blk W1 (S + 1 + 1 + 1) 46 #[.int .u32 (wN x)] := by rw [hW1, hS]; exact Blk.new_at (by simp)
  have hz1 : W1.heap.size = S + 1 + 1 + 1 + 1 := by rw [hW1, hS]; simp
  have ht1 : TabOk W1 := htab.below hB1 (by omega)
  rw [← hW1, ← hS]
  rw [← hS] at hr
  have HB1 := Lib.hid hB1
  have HK0 := Lib.hid hk0
  have HK1 := Lib.hid hk1
  have HK2 := Lib.hid hk2
  have HK3 := Lib.hid hk3
  have HR := Lib.hid hr
  have hS0 : 0 < S := by omega
  have HS := Lib.hid hS
  clear hW1 hS hB1 hk0 hk1 hk2 htab hr
  refine wpIn_bits (p := 8) (q := 5) 9 83 (S + 1 + 1 + 1) 46 (.int .u32 (wN x)) (bitsL x) [S + 1 + 1, S + 1 + 1 + 1] rfl (enters_of Tryd.func83 (by kernel_rfl) rfl)
    (Each1_seq _ _ _ (by omega)) hk3.boxed ht1 (by simp) (fun pre W => (∀ j ∈ pre, (wBut x (lw t j) == wShl w1 j) = true) ∧ Blk W (S + 1 + 1) 4 #[.bool false]) (fun cd pre W => cd = .ret ∧ (∃ j ∈ pre, (wBut x (lw t j) == wShl w1 j) = false) ∧ Blk W (S + 1 + 1) 4 #[.bool false])
    (fun s X Y row h hg hrow => ⟨h.1, blk_kept h.2 hg hrow⟩) (fun cd s X Y row h hg hrow => ⟨h.1, h.2.1, blk_kept h.2.2 hg hrow⟩)
    (fun s X v h => ⟨h.1, h.2.far (show S + 1 + 1 ≠ S + 1 + 1 + 1 by omega) v⟩) ⟨by simp, HK2.out⟩ ?assign ?body ?done ?stop
  case assign =>
    intro l' j W K hK
    simp only [List.setIfInBounds_toArray, List.set_cons_succ, List.set_cons_zero] at hK ⊢
    gi_wp2_with fail
    exact hK
  case body =>
    intro l' pre j W hh hi hpre
    have hjn : j < n := HX.out j (by obtain ⟨z, hz⟩ := hpre; rw [← hz]; simp)
    have hjl : j < t.length := by rw [HL.out]; exact hjn
    have hbW := HB1.out.trans (hh.to (B := S) (by omega) (by first | (simp; done) | (simp; omega)))
    obtain ⟨b', off', rfl, _, g1⟩ := (HR.out.below hbW).at1 hjl
    rw [← lw_at t j hjl] at g1
    have hk0 : Blk W S 41 #[.slice (some ⟨b', off', none⟩) n c] := (hh.block S (by omega) (by first | (simp; done) | (simp; omega))).trans HK0.out
    have hk1 : Blk W (S + 1) 46 #[.int .u32 (wN x)] := (hh.block (S + 1) (by omega) (by first | (simp; done) | (simp; omega))).trans HK1.out
    have c0 := hk0.cell 0
    have c1 := hk1.cell 0
    have c2 := hi.2.cell 0
    have f2 := hi.2.frozen 0
    have HH := Lib.hid hh
    have HI := Lib.hid hi
    simp only [List.setIfInBounds_toArray, List.set_cons_succ, List.set_cons_zero]
    clear hh hi hk0 hk1 hbW
    have HOK := Lib.hid (w_ne (wBut x (lw t j)) (wShl w1 j))
    rcases bool_or (wBut x (lw t j) == wShl w1 j) with hq | hq
    · have hq2 : (wBut x (lw t j) != wShl w1 j) = true := by rw [bne, hq]; rfl
      have HQ := Lib.hid hq
      clear hq
      gi_wp2_with fail
      refine region_round 99 9 (fun w' => w' = W.drew) (by kernel_rfl) rfl (by kernel_rfl) ?_
      refine anyC_reads (by kernel_rfl) [0, 1, 2, 3, 4, 5, 6, 7, 8] ?opl ?ohl 0 _ _ _ (by kernel_rfl) ?okk
      case ohl => (simp only [List.filterMap_cons, List.filterMap_nil, List.getElem?_toArray, List.getElem?_cons_zero, List.getElem?_cons_succ]; try rfl)
      case okk =>
        repeat (
          refine readC_step (v := ?_) rfl (fun w' hw' => ?_) ?_
          rotate_left
          focus (subst hw'; go_simp; try with_reducible rfl)
          go_simp)
        refine readC_nil ?_
        refine anyC_end (by kernel_rfl) (.inr rfl) ?_
        gi_wp2_with fail
        exact ⟨KeepsFrom.drew (KeepsFrom.box (t := 4) HI.out.2 _), (HH.out.setCell (p := ⟨S + 1 + 1, 0, none⟩) (by simp) _).drew1, rfl, ⟨j, by simp, HQ.out⟩, (HI.out.2.put 0 _).drew⟩
    · have hq2 : (wBut x (lw t j) != wShl w1 j) = false := by rw [bne, hq]; rfl
      have HQ := Lib.hid hq
      clear hq
      gi_wp2_with fail
      refine region_round 99 9 (fun w' => w' = W.drew) (by kernel_rfl) rfl (by kernel_rfl) ?_
      refine anyC_reads (by kernel_rfl) [0, 1, 2, 3, 4, 5, 6, 7, 8] ?opl ?ohl 0 _ _ _ (by kernel_rfl) ?okk
      case ohl => (simp only [List.filterMap_cons, List.filterMap_nil, List.getElem?_toArray, List.getElem?_cons_zero, List.getElem?_cons_succ]; try rfl)
      case okk =>
        repeat (
          refine readC_step (v := ?_) rfl (fun w' hw' => ?_) ?_
          rotate_left
          focus (subst hw'; go_simp; try with_reducible rfl)
          go_simp)
        refine readC_nil ?_
        refine anyC_end (by kernel_rfl) (.inr rfl) ?_
        gi_wp2_with fail
        refine ⟨KeepsFrom.drew (KeepsFrom.refl _ _), (KpE.refl _ _ _).drew, HH.out.drew1, fun q hq => ?_, HI.out.2.drew⟩
        rcases List.mem_append.1 hq with h1 | h1
        · exact HI.out.1 q h1
        · rw [List.mem_singleton] at h1
          rw [h1]
          exact HQ.out
  case done =>
    intro D W hD hh hi hdef
    have HH := Lib.hid hh
    have hk2 := hi.2
    have f2 := hk2.frozen 0
    have c2 := hk2.cell 0
    have hlt2 := hk2.lt
    have HMK := Lib.hid (hh.mark (Marks.nil S W1) (by simp; exact ⟨⟨_, _, HK2.out⟩, ⟨_, _, HK3.out⟩⟩) (by omega) hD hdef)
    have hall : allB t x = true := List.all_eq_true.2 hi.1
    have HALL := Lib.hid hall
    have hm2 := (HMK.out.setCell (p := ⟨S + 1 + 1, 0, none⟩) (.bool true) (fun o ho he => by rw [show W.heap[S + 1 + 1]? = _ from hk2] at ho; cases ho; cases he))
    have HM2 := Lib.hid hm2
    have HP2 := Lib.hid (hk2.put 0 (.bool true))
    clear hh hi hdef hk2 ht1 hk3 hall hm2
    gi_wp2_with fail
    refine bodyPostM_ret HM2.out fun w' hw' => ?_
    have hv := (HP2.out.shut hw').cell 0
    have hbe := (HB1.out.trans (HH.out.to (B := S) (by omega) (by simp; omega))).setCell (p := ⟨S + 1 + 1, 0, none⟩) (show S ≤ S + 1 + 1 by omega) (.bool true)
    exact ⟨.bool true, by simp [results, Tryd.results78, go_sem, hv], ret_bool HALL.out.symm, by rw [← HS.out]; exact hbe.trans hw'.1⟩
  case stop =>
    rintro D cd pre W hD hpre hh ⟨rfl, ⟨j, hj, hjm⟩, hnb⟩ hdef
    have HH := Lib.hid hh
    have HMK := Lib.hid (hh.mark (Marks.nil S W1) (by simp; exact ⟨⟨_, _, HK2.out⟩, ⟨_, _, HK3.out⟩⟩) (by omega) hD hdef)
    have hall : allB t x = false := by
      rw [← Bool.not_eq_true]
      intro h
      have := List.all_eq_true.1 h j (by obtain ⟨z, hz⟩ := hpre; rw [← hz]; exact List.mem_append_left _ hj)
      rw [hjm] at this
      cases this
    have HALL := Lib.hid hall
    have HNB := Lib.hid hnb
    clear hh hdef hnb hjm hj hpre ht1 hk3 hall
    gi_wp2_with fail
    refine bodyPostM_ret HMK.out fun w' hw' => ?_
    have hv := (HNB.out.shut hw').cell 0
    exact ⟨.bool false, by simp [results, Tryd.results78, go_sem, hv], ret_bool HALL.out.symm, by rw [← HS.out]; exact (HB1.out.trans (HH.out.to (B := S) (by omega) (by simp; omega))).trans hw'.1⟩

theorem bits_sorted (x : BitVec 32) : (bitsL x).Pairwise (· < ·) := List.pairwise_lt_range.filter _
def lenV : Value → Nat
  | .slice _ n _ => n
  | _ => 0
/-- The first node that may go, among those that are left. -/
theorem next_bits {N : Nat} {l : List Ed} (hg : GoodG N l) (L : List Int) : (idxF (fun a : Int => allB (nearL N l) (wAnd (lw (nearL N l) a.toNat) (leftW N L))) (bitsI (leftW N L)) = -1 ∧ NextC l N L (-1)) ∨
    ∃ q i : Nat, idxF (fun a : Int => allB (nearL N l) (wAnd (lw (nearL N l) a.toNat) (leftW N L))) (bitsI (leftW N L)) = q ∧ (∃ hq : q < (bitsI (leftW N L)).length, (bitsI (leftW N L))[q] = (i : Int)) ∧ (leftW N L).getLsbD i = true ∧ StepC l N L i := by
  have hp : ∀ j : Nat, (fun a : Int => allB (nearL N l) (wAnd (lw (nearL N l) a.toNat) (leftW N L))) (j : Int) = true ↔ SimpC l (leftW N L) j := fun j => all_simp hg (leftW N L) j
  obtain ⟨p, hpe⟩ : ∃ p, p = (fun a : Int => allB (nearL N l) (wAnd (lw (nearL N l) a.toNat) (leftW N L))) := ⟨_, rfl⟩
  rw [← hpe] at hp ⊢
  clear hpe
  have hmem : ∀ j : Nat, (leftW N L).getLsbD j = true → ∃ (q : Nat) (hq : q < (bitsL (leftW N L)).length), (bitsL (leftW N L))[q] = j := fun j hj => List.getElem_of_mem (mem_bitsL.2 hj)
  rcases bool_or ((bitsI (leftW N L)).any p) with hany | hany
  · refine .inl ⟨idxF_none hany, .inl ⟨rfl, fun i hi hs => ?_⟩⟩
    have := List.any_eq_false.1 hany (i : Int) (List.mem_map.2 ⟨i, mem_bitsL.2 hi, rfl⟩)
    exact this ((hp i).2 hs)
  · refine .inr ?_
    have hlt : (bitsI (leftW N L)).findIdx p < (bitsI (leftW N L)).length := List.findIdx_lt_length.2 (List.any_eq_true.1 hany)
    obtain ⟨q, hq⟩ : ∃ q, q = (bitsI (leftW N L)).findIdx p := ⟨_, rfl⟩
    have hidx : idxF p (bitsI (leftW N L)) = (q : Int) := by unfold idxF; rw [if_pos hany, hq]
    have hlt2 : q < (bitsI (leftW N L)).length := by rw [hq]; exact hlt
    have hlt3 : q < (bitsL (leftW N L)).length := by unfold bitsI at hlt2; rwa [List.length_map] at hlt2
    have hget : (bitsI (leftW N L))[q] = ((bitsL (leftW N L))[q] : Int) := by simp [bitsI]
    have hpq : p (bitsI (leftW N L))[q] = true := by
      have := List.findIdx_getElem (p := p) (xs := bitsI (leftW N L)) (w := hlt)
      subst hq
      exact this
    have hbit := mem_bitsL.1 (List.getElem_mem hlt3)
    refine ⟨q, (bitsL (leftW N L))[q], hidx, ⟨hlt2, hget⟩, hbit, .inr ⟨_, rfl, hbit, (hp _).1 (by rw [← hget]; exact hpq), fun j hj hjb hs => ?_⟩, by omega⟩
    obtain ⟨q', hq', he⟩ := hmem j hjb
    have hqq : q' < q := by
      rcases Nat.lt_trichotomy q' q with e | e | e
      · exact e
      · subst e; omega
      · have := List.pairwise_iff_getElem.1 (bits_sorted (leftW N L)) q q' hlt3 hq' e
        omega
    have hno := List.not_of_lt_findIdx (p := p) (xs := bitsI (leftW N L)) (i := q') (by rw [← hq]; exact hqq)
    have hget' : (bitsI (leftW N L))[q']'(by unfold bitsI; rw [List.length_map]; exact hq') = (j : Int) := by simp [bitsI, he]
    rw [hget', (hp j).2 hs] at hno
    cases hno

theorem ent_Order1 : Ent Tryd.prog 77 := ent_of Tryd.func77 (by kernel_rfl) rfl
set_option maxRecDepth 100000 in
set_option maxHeartbeats 1000000 in
theorem Order1_calls (S T n c i : Nat) (A : Option Addr) (t : List (BitVec 32)) (left : BitVec 32) (w : World) (hi : i < n) (hl : t.length = n) (hn : n ≤ 32) (hr : Els w w.heap.size 1 wcell A t) (htab : TabOk w) (hx : ∀ j, left.getLsbD j = true → j < n)
    (hk : Blk w S 41 #[.slice A n c]) (hk2 : Blk w T 46 #[.int .u32 (wN left)]) :
    Calls Tryd.prog 77 #[.int .i64 i, .pointer (some ⟨S, 0, none⟩), .pointer (some ⟨T, 0, none⟩)] w fun e w' => e = .returned (.bool (allB t (wAnd (lw t i) left))) ∧ Below w.heap.size w w' := by
  have hil : i < t.length := by rw [hl]; exact hi
  have HC := Lib.hid (chord_all A n c t (wAnd (lw t i) left) w.drew hl hn hr (htab.block (Nat.le_refl _) rfl) (fun j hj => by
    have := mem_bitsL.1 hj
    rw [b_and, Bool.and_eq_true] at this
    exact hx j this.2))
  obtain ⟨b', off', rfl, _, g1⟩ := hr.at1 hil
  rw [← lw_at t i hil] at g1
  have c0 := hk.cell 0
  have c1 := hk2.cell 0
  clear hk hk2 hr htab hx hl hil
  go_enter Tryd.func77, Tryd.ntmps77
  go_wp2_with fail
  refine region_plain 7 9 (fun w' => w' = w.drew) (by kernel_rfl) rfl ?_
  refine anyC_reads (by kernel_rfl) [0, 1, 2, 3, 4, 5, 6] ?opl ?ohl 2 _ _ _ (by kernel_rfl) ?okk
  case ohl => (simp only [List.filterMap_cons, List.filterMap_nil, List.getElem?_toArray, List.getElem?_cons_zero, List.getElem?_cons_succ]; try rfl)
  case okk =>
    repeat (
      refine readC_step (v := ?_) rfl (fun w' hw' => ?_) ?_
      rotate_left
      focus (subst hw'; go_simp; try with_reducible rfl)
      go_simp)
    refine readC_nil ?_
    refine anyC_one (i := 7) (by kernel_rfl) rfl rfl (.inr rfl) ?_
    go_simp
    refine HC.out.mono ?_
    clear HC
    rintro e v1 ⟨rfl, hb1⟩
    have HB1 : Hid (Below w.heap.size w v1) := Lib.hid (((Below.refl _ w).drew).trans hb1)
    clear hb1
    go_simp
    refine anyC_one (i := 8) (by kernel_rfl) rfl rfl (.inl (by kernel_rfl)) ?_
    go_simp
    refine anyC_end (by kernel_rfl) (.inl (by kernel_rfl)) ?_
    go_wp2_with fail
    go_ret
    exact ⟨rfl, HB1.out⟩

set_option maxRecDepth 100000 in
set_option maxHeartbeats 2000000 in
theorem chord_Order (N : Int) (A : Option Addr) (n c : Nat) (l : List Ed) (w : World) (hl : l.length = n) (hn : n ≤ maxLen) (hr : Els w w.heap.size 3 Ed.cells A l) (htab : TabOk w) :
    Calls Tryd.prog 39 #[.agg #[.int .i64 N, .slice A n c]] w fun e w' => ∃ (A' : Option Addr) (k cap : Nat) (er : Int), e = .returned (.tuple #[.slice A' k cap, .int .i64 er]) ∧ Below w.heap.size w w' ∧
      (graphCheck N l ≠ 0 → er = graphCheck N l ∧ k = 0) ∧ (graphCheck N l = 0 → ∃ (m : Nat) (b : Bool) (L : List Int), N = m ∧ ChordRes l m b L ∧ (b = false → er = 5 ∧ k = 0) ∧ (b = true → er = 0 ∧ k = m ∧ Els w' w'.heap.size 1 icell A' L)) := by
  have h0w : 0 < w.heap.size := Nat.lt_of_le_of_lt (Nat.zero_le _) htab.1
  have hb0 := (Below.refl w.heap.size w).alloc (Nat.le_refl _) (.cells #[.int .i64 N, .slice A n c] 31)
  have hB0 := Blk.new w 31 #[.int .i64 N, .slice A n c]
  have HW := Lib.hid (graph_Check N A n c l (w.alloc (.cells #[.int .i64 N, .slice A n c] 31)) hl hn ((hr.alloc (Nat.le_refl _) _).more (by rw [size_alloc']; omega)))
  have HL := Lib.hid hl
  have HR := Lib.hid hr
  have HT := Lib.hid htab
  have HB0 := Lib.hid hb0
  have HK0 := Lib.hid hB0
  have c0 := hB0.cell 0
  have c1 := hB0.cell 1
  clear hr hb0 hB0 hl htab
  go_enter Tryd.func39, Tryd.ntmps39
  go_wp2_with fail
  refine HW.out.mono ?_
  clear HW
  rintro e v1 ⟨rfl, hb1⟩
  have hk1 := HK0.out.below hb1 (by rw [size_alloc']; omega)
  have hb1' := HB0.out.trans (hb1.mono (by rw [size_alloc']; omega))
  have hz1 := hb1'.size
  have hlt1 := hk1.lt
  have HB1 := Lib.hid hb1'
  have HK1 := Lib.hid hk1
  clear c0 c1 hb1 hb1'
  have c0 := hk1.cell 0
  have c1 := hk1.cell 1
  clear hk1
  by_cases h0 : graphCheck N l = 0
  · obtain ⟨m, rfl, hg⟩ := graph_good h0
    have HZ := Lib.hid h0
    have HG := Lib.hid hg
    have hm := hg.n10
    have HN := Lib.hid (graph_Near m A n c l v1 HL.out hg ((HR.out.below HB1.out).more hz1))
    rw [h0]
    clear h0 hg
    go_wp2_with fail
    refine HN.out.mono ?_
    clear HN
    rintro e v2 ⟨A1, rfl, hb2, hown2⟩
    have hb2' := HB1.out.trans (hb2.mono hz1)
    have hz2 := hb2'.size
    have HB2 := Lib.hid hb2'
    have HE2 := Lib.hid hown2.els
    have hk2 := HK1.out.below hb2 hlt1
    have hx2 := hk2.lt
    clear c0 c1
    have c0 := (hk2.alloc (.cells #[.slice A1 m m] 41)).cell 0
    clear hb2 hb2' hown2 HK1 hk2
    obtain ⟨S, hS⟩ : ∃ S, S = v2.heap.size := ⟨_, rfl⟩
    obtain ⟨V, hV⟩ : ∃ V, V = (v2.alloc (.cells #[.slice A1 m m] 41)).alloc (.cells #[.int .u32 (wN (wSub (wShl w1 m) w1))] 46) := ⟨_, rfl⟩
    have hbV : Below S v2 V := by rw [hV, hS]; exact ((Below.refl _ _).alloc (Nat.le_refl _) _).alloc (by simp) _
    have hkS : Blk V S 41 #[.slice A1 m m] := by rw [hV, hS]; exact (Blk.new _ _ _).alloc _
    have hkT : Blk V (S + 1) 46 #[.int .u32 (wN (leftW m []))] := by rw [hV, hS]; exact Blk.new_at (by simp)
    have HBV := Lib.hid hbV
    have HKS := Lib.hid hkS
    have HKT := Lib.hid hkT
    have HS := Lib.hid hS
    have hwS : w.heap.size ≤ S := by omega
    clear hbV hkS hkT
    go_wp2_with fail
    rw [← hV, ← hS]
    clear hV hS c0
    go_loopw [7, 6] (fun s7 s6 wr => ∃ (T k : Nat) (A2 : Option Addr) (cap : Nat) (L : List Int), s7 = .pointer (some ⟨T, 0, none⟩) ∧ s6 = .slice A2 k cap ∧ L.length = k ∧ Chn (StepC l m) L ∧ S < T ∧ Below S v2 wr ∧ Blk wr S 41 #[.slice A1 m m] ∧ Blk wr T 46 #[.int .u32 (wN (leftW m L))] ∧ Own wr (S + 1) 3 1 icell A2 cap L) (fun _ s6 _ => m - lenV s6)
    case atStart => exact ⟨S + 1, 0, none, 0, [], rfl, rfl, rfl, .nil, by omega, HBV.out, HKS.out, HKT.out, Own.nil _ _ _ (fun _ => rfl)⟩
    case round =>
      clear HBV HKS HKT
      rename World => wr
      obtain ⟨T, k, A2, cap, L, rfl, rfl, hLk, hch, hST, hb, hks, hkt, ho⟩ := hrel
      have hlen := chord_len (show m < 32 by omega) hch
      rw [hLk] at hlen
      have hin := (chord_in (show m < 32 by omega) hch).1
      have HIN := Lib.hid (fun j => (leftW_bit (show m < 32 by omega) L hin j).1)
      have hTr := hkt.lt
      have hSr := hks.lt
      have cT := hkt.cell 0
      have fT := hkt.frozen 0
      have HB := Lib.hid hb
      have HKS := Lib.hid hks
      have HKT := Lib.hid hkt
      have HO := Lib.hid ho
      have HLK := Lib.hid hLk
      have HCH := Lib.hid hch
      clear hb hks hkt ho hLk hch hin
      by_cases hz : leftW m L = w0
      · have hpz := pop_zero.2 hz
        have hkm : k = m := by omega
        have hw0 : (leftW m L != w0) = false := by rw [hz]; simp
        obtain ⟨left, hleft⟩ : ∃ left, left = leftW m L := ⟨_, rfl⟩
        rw [← hleft] at cT hw0
        clear hz hpz hlen hleft
        go_wp2_with fail
        refine bodyPost_ret (v := .tuple #[.slice A2 k cap, .int .i64 0]) (by simp [results, Tryd.results39, go_sem]) rfl ?_
        refine ⟨A2, k, cap, 0, rfl, HB2.out.trans (HB.out.mono hwS), fun h => absurd HZ.out h, fun _ => ⟨m, true, L, rfl, ⟨HCH.out, (fun _ => by rw [HLK.out, hkm]), (fun h => by cases h)⟩, (fun h => by cases h), fun _ => ⟨rfl, hkm, HO.out.els⟩⟩⟩
      · have hpz : pop (leftW m L) ≠ 0 := fun h => hz (pop_zero.1 h)
        have hkm : k < m := by omega
        have hyn : (leftW m L != w0) = true := by simpa using hz
        have HNX := Lib.hid (next_bits HG.out L)
        have hsn := leftW_snoc m L
        have HSN := Lib.hid hsn
        have HHI : Hid (Held [wr.heap.size] (wr.alloc (.cells #[.int .u32 (wN (leftW m L))] 46)) (wr.alloc (.cells #[.int .u32 (wN (leftW m L))] 46))) := Lib.hid (Held.refl _ _)
        have hbx : Boxed (wr.alloc (.cells #[.int .u32 (wN (leftW m L))] 46)) wr.heap.size 46 (.int .u32 (wN (leftW m L))) := Boxed.new wr _ _
        have htw : TabOk wr := HT.out.below (HB2.out.trans (HB.out.mono hwS)) h0w
        have HCO := Lib.hid (Collect_bits wr.heap.size (leftW m L) _ hbx (htw.below ((Below.refl wr.heap.size wr).alloc (Nat.le_refl _) _) (by omega)) (by omega))
        have HTW := Lib.hid htw
        have HP : Hid (∀ (w3 : World) (A3 : Option Addr) (n3 cap3 : Nat), Below wr.heap.size wr w3 → n3 = (bitsI (leftW m L)).length → Own w3 (wr.heap.size + 1 + 1) 3 1 icell A3 cap3 (bitsI (leftW m L)) →
            Calls Tryd.prog 76 #[.slice A3 n3 cap3, .func (.func 77) #[] #[.pointer (some ⟨S, 0, none⟩), .pointer (some ⟨T, 0, none⟩)]] w3 fun e w' => e = .returned (.int .i64 (idxF (fun a : Int => allB (nearL m l) (wAnd (lw (nearL m l) a.toNat) (leftW m L))) (bitsI (leftW m L)))) ∧ Below w3.heap.size w3 w') := Lib.hid (fun w3 A3 n3 cap3 hb3 hn3 he3 =>
          IndexFunc_ints 77 ent_Order1 #[.pointer (some ⟨S, 0, none⟩), .pointer (some ⟨T, 0, none⟩)] (fun a : Int => allB (nearL m l) (wAnd (lw (nearL m l) a.toNat) (leftW m L))) A3 n3 cap3 (bitsI (leftW m L)) w3 hn3.symm (by have := bitsL_le (leftW m L); rw [hn3]; unfold bitsI; rw [List.length_map]; unfold maxLen; omega) he3.els
            (fun a wx ha hbx => by
              obtain ⟨j, hj, rfl⟩ := List.mem_map.1 ha
              have hjm := (HIN.out j (mem_bitsL.1 hj)).1
              have hbw := hb3.trans (hbx.mono hb3.size)
              have hz3 := hbx.size
              have hz4 := hb3.size
              have hS2 := HS.out
              exact (Order1_calls S T m m j A1 (nearL m l) (leftW m L) wx hjm (nearL_length _ _) (by omega) (((HE2.out.below (show Below v2.heap.size v2 wr by rw [← HS.out]; exact HB.out)).below (hbw.mono (by omega))).more (by omega)) (HTW.out.below hbw (by omega)) (fun q hq => (HIN.out q hq).1) (HKS.out.below hbw hSr) (HKT.out.below hbw hTr)).mono fun e w' ⟨h1, h2⟩ => ⟨h1, h2.mono hz3⟩))
        obtain ⟨left, hleft⟩ : ∃ left, left = leftW m L := ⟨_, rfl⟩
        have HLE := Lib.hid hleft
        rw [← hleft] at cT hyn HNX HCO HP HHI HIN
        clear hz hpz hsn hleft htw hlen hbx
        go_wp2_with fail
        refine (graph_Each left _).mono ?_
        rintro e W3 ⟨rfl, rfl⟩
        go_wp2_with fail
        refine HCO.out.mono ?_
        clear HCO
        rintro e w3 ⟨A3, n3, cap3, rfl, hn3, hh3, he3⟩
        have hb3 : Below wr.heap.size wr w3 := ((Below.refl _ wr).alloc (Nat.le_refl _) _).trans (hh3.to (B := wr.heap.size) (by simp) (by simp))
        rw [size_alloc'] at he3
        have HC := Lib.hid (HP.out w3 A3 n3 cap3 hb3 hn3 he3)
        have HB3 := Lib.hid hb3
        have HE3 := Lib.hid he3
        have HN3 := Lib.hid hn3
        clear hb3 hn3 hh3 he3 HP
        go_wp2_with fail
        refine HC.out.mono ?_
        clear HC
        rintro e w4 ⟨rfl, hb4⟩
        have hz3 := HB3.out.size
        have hz4 := hb4.size
        have hbw4 := HB3.out.trans (hb4.mono hz3)
        have HB4 := Lib.hid (HB.out.trans (hbw4.mono (by omega)))
        have HO4 := Lib.hid (HO.out.below hbw4 (Nat.le_refl _))
        have HKS4 := Lib.hid (HKS.out.below hbw4 hSr)
        have hkt4 := HKT.out.below hbw4 hTr
        have HKT4 := Lib.hid hkt4
        have cT4 := hkt4.cell 0
        have fT4 := hkt4.frozen 0
        have HE4 := Lib.hid (HE3.out.below hb4 (Nat.le_refl _))
        rcases HNX.out with ⟨hid, hno⟩ | ⟨q, i, hid, ⟨hq, hqi⟩, hbi, hst⟩
        · rw [hid]
          have HNO := Lib.hid hno
          clear hid hno hkt4 hb4 hbw4
          go_wp2_with fail
          refine bodyPost_ret (v := .tuple #[.slice none 0 0, .int .i64 5]) (by simp [results, Tryd.results39, go_sem]) rfl ?_
          exact ⟨none, 0, 0, 5, rfl, HB2.out.trans (HB4.out.mono hwS), fun h => absurd HZ.out h, fun _ => ⟨m, false, L, rfl, ⟨HCH.out, (fun h => by cases h), fun _ => ⟨by rw [HLK.out]; exact hkm, HNO.out⟩⟩, fun _ => ⟨rfl, rfl⟩, (fun h => by cases h)⟩⟩
        · rw [hid]
          have him := (HIN.out i hbi).1
          have hqn : q < n3 := by rw [HN3.out]; exact hq
          have HQE : Hid (∃ hq : q < (bitsI left).length, (bitsI left)[q] = (i : Int)) := Lib.hid ⟨hq, hqi⟩
          obtain ⟨b, rfl, hbb, hbw5, g0, _⟩ := HE4.out.cell1 hq
          rw [hqi] at g0
          have HST := Lib.hid hst
          have HNX2 : Hid (leftW m (L ++ [(i : Int)]) = wBut left (wShl w1 i)) := Lib.hid (by rw [HSN.out, HLE.out]; rfl)
          have hne4 : some T ≠ blkOf A2 := Own.ne_blk HO4.out hkt4 (by decide)
          have HNE4 := Lib.hid hne4
          clear hid hq hqi hbi hst hkt4 hb4 hbw4 hne4
          go_wp2_with (at_builtin; go_must (
            refine wpList_push rfl _ _ _ rfl (S + 1) 1 3 (.int .i64 0) 8 Tryd.underlying32 (by kernel_rfl) rfl (by omega) icell w4 #[.int .i64 i] A2 k cap L HLK.out rfl HO4.out 1 [(i : Int)] rfl rfl _ rfl rfl (by simp [Value.oneCell']) (by unfold maxLen; omega) (by omega) (by omega) ?_
            intro A5 cap5 w5 hown5 hgrow5 hloc5))
          have hneb : blkOf (some (⟨b, 0, none⟩ : Addr)) ≠ blkOf A2 := fun h => by
            have h1 := (HO.out.lt b h.symm).2
            omega
          have hkt5 := (HKT4.out.alloc (.cells #[.int .i64 i] 3)).grown hgrow5 HNE4.out
          have cT5 := hkt5.cell 0
          have fT5 := hkt5.frozen 0
          obtain ⟨hq', hqi'⟩ := HQE.out
          obtain ⟨b', hbe, _, _, g5, _⟩ := ((HE4.out.alloc (.cells #[.int .i64 i] 3)).kept hgrow5 (.inr hneb)).cell1 hq'
          obtain rfl : b = b' := by simpa using hbe
          rw [hqi'] at g5
          have HKT5 := Lib.hid hkt5
          have HKS5 := Lib.hid ((HKS4.out.alloc (.cells #[.int .i64 i] 3)).grown hgrow5 (fun h => by have := (HO4.out.lt _ h.symm).1; omega))
          have HB5 := Lib.hid ((HB4.out.alloc (by omega) (.cells #[.int .i64 i] 3)).grown hgrow5 (by rw [size_alloc']; omega) (fun g hg => by have := (HO4.out.lt g hg).1; omega))
          have HO5 := Lib.hid hown5
          clear hkt5 hown5 hgrow5 hloc5 hbe g0 hneb hq' hqi'
          refine region_plain 7 8 (fun w' => w' = w5.drew) (by kernel_rfl) rfl ?_
          refine anyC_reads (by kernel_rfl) [0, 1, 2, 3, 4, 5, 6] ?opl ?ohl 1 _ _ _ (by kernel_rfl) ?okk
          case ohl => (simp only [List.filterMap_cons, List.filterMap_nil, List.getElem?_toArray, List.getElem?_cons_zero, List.getElem?_cons_succ]; try rfl)
          case okk =>
            repeat (
              refine readC_step (v := ?_) rfl (fun w' hw' => ?_) ?_
              rotate_left
              focus (subst hw'; go_simp; try with_reducible rfl)
              go_simp)
            refine readC_nil ?_
            refine anyC_one (i := 7) (by kernel_rfl) rfl rfl (.inr rfl) ?_
            go_simp
            refine anyC_end (by kernel_rfl) (.inl (by kernel_rfl)) ?_
            go_wp2_with fail
            go_roundw
            case rel =>
              have hs5 := HKS5.out.lt
              have hsz : ∀ v, (w5.setCell ⟨T, 0, none⟩ v).heap.size = w5.heap.size := fun v => by simp [World.setCell]
              refine ⟨w5.heap.size, k + 1, A5, cap5, L ++ [(i : Int)], rfl, rfl, by rw [List.length_append, HLK.out]; rfl, HCH.out.snoc HST.out, hs5, ?_, ?_, ?_, ?_⟩
              · exact ((HB5.out.setCell (p := ⟨T, 0, none⟩) (Nat.le_of_lt hST) _).alloc (by rw [hsz]; omega) _).drew
              · exact ((HKS5.out.far (p := ⟨T, 0, none⟩) (show S ≠ T by omega) _).alloc _).drew
              · rw [HNX2.out, HLE.out]
                exact (Blk.new_at (hsz _)).drew
              · exact ((HO5.out.far (p := ⟨T, 0, none⟩) (fun h => Own.ne_blk HO5.out HKT5.out (by decide) h.symm) _).alloc _).drew
            case measure => simp [lenV]; omega
  · have h1 : (graphCheck N l != 0) = true := by simpa using h0
    have H0 := Lib.hid h0
    obtain ⟨x, hx⟩ : ∃ x, x = graphCheck N l := ⟨_, rfl⟩
    rw [← hx] at h1 ⊢
    have HX := Lib.hid hx
    clear h0 hx
    go_wp2_with fail
    refine bodyPost_ret (v := .tuple #[.slice none 0 0, .int .i64 x]) (by simp [results, Tryd.results39, go_sem]) rfl ?_
    exact ⟨none, 0, 0, x, rfl, HB1.out, fun _ => ⟨HX.out, rfl⟩, fun h => absurd h H0.out⟩
end Go.Proofs.YtnpcbbdfpbnakaaDoor
