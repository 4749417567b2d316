/- Have some nodes no edge between them: the program's walk. Conditions: the words read as a list; the table. -/
import Derived.Test.YtokmialpclcodaaDoorTurnP
import Derived.Test.YtokmialpclcodaaDoorSeekP
import Derived.Test.YtokmialpclcodaaDoorHeld
import Derived.Test.YtokmialpclcodaaDoorHeldB
import Derived.BigRegionIn
import Derived.Sort.QuietIn
namespace Go.Proofs.YtokmialpclcodaaDoor
open Go.RowKit Go.Shelf
attribute [local go_sem] Oper.semAt_some
attribute [local go_sem ↓] w_and w_or w_xor w_andNot w_and1 w_and255 w_xor1 w_or0 w_shl w_shl1 w_shr w_sub w_add w_sub1 w_add1
attribute [local go_sem] w_eq0 w_ne0 w_eq1 w_eq w_ne

def ApI (near : List (BitVec 32)) (s : BitVec 32) (b : Nat) (pre : List Nat) (W : World) : Prop := (∀ j ∈ pre, wAnd (lw near j) s = w0) ∧ Blk W b 4 #[.bool false]
def ApX (near : List (BitVec 32)) (s : BitVec 32) (b : Nat) (cd : Code) (pre : List Nat) (W : World) : Prop := cd = .ret ∧ (∃ j ∈ pre, wAnd (lw near j) s ≠ w0) ∧ Blk W b 4 #[.bool false]
set_option maxRecDepth 100000 in
set_option maxHeartbeats 4000000 in
theorem col_apart (N : Nat) (es : List Ed) (hg : GoodG N es) (A : Option Addr) (c B : Nat) (s : BitVec 32) (hs : InW N s) (w : World) (hB : B ≤ w.heap.size) (hr : Els w B 1 wcell A (nearL N es)) (htab : TabOk w) :
    Calls Tryd.prog 38 #[.slice A N c, .int .u32 (wN s)] w fun e w' => e = .returned (.bool (looseB es s)) ∧ Below w.heap.size w w' := by
  have hlen := nearL_length N es
  have HLN := Lib.hid (loose_near hg hs)
  have HLEN := Lib.hid hlen
  have HS0 := Lib.hid hs
  obtain ⟨S, hS⟩ : ∃ S, S = w.heap.size := ⟨_, rfl⟩
  obtain ⟨W1, hW1⟩ : ∃ W1, W1 = (((w.alloc (.cells #[.slice A N c] 22)).alloc (.cells #[.int .u32 (wN s)] 51)).alloc (.cells #[.bool false] 4)) := ⟨_, rfl⟩
  have hB1 : Below S w W1 := by rw [hW1, hS]; exact (((Below.refl _ w).alloc (Nat.le_refl _) _).alloc (by simp) _).alloc (by first | (simp; done) | (simp; omega)) _
  have hk0 : Blk W1 S 22 #[.slice A N c] := by rw [hW1, hS]; exact ((Blk.new w _ _).alloc _).alloc _
  have hk1 : Blk W1 (S + 1) 51 #[.int .u32 (wN s)] := by rw [hW1, hS]; exact (Blk.new_at (by simp)).alloc _
  have hk2 : Blk W1 (S + 1 + 1) 4 #[.bool false] := by rw [hW1, hS]; exact Blk.new_at (by simp)
  have hz1 : W1.heap.size = S + 1 + 1 + 1 := by rw [hW1, hS]; simp
  have hS0 : 0 < S := by rw [hS]; exact Nat.lt_of_le_of_lt (Nat.zero_le _) htab.1
  have ht1 : TabOk W1 := htab.below hB1 hS0
  rw [← hS] at hB
  have hr1 : Els W1 B 1 wcell A (nearL N es) := hr.below (hB1.mono hB)
  have x1 := hk1.cell 0
  rw [hW1] at x1
  have HS := Lib.hid hS
  have HW1 := Lib.hid hW1
  have HB1 := Lib.hid hB1
  have HK0 := Lib.hid hk0
  have HK1 := Lib.hid hk1
  have HK2 := Lib.hid hk2
  have HT1 := Lib.hid ht1
  have HR1 := Lib.hid hr1
  clear hr htab hS hW1 hB1 hk0 hk1 hk2 ht1 hr1 hlen hs
  refine (callsIn_wide (n := 9)).1 ?_
  refine callsIn_of_wp_marks Tryd.func38 rfl trivial ?_ rfl
  simp only [Tryd.ntmps38, List.size_toArray, List.length_cons, List.length_nil, Nat.reduceAdd, Nat.reduceSub, Array.replicate_succ, Array.replicate_zero, List.push_toArray, List.append_toArray, List.nil_append, List.cons_append]
  gi_wp2_with fail
  refine wide_call2 ((graph_Each s _).mono ?_)
  rintro e W3 ⟨rfl, rfl⟩
  gi_wp2_with fail
  rw [← HW1.out, ← HS.out]
  clear x1
  obtain ⟨T, hT⟩ : ∃ T, T = S + 1 + 1 + 1 := ⟨_, rfl⟩
  rw [← hT]
  obtain ⟨W5, hW5⟩ : ∃ W5, W5 = W1.alloc (.cells #[.int .u32 (wN s)] 51) := ⟨_, rfl⟩
  rw [← hW5]
  have hk5 : Boxed W5 T 51 (.int .u32 (wN s)) := by rw [hW5, hT, ← hz1]; exact Boxed.new W1 _ _
  have hz5 : W5.heap.size = T + 1 := by rw [hW5, hT, ← hz1]; exact size_alloc' W1 _
  have hb15 : Below (S + 1 + 1 + 1) W1 W5 := by rw [hW5]; exact (Below.refl _ W1).alloc (by omega) _
  have hb5 : Below S w W5 := HB1.out.trans (hb15.mono (by omega))
  have q0 := HK0.out.below hb15 (by omega)
  have q1 := HK1.out.below hb15 (by omega)
  have q2 := HK2.out.below hb15 (by omega)
  have q7 : Els W5 B 1 wcell A (nearL N es) := HR1.out.below (hb15.mono (by omega))
  have htw : TabOk W5 := HT1.out.below hb15 (by omega)
  have HB5 := Lib.hid hb5
  have hTS1 : S + 1 + 1 + 1 ≤ T := by omega
  have hTS2 : T ≤ S + 1 + 1 + 1 := by omega
  clear HK0 HK1 HK2 HR1 HT1 HB1 HW1 hW5 hb15 hb5 hT hz1
  have HK0 := Lib.hid q0
  have HK1 := Lib.hid q1
  have HK2 := Lib.hid q2
  have HRT := Lib.hid q7
  have HTW := Lib.hid htw
  have HK5 := Lib.hid hk5
  clear q0 q1 q2 q7 htw hk5
  have hmarks : ∀ (D : Nat) (W : World), W5.heap.size ≤ D → Held [S + 1 + 1, T] W5 W → W.heap[D]? = some (.deferred (some [])) → Marks S [{ target := .collected D, args := #[] }] W := fun D W hD hh hdef =>
    (Marks.nil S W5).cons rfl hD (by omega) (fun k hk he => (hh.block k hk (fun hm => by
      have hcell : (Obj.deferred (some [])).isCells = true := by
        simp only [List.mem_cons, List.not_mem_nil, or_false] at hm
        rcases hm with rfl | rfl
        · exact HK2.out.isCells _ he
        · exact (show Blk W5 k 51 #[.int .u32 (wN s)] from HK5.out).isCells _ he
      cases hcell)).trans he) hdef
  have HMARKS := Lib.hid hmarks
  have hfin : Hid (∀ (W W' : World), Held [S + 1 + 1, T] W5 W → Shut S W W' → Below w.heap.size w W') := Lib.hid (fun W W' hh hw' => by
    rw [← HS.out]
    exact (HB5.out.trans (hh.to (B := S) (by omega) (by simp; omega))).trans hw'.1)
  clear hmarks
  refine wpIn_bits (p := 8) (q := 5) 9 67 T 51 (.int .u32 (wN s)) (bitsL s) [S + 1 + 1, T] rfl (enters_of Tryd.func67 (by kernel_rfl) rfl)
    (Each1_seq _ _ _ (by omega)) HK5.out HTW.out (by simp)
    (ApI (nearL N es) s (S + 1 + 1)) (ApX (nearL N es) s (S + 1 + 1))
    (fun s X Y row h hg hrow => by obtain ⟨h1, h3⟩ := h; exact ⟨h1, blk_kept h3 hg hrow⟩)
    (fun cd s X Y row h hg hrow => by obtain ⟨h0, h1, h3⟩ := h; exact ⟨h0, h1, blk_kept h3 hg hrow⟩)
    (fun s X v h => by obtain ⟨h1, h3⟩ := h; exact ⟨h1, h3.far (show S + 1 + 1 ≠ T by omega) v⟩)
    ⟨by simp, HK2.out⟩ ?assign ?body ?done ?stop
  case assign =>
    intro l' j W K hK
    simp only [List.setIfInBounds_toArray, List.set_cons_succ, List.set_cons_zero] at hK ⊢
    gi_wp2_with fail
    exact hK
  case body =>
    intro l' pre j W hh hi hpre
    obtain ⟨hno, hk2W⟩ := hi
    have hmem : j ∈ bitsL s := by
      obtain ⟨z, hz⟩ := hpre
      rw [← hz]; simp
    have hjN := HS0.out j (mem_bitsL.1 hmem)
    have hp0 := HK0.out.held hh (by simp; omega)
    have hp1 := HK1.out.held hh (by simp; omega)
    have hrtW := HRT.out.below (hh.to (B := B) (by omega) (by simp; omega))
    have hSW := hh.size
    obtain ⟨b3, off3, hAe, _, x3⟩ := hrtW.at1 (k := j) (by rw [HLEN.out]; exact hjN)
    rw [← lw_at (nearL N es) j (by rw [HLEN.out]; exact hjN)] at x3
    subst hAe
    obtain ⟨X, hX⟩ : ∃ X, X = lw (nearL N es) j := ⟨_, rfl⟩
    rw [← hX] at x3
    have x0 := hp0.cell 0
    have x1 := hp1.cell 0
    have x2 := hk2W.cell 0
    have f2 := hk2W.frozen 0
    have hjI : (j : Int) < (N : Int) := by omega
    have HX := Lib.hid hX
    have HH := Lib.hid hh
    have HNO := Lib.hid hno
    have HK2W := Lib.hid hk2W
    clear hh hno hk2W hp0 hp1 hrtW hX hpre hmem
    simp only [List.setIfInBounds_toArray, List.set_cons_succ, List.set_cons_zero]
    gi_wp2_with fail
    refine region_round 99 7 (fun w' => w' = W.drew) (by kernel_rfl) rfl (by kernel_rfl) ?_
    refine anyC_reads (by kernel_rfl) [0, 1, 2, 3, 4, 5, 6] ?opk ?ohk 0 _ _ _ (by kernel_rfl) ?okk
    case ohk => (simp only [List.filterMap_cons, List.filterMap_nil, List.getElem?_toArray, List.getElem?_cons_zero, List.getElem?_cons_succ]; try rfl)
    repeat (
      refine readC_step (v := ?_) rfl (fun w' hw' => ?_) ?_
      rotate_left
      focus (subst hw'; go_simp; try with_reducible rfl)
      go_simp)
    refine readC_nil ?_
    refine anyC_end (by kernel_rfl) (.inr rfl) ?_
    obtain ⟨bv, hbv⟩ : ∃ bv, bv = (wAnd X s != w0) := ⟨_, rfl⟩
    rw [← hbv]
    cases bv with
    | false =>
      have hz : wAnd X s = w0 := by simpa using hbv.symm
      have HZ := Lib.hid hz
      clear hz hbv
      gi_wp2_with fail
      refine ⟨KeepsFrom.drew (KeepsFrom.refl _ _), (KpE.refl _ _ _).drew, HH.out.drew1, fun q hq => ?_, HK2W.out.drew⟩
      rcases List.mem_append.1 hq with h | h
      · exact HNO.out q h
      · rw [List.mem_singleton.1 h, ← HX.out]; exact HZ.out
    | true =>
      have hz : wAnd X s ≠ w0 := by simpa using hbv.symm
      have HZ := Lib.hid hz
      clear hz hbv
      gi_wp2_with fail
      have hall : Held [S + 1 + 1] W (W.setCell ⟨S + 1 + 1, 0, none⟩ (.bool false)).drew := ((Held.refl _ W).setCell (p := ⟨S + 1 + 1, 0, none⟩) (by simp) _).drew1
      refine ⟨KeepsFrom.held hall (fun k hk o ho => by
        rw [List.mem_singleton] at hk
        subst hk
        exact HK2W.out.isCells o ho), HH.out.then hall (fun k hk _ => by simp at hk ⊢; omega), rfl, ⟨j, by simp, by rw [← HX.out]; exact HZ.out⟩, (HK2W.out.put 0 (.bool false)).drew⟩
  case done =>
    intro D W hD hh hi hdef
    obtain ⟨hno, hk2W⟩ := hi
    have HMK := Lib.hid (HMARKS.out D W hD hh hdef)
    have f2 := hk2W.frozen 0
    have c2 := hk2W.cell 0
    have HM2 := Lib.hid (HMK.out.setCell (p := ⟨S + 1 + 1, 0, none⟩) (.bool true) (fun o ho he => by rw [show W.heap[S + 1 + 1]? = _ from hk2W] at ho; cases ho; cases he))
    have HP2 := Lib.hid (hk2W.put 0 (.bool true))
    have HHH := Lib.hid (hh.setCell (p := ⟨S + 1 + 1, 0, none⟩) (by simp) (.bool true))
    have HLT : Hid (looseB es s = true) := Lib.hid (HLN.out.2 fun i hi => hno i (mem_bitsL.2 hi))
    clear hh hdef hno hk2W HMK
    gi_wp2_with fail
    refine bodyPostM_ret HM2.out fun w' hw' => ?_
    have hv := (HP2.out.shut hw').cell 0
    refine ⟨.bool true, by simp [results, Tryd.results38, go_sem, hv], by rw [HLT.out], hfin.out _ _ HHH.out hw'⟩
  case stop =>
    rintro D cd pre W hD hpre hh ⟨rfl, ⟨j, hj, hjn⟩, hk2W⟩ hdef
    have HMK := Lib.hid (HMARKS.out D W hD hh hdef)
    have HP2 := Lib.hid hk2W
    have HHH := Lib.hid hh
    have HLT : Hid (looseB es s = false) := Lib.hid (by
      cases hb : looseB es s with
      | false => rfl
      | true =>
        obtain ⟨z, hz⟩ := hpre
        exact absurd (HLN.out.1 hb j (mem_bitsL.1 (by rw [← hz]; exact List.mem_append_left _ hj))) hjn)
    clear hh hdef hk2W hpre hj hjn
    gi_wp2_with fail
    refine bodyPostM_ret HMK.out fun w' hw' => ?_
    have hv := (HP2.out.shut hw').cell 0
    refine ⟨.bool false, by simp [results, Tryd.results38, go_sem, hv], by rw [HLT.out], hfin.out _ _ HHH.out hw'⟩
end Go.Proofs.YtokmialpclcodaaDoor
