/- slices.Collect and slices.Sorted of slices.Values of whole numbers. Conditions: the slice reads as a list. -/
import Derived.Test.YtlflnfelhndohaaDoorMapsHoles15
import Derived.Test.YtlflnfelhndohaaDoorMapsHoles14
import Derived.BigRegionIn
namespace Go.Proofs.YtlflnfelhndohaaDoor
open Go.RowKit Go.Shelf
attribute [local go_sem] Oper.semAt_some

set_option maxRecDepth 100000 in
set_option maxHeartbeats 1000000 in
theorem AppendSeq_values (n z P c : Nat) (hn : n ≤ 17592186044415) (A : Option Addr) (q : List Int) (hq : q.length = n) (w : World) (hk : Blk w P 25 #[.slice A n c]) (he : Els w z 1 icell A q) (hzP : z ≤ P) :
    Calls Tryd.prog 50 #[.slice none 0 0, .func (.func 49) #[] #[.pointer (some ⟨P, 0, none⟩)]] w fun e w' => ∃ (A' : Option Addr) (cap : Nat), e = .returned (.slice A' n cap) ∧ Below w.heap.size w w' ∧ Own w' (w.heap.size + 1) 3 1 icell A' cap q := by
  refine (callsIn_wide (n := 9)).1 ?_
  refine callsIn_of_wp_marks Tryd.func50 rfl trivial ?_ rfl
  simp only [Tryd.ntmps50, List.size_toArray, List.length_cons, List.length_nil, Nat.reduceAdd, Nat.reduceSub, Array.replicate_succ, Array.replicate_zero, List.push_toArray, List.append_toArray, List.nil_append, List.cons_append]
  gi_wp2_with fail
  obtain ⟨S, hS⟩ : ∃ S, S = w.heap.size := ⟨_, rfl⟩
  obtain ⟨W1, hW1⟩ : ∃ W1, W1 = w.alloc (.cells #[.slice none 0 0] 25) := ⟨_, rfl⟩
  have hPS : P < S := by rw [hS]; exact hk.lt
  have hB1 : Below S w W1 := by rw [hW1, hS]; exact (Below.refl _ w).alloc (Nat.le_refl _) _
  have hk1 : Blk W1 S 25 #[.slice none 0 0] := by rw [hW1, hS]; exact Blk.new w _ _
  have hx1 : Blk W1 P 25 #[.slice A n c] := by rw [hW1]; exact hk.alloc _
  have he1 : Els W1 z 1 icell A q := he.below (hB1.mono (by omega))
  have hz1 : W1.heap.size = S + 1 := by rw [hW1, size_alloc', hS]
  rw [← hW1, ← hS]
  have HB1 := Lib.hid hB1
  have HK1 := Lib.hid hk1
  have HS := Lib.hid hS
  clear hW1 hS hB1 hk he
  refine wpIn_iter1 (p := 7) (q := 5) 9 49 #[.pointer (some ⟨P, 0, none⟩)] (fun x : Int => .int .i64 x) _ _ (KeepZ z P) _ q rfl (enters_of Tryd.func49 (by kernel_rfl) rfl)
    (val_seq n z P c hn A q hq) (fun V hV _ => ⟨hx1.below hV (by omega), he1.below (hV.mono (by omega))⟩) (fun X Y k h _ _ _ => by rw [h]) (fun _ _ _ _ _ => trivial)
    (fun W o _ => ⟨by simp, fun k hk => World.putObj_heap_other (by omega)⟩) (fun {_ _ _} h1 h2 => h1.trans h2)
    (fun pre W => Held [S] W1 W ∧ ∃ (A' : Option Addr) (cap : Nat), Blk W S 25 #[.slice A' pre.length cap] ∧ Own W (S + 1) 3 1 icell A' cap pre) (fun _ _ _ => False)
    (fun s X Y row h hg hrow => by
      obtain ⟨h0, A', cap, h1, h2⟩ := h
      exact ⟨Held.own (β := List Int) s X Y row h0 hg hrow, A', cap, blk_kept h1 hg (fun r hr => (hrow r hr).2), own_kept h2 hg (fun r hr => (hrow r hr).2)⟩) (fun _ _ _ _ _ h _ _ => h)
    (fun s X Y h hXY => hXY ▸ h) (fun _ _ _ _ h _ => h) ⟨Held.refl _ _, none, 0, hk1, Own.nil _ _ _ (fun _ => rfl)⟩ ?assign ?body ?done (fun _ _ _ _ _ _ h _ => h.elim)
  case assign =>
    intro m l' j W K hK
    simp only [List.setIfInBounds_toArray, List.set_cons_succ, List.set_cons_zero] at hK ⊢
    gi_wp2_with fail
    exact hK
  case body =>
    intro m l' pre j W hi _ hpre
    obtain ⟨hh, A', cap, hk, ho⟩ := hi
    have hpl : pre.length < n := by
      obtain ⟨z, hz⟩ := hpre
      have := congrArg List.length hz
      simp at this
      omega
    have hSW := hk.lt
    have c0 := hk.cell 0
    have c0a := (hk.alloc (.cells #[.int .i64 j] 3)).cell 0
    have HH := Lib.hid hh
    have HK := Lib.hid hk
    have HO := Lib.hid ho
    simp only [List.setIfInBounds_toArray, List.set_cons_succ, List.set_cons_zero]
    clear hh hk ho
    gi_wp2_with (gi_at_builtin; go_must (
      refine wpListIn_push rfl _ _ _ rfl (S + 1) 1 3 (.int .i64 0) 8 Tryd.underlying25 (by kernel_rfl) rfl (by omega) icell W #[.int .i64 j] A' pre.length cap pre rfl rfl HO.out 1 [(j : Int)] rfl rfl _ rfl rfl (by simp [Value.oneCell']) (by unfold maxLen; omega) (by omega) (by omega) ?_
      intro A2 cap2 w4 hown4 hgrow4 hloc4
      have hne4 : some S ≠ blkOf A' := fun h => by have := (HO.out.lt _ h.symm).1; omega
      have hk4 := (HK.out.alloc (.cells #[.int .i64 j] 3)).grown hgrow4 hne4
      have d1 := hk4.frozen 0
      have d0 := hk4.cell 0
      have HK4 := Lib.hid hk4
      have HO4 := Lib.hid hown4
      have HG4 := Lib.hid hgrow4
      clear hown4 hgrow4 hloc4 hk4 hne4))
    have hbW : Below (S + 1) W w4 := ((Below.refl (S + 1) W).alloc (by omega) _).grown HG4.out (by rw [size_alloc']; omega) (fun g hg => (HO.out.lt g hg).1)
    refine ⟨((KeepsFrom.below ((Below.refl _ W).alloc (Nat.le_refl _) _) (Nat.le_refl _)).trans (KeepsFrom.own (HO.out.alloc _) HG4.out)).trans (KeepsFrom.box (t := 25) HK4.out _),
      ⟨by have := hbW.size; simpa [World.setCell] using this, fun k hk => (Below.heap_setCell w4 ⟨S, 0, none⟩ _ k (show k ≠ S by omega)).trans (hbW.block k (by omega))⟩,
      ((HH.out.alloc _).grown HG4.out (fun g hg => by have := (HO.out.lt g hg).1; omega)).setCell (p := ⟨S, 0, none⟩) (by simp) _, A2, cap2, ?_, ?_⟩
    · rw [List.length_append]
      exact HK4.out.put 0 _
    · exact HO4.out.low (show S < S + 1 by omega) _
  case done =>
    intro D W hD hi hdef
    obtain ⟨hh, A', cap, hk, ho⟩ := hi
    rw [hq] at hk
    have c0 := hk.cell 0
    have HH := Lib.hid hh
    have HO := Lib.hid ho
    have HMK := Lib.hid (hh.mark (Marks.nil S W1) (by simp; exact ⟨_, _, HK1.out⟩) (by omega) hD hdef)
    clear hh hk ho hdef hx1 he1
    gi_wp2_with fail
    refine bodyPostM_ret HMK.out fun w' hw' => ⟨.slice A' n cap, by simp [results, Tryd.results50, go_sem], ?_⟩
    refine ⟨A', cap, rfl, ?_, by rw [← HS.out]; exact HO.out.shut hw'⟩
    rw [← HS.out]
    have h1 := HB1.out
    have h2 := HH.out
    have h3 := hw'.1
    refine ⟨h3.os.trans (h2.os.trans h1.os), h3.tape.trans (h2.tape.trans h1.tape), h3.output.trans (h2.output.trans h1.output), Nat.le_trans h1.size (Nat.le_trans h2.size h3.size), fun k hk => ?_⟩
    have hkn : k ∉ [S] := by simp; omega
    exact (h3.block k hk).trans ((h2.block k (by omega) hkn).trans (h1.block k hk))
theorem Collect_values (n z P c : Nat) (hn : n ≤ 17592186044415) (A : Option Addr) (q : List Int) (hq : q.length = n) (w : World) (hk : Blk w P 25 #[.slice A n c]) (he : Els w z 1 icell A q) (hzP : z ≤ P) :
    Calls Tryd.prog 34 #[.func (.func 49) #[] #[.pointer (some ⟨P, 0, none⟩)]] w fun e w' => ∃ (A' : Option Addr) (cap : Nat), e = .returned (.slice A' n cap) ∧ Below w.heap.size w w' ∧ Own w' (w.heap.size + 1) 3 1 icell A' cap q := by
  have HC := Lib.hid (AppendSeq_values n z P c hn A q hq w hk he hzP)
  clear hk he
  go_enter Tryd.func34, Tryd.ntmps34
  go_wp2_with fail
  refine HC.out.mono ?_
  clear HC
  rintro e w' ⟨A, cap, rfl, hh, he⟩
  have HH := Lib.hid hh
  have HE := Lib.hid he
  clear hh he
  go_wp2_with fail
  go_ret
  exact ⟨A, cap, rfl, HH.out, HE.out⟩
theorem Sorted_values (n z P c : Nat) (hn : n ≤ 17592186044415) (A : Option Addr) (q : List Int) (hq : q.length = n) (w : World) (hk : Blk w P 25 #[.slice A n c]) (he : Els w z 1 icell A q) (hzP : z ≤ P) :
    Calls Tryd.prog 32 #[.func (.func 49) #[] #[.pointer (some ⟨P, 0, none⟩)]] w fun e w' => ∃ (A' : Option Addr) (cap : Nat), e = .returned (.slice A' n cap) ∧ Below w.heap.size w w' ∧ Own w' (w.heap.size + 1) 3 1 icell A' cap (sortI q) := by
  have HC := Lib.hid (Collect_values n z P c hn A q hq w hk he hzP)
  have HQ := Lib.hid hq
  clear hk he hq
  go_enter Tryd.func32, Tryd.ntmps32
  go_wp2_with fail
  refine HC.out.mono ?_
  clear HC
  rintro e w' ⟨A', cap, rfl, hh, he⟩
  have HSO := Lib.hid (Sort_ints q A' n cap (w.heap.size + 1) w' HQ.out (by omega) he)
  have HH := Lib.hid hh
  have HLT := Lib.hid he.lt
  clear hh he
  go_wp2_with fail
  refine HSO.out.mono ?_
  clear HSO
  rintro e w3 ⟨rfl, hg, ho⟩
  have HB := Lib.hid (HH.out.grown hg HH.out.size (fun g h => by have := (HLT.out g h).1; omega))
  have HO := Lib.hid ho
  clear hg ho
  go_wp2_with fail
  go_ret
  exact ⟨A', cap, rfl, HB.out, HO.out⟩
end Go.Proofs.YtlflnfelhndohaaDoor
