/- Which colours a node may have: the painter's word. Conditions: the words and the row read as lists; the table. -/
import Derived.Test.YtokmialpclcodaaDoorHueP
import Derived.Test.YtokmialpclcodaaDoorSeekP
import Derived.Test.YtokmialpclcodaaDoorHeld
import Derived.Test.YtokmialpclcodaaDoorHeldB
import Derived.BigRegionIn
import Derived.Sort.QuietIn
namespace Go.Proofs.YtokmialpclcodaaDoor
open Go.RowKit Go.Shelf
attribute [local go_sem] Oper.semAt_some
attribute [local go_sem ↓] w_and w_or w_xor w_andNot w_and1 w_and255 w_xor1 w_or0 w_shl w_shl1 w_shr w_sub w_add w_sub1 w_add1
attribute [local go_sem] w_eq0 w_ne0 w_eq1 w_eq w_ne

set_option maxRecDepth 100000 in
set_option maxHeartbeats 4000000 in
theorem col_may (N : Nat) (hN : N ≤ 10) (A : Option Addr) (c cl Q g B : Nat) (t : List (BitVec 32)) (l : List Int) (i k : Nat) (w : World) (ht : t.length = N) (hl : l.length = N) (hi : i < N) (hbits : ∀ j ∈ bitsL (lw t i), j < N)
    (hq : Blk w Q 73 #[.slice A N c, .slice (some ⟨g, 0, none⟩) N cl]) (hrt : Els w B 1 wcell A t) (hrl : Els w B 1 icell (some ⟨g, 0, none⟩) l) (hB : B ≤ w.heap.size) (htab : TabOk w) :
    Calls Tryd.prog 43 #[.pointer (some ⟨Q, 0, none⟩), .int .i64 i, .int .i64 k] w fun e w' => e = .returned (.int .u32 (wN (mayW l (lw t i) k))) ∧ Below w.heap.size w w' := by
  have HT0 := Lib.hid ht
  have HL := Lib.hid hl
  have HBI := Lib.hid hbits
  have h0 := htab.1
  have hQl := hq.lt
  obtain ⟨T, hT⟩ : ∃ T, T = w.heap.size := ⟨_, rfl⟩
  have hil : i < t.length := by rw [ht]; exact hi
  obtain ⟨X, hX⟩ : ∃ X, X = lw t i := ⟨_, rfl⟩
  obtain ⟨W2, hW2⟩ : ∃ W2, W2 = ((w.alloc (.cells #[.pointer (some ⟨Q, 0, none⟩)] 68)).alloc (.cells #[.int .u32 (wN (maskW k))] 51)) := ⟨_, rfl⟩
  have hb2 : Below T w W2 := by rw [hW2, hT]; exact ((Below.refl _ w).alloc (Nat.le_refl _) _).alloc (by simp) _
  have hz2 : W2.heap.size = T + 2 := by rw [hW2, size_alloc', size_alloc', hT]
  have hq2 : Blk W2 Q 73 #[.slice A N c, .slice (some ⟨g, 0, none⟩) N cl] := hq.below hb2 (by omega)
  have hp2 : Blk W2 T 68 #[.pointer (some ⟨Q, 0, none⟩)] := by rw [hW2, hT]; exact (Blk.new w _ _).alloc _
  have ha2 : Boxed W2 (T + 1) 51 (.int .u32 (wN (maskW k))) := by
    rw [hW2]
    exact Blk.new_at (by rw [size_alloc', hT])
  have hrt2 : Els W2 B 1 wcell A t := hrt.below (hb2.mono (by omega))
  obtain ⟨b3, off3, hAe, hb3B, x3⟩ := hrt2.at1 hil
  subst hAe
  rw [← lw_at t i hil, ← hX] at x3
  have x1 := hq2.cell 0
  have hmk : wSub (wShl w1 k) w1 = maskW k := rfl
  have HB2 := Lib.hid hb2
  have HQ2 := Lib.hid hq2
  have HP2 := Lib.hid hp2
  have HA2 := Lib.hid ha2
  have HT := Lib.hid hT
  have HX := Lib.hid hX
  have HRL := Lib.hid (hrl.below (hb2.mono (show B ≤ T by omega)))
  have ht2 : TabOk W2 := htab.below hb2 (by omega)
  have HT2 := Lib.hid ht2
  have HW2 := Lib.hid hW2
  have HZ2 := Lib.hid hz2
  rw [hW2] at x1 x3
  rw [← hT] at hB h0 hQl ⊢
  rw [← hX]
  clear hb2 hq2 hp2 ha2 hT hX hrl hrt hrt2 hq htab ht2 hW2 ht hl hbits hz2
  refine (callsIn_wide (n := 9)).1 ?_
  refine callsIn_of_wp_marks Tryd.func43 rfl trivial ?_ rfl
  simp only [Tryd.ntmps43, List.size_toArray, List.length_cons, List.length_nil, Nat.reduceAdd, Nat.reduceSub, Array.replicate_succ, Array.replicate_zero, List.push_toArray, List.append_toArray, List.nil_append, List.cons_append]
  gi_wp2_with fail
  refine wide_call2 ((graph_Each X _).mono ?_)
  rintro e W3 ⟨rfl, rfl⟩
  gi_wp2_with fail
  rw [← HW2.out, ← HT.out]
  obtain ⟨W5, hW5⟩ : ∃ W5, W5 = W2.alloc (.cells #[.int .u32 (wN X)] 51) := ⟨_, rfl⟩
  rw [← hW5]
  have hb25 : Below (T + 1 + 1) W2 W5 := by rw [hW5]; exact (Below.refl _ W2).alloc (by rw [HZ2.out]; exact Nat.le_refl _) _
  have hb5 : Below T w W5 := HB2.out.trans (hb25.mono (by omega))
  have hk5 : Boxed W5 (T + 1 + 1) 51 (.int .u32 (wN X)) := by rw [hW5]; exact Blk.new_at HZ2.out
  have hz5 : W5.heap.size = T + 1 + 1 + 1 := by rw [hW5]; exact (size_alloc' W2 _).trans (congrArg (· + 1) HZ2.out)
  have hp5 : Boxed W5 T 68 (.pointer (some ⟨Q, 0, none⟩)) := HP2.out.below hb25 (by omega)
  have ha5 : Boxed W5 (T + 1) 51 (.int .u32 (wN (maskW k))) := (show Blk W2 (T + 1) 51 #[.int .u32 (wN (maskW k))] from HA2.out).below hb25 (by omega)
  have hq5 : Blk W5 Q 73 #[.slice (some ⟨b3, off3, none⟩) N c, .slice (some ⟨g, 0, none⟩) N cl] := HQ2.out.below hb25 (by omega)
  have ht5 : TabOk W5 := HT2.out.below hb25 (by omega)
  have hrl5 : Els W5 B 1 icell (some ⟨g, 0, none⟩) l := HRL.out.below (hb25.mono (by omega))
  have HB5 := Lib.hid hb5
  have HP5 := Lib.hid hp5
  have HA5 := Lib.hid ha5
  have HQ5 := Lib.hid hq5
  have HRL5 := Lib.hid hrl5
  clear hW5 hb25 hb5 hp5 ha5 hq5 hrl5 HB2 HP2 HA2 HQ2 HT2 HRL HW2 HZ2 x1 x3
  refine wpIn_bits (p := 20) (q := 8) 9 67 (T + 1 + 1) 51 (.int .u32 (wN X)) (bitsL X) [T + 1, T + 1 + 1] rfl (enters_of Tryd.func67 (by kernel_rfl) rfl)
    (Each1_seq _ _ _ (by omega)) hk5 ht5 (by simp) (fun pre W => Boxed W (T + 1) 51 (.int .u32 (wN (pre.foldl (hueStep l) (maskW k))))) (fun _ _ _ => False)
    (boxed_own _ _ _) (fun _ _ _ _ _ h _ _ => h) (fun s A v h => h.other (by omega) v) HA5.out ?assign ?body ?done (fun _ _ _ _ _ _ _ h _ => h.elim)
  case assign =>
    intro l' j W K hK
    simp only [List.setIfInBounds_toArray, List.set_cons_succ, List.set_cons_zero] at hK ⊢
    gi_wp2_with fail
    exact hK
  case body =>
    intro l' pre j W hh hi hpre
    have hjX : j ∈ bitsL X := by obtain ⟨z, hz⟩ := hpre; rw [← hz]; simp
    have hjn : j < N := by rw [HX.out] at hjX; exact HBI.out j hjX
    have hjl : j < l.length := by rw [HL.out]; exact hjn
    have HH := Lib.hid hh
    have hxW : Boxed W T 68 (.pointer (some ⟨Q, 0, none⟩)) := hh.boxed HP5.out (by simp; omega)
    have hqW : Blk W Q 73 #[.slice (some ⟨b3, off3, none⟩) N c, .slice (some ⟨g, 0, none⟩) N cl] := HQ5.out.held hh (by simp; omega)
    obtain ⟨g', off', hge, _, y1⟩ := (HRL5.out.below (hh.to (B := B) (by omega) (by simp; omega))).at1 hjl
    simp only [Option.some.injEq, Addr.mk.injEq] at hge
    obtain ⟨rfl, rfl, _⟩ := hge
    obtain ⟨v, hv⟩ : ∃ v, v = l.getD j 0 := ⟨_, rfl⟩
    rw [← getD_at l j hjl 0, ← hv, Nat.zero_add] at y1
    have y0 := hxW.cell
    have y2 := hqW.cell 1
    have y3 := hi.cell
    have y4 := hi.frozen
    have HI := Lib.hid hi
    have HV := Lib.hid hv
    simp only [List.setIfInBounds_toArray, List.set_cons_succ, List.set_cons_zero]
    clear hh hxW hqW hi hv hpre hjX
    by_cases hv0 : 0 ≤ v
    · have HS : Hid (∀ u, hueStep l u j = wBut u (wShl w1 v.toNat)) := Lib.hid (fun u => by unfold hueStep; rw [← HV.out, if_pos hv0])
      gi_wp2_with fail
      gi_region
      all_goals
        refine ⟨KeepsFrom.drew (KeepsFrom.box HI.out _), (KpE.setCell W ⟨T + 1, 0, none⟩ _ (by show T + 1 + 1 ≠ T + 1; omega) (by show 0 ≠ T + 1; omega)).drew, (HH.out.setCell (p := ⟨T + 1, 0, none⟩) (by simp) _).drew1, ?_⟩
        rw [List.foldl_append, List.foldl_cons, List.foldl_nil, HS.out]
        exact Boxed.drew (HI.out.set _)
    · have HS : Hid (∀ u, hueStep l u j = u) := Lib.hid (fun u => by unfold hueStep; rw [← HV.out, if_neg hv0])
      gi_wp2_with fail
      refine ⟨KeepsFrom.refl _ _, KpE.refl _ _ _, HH.out, ?_⟩
      rw [List.foldl_append, List.foldl_cons, List.foldl_nil, HS.out]
      exact HI.out
  case done =>
    intro D W hD hh hi hdef
    have hbW := Lib.hid (HB5.out.trans (hh.to (B := T) (by omega) (by simp; omega)))
    have hmk := Lib.hid (hh.mark (Marks.nil T _) (by simp; exact ⟨⟨_, _, HA5.out⟩, ⟨_, _, hk5⟩⟩) (by omega) hD hdef)
    have c2 := hi.cell
    clear hh hi hdef ht5 hk5
    gi_wp2_with fail
    refine bodyPostM_ret hmk.out fun w' hw' => ⟨.int .u32 (wN (mayW l X k)), by simp [results, Tryd.results43, go_sem, mayW], ?_⟩
    exact ⟨rfl, hbW.out.trans hw'.1⟩
end Go.Proofs.YtokmialpclcodaaDoor
