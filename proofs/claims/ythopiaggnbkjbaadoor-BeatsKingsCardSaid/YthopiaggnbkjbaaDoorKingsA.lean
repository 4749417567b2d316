/- The kings: what the program computes. Conditions: the words read as a list; the table. -/
import Derived.Test.YthopiaggnbkjbaaDoorHeld
import Derived.Test.YthopiaggnbkjbaaDoorBeatsA
import Derived.BigRegionIn
import Derived.Sort.QuietIn
namespace Go.Proofs.YthopiaggnbkjbaaDoor
open Go.RowKit Go.Shelf
attribute [local go_sem] Oper.semAt_some
attribute [local go_sem ↓] w_and w_or w_xor w_andNot w_and1 w_and255 w_xor1 w_or0 w_shl w_shl1 w_shr w_sub w_add w_sub1 w_add1
attribute [local go_sem] w_eq0 w_ne0 w_eq1 w_eq w_ne

/-- All that are over by one more. -/
def orAll (l : List W) (x : W) (js : List Nat) : W := js.foldl (fun a j => wOr a (lw l j)) x
theorem orAll_app (l : List W) (x : W) (js : List Nat) (j : Nat) : orAll l x (js ++ [j]) = wOr (orAll l x js) (lw l j) := by simp [orAll]
def kingAll (l : List W) (i : Nat) : W := orAll l (wOr (lw l i) (wShl w1 i)) (bitsL (lw l i))
def kingsTo (l : List W) : Nat → W
  | 0 => w0
  | k + 1 => if kingAll l k = maskW l.length then wOr (kingsTo l k) (wShl w1 k) else kingsTo l k

set_option maxRecDepth 100000 in
set_option maxHeartbeats 1000000 in
theorem beats_Kings (A : Option Addr) (n c : Nat) (l : List W) (w : World) (hl : l.length = n) (hn : n ≤ maxLen) (hr : Els w w.heap.size 1 wcell A l) (htab : TabOk w) (h0 : 0 < w.heap.size)
    (hbits : ∀ i, i < n → beatsCheck l = 0 → ∀ j ∈ bitsL (lw l i), j < n) :
    Calls Tryd.prog 13 #[.slice A n c] w fun e w' => e = .returned (.tuple #[.int .u32 (wN (if beatsCheck l = 0 then kingsTo l n else w0)), .int .i64 (beatsCheck l)]) ∧ Below w.heap.size w w' := by
  unfold maxLen at hn
  have HL := Lib.hid hl
  have HBI := Lib.hid hbits
  have HCK := Lib.hid (beats_Check A n c l (w.alloc (.cells #[.slice A n c] 22)) hl (by unfold maxLen; omega) (hr.below ((Below.refl w.heap.size w).alloc (Nat.le_refl _) _) |>.more (by rw [size_alloc']; omega)))
  clear hl hbits
  refine (callsIn_wide (n := 9)).1 ?_
  refine callsIn_of_wp_marks Tryd.func13 rfl trivial ?_ rfl
  simp only [Tryd.ntmps13, List.size_toArray, List.length_cons, List.length_nil, Nat.reduceAdd, Nat.reduceSub, Array.replicate_succ, Array.replicate_zero, List.push_toArray, List.append_toArray, List.nil_append, List.cons_append]
  gi_wp2_with fail
  refine wide_call2 (HCK.out.mono ?_)
  clear HCK
  rintro e w' ⟨rfl, m1, rfl⟩
  obtain ⟨S, hS⟩ : ∃ S, S = w.heap.size := ⟨_, rfl⟩
  obtain ⟨W1, hW1⟩ : ∃ W1, W1 = (w.alloc (.cells #[.slice A n c] 22)).drewN m1 := ⟨_, rfl⟩
  have hB1 : Below S w W1 := by rw [hW1, hS]; exact below_drewN ((Below.refl _ w).alloc (Nat.le_refl _) _) _
  have hX1 : Boxed W1 S 22 (.slice A n c) := by rw [hW1, hS]; exact Boxed.new w _ _
  have hT1 : TabOk W1 := htab.below hB1 (by rw [hS]; exact h0)
  rw [← hW1]
  rw [← hS] at hr ⊢
  have hS0 : 0 < S := by rw [hS]; exact h0
  have HSZ := Lib.hid hS
  clear hW1 hS h0 htab
  by_cases hc0 : beatsCheck l = 0
  · have HC := Lib.hid hc0
    rw [hc0]
    have hcell1 := hX1.cell
    have hB1' := Lib.hid hB1
    have hX1' := Lib.hid hX1
    have hT1' := Lib.hid hT1
    clear hB1 hX1 hT1 hc0
    gi_wp2_with fail
    refine wpIn_loop_marks [5, 6, 7, 8, 17, 18, 19, 20, 21, 22, 23, 24, 25, 26, 27, 28, 35, 36, 37, 38, 39, 40, 41, 42, 43, 44, 45]
      (fun g ds wr => ∃ k : Nat, k ≤ n ∧ g 17 = .int .i64 k ∧ g 5 = .int .u32 (wN (kingsTo l k)) ∧ Below S w wr ∧ Boxed wr S 22 (.slice A n c) ∧ TabOk wr ∧ Marks S ds wr)
      (fun g _ => n - (intOf (g 17)).toNat) ?same ⟨0, Nat.zero_le _, ?s17, ?s5, hB1'.out, hX1'.out, hT1'.out, Marks.nil _ _⟩ ?round (fun g g' w h => by simp only [h 17 (by simp)]) (by decide) 47 rfl (by decide)
    case same => simp only [patch, slot, List.foldl_cons, List.foldl_nil, List.set_cons_succ, List.set_cons_zero, List.getD_cons_succ, List.getD_cons_zero]
    case s17 => simp only [slot, List.getD_cons_succ, List.getD_cons_zero]; rfl
    case s5 => simp only [slot, List.getD_cons_succ, List.getD_cons_zero]; rfl
    case round =>
      rintro g ds wr K ⟨k, hk, hg17, hg5, hb, hx, ht, hm⟩ hK
      simp only [patch, List.foldl_cons, List.foldl_nil, List.set_cons_succ, List.set_cons_zero, hg17, hg5]
      have HG := Lib.hid hg17
      have HK := Lib.hid hK
      have HB := Lib.hid hb
      have HX := Lib.hid hx
      have HT := Lib.hid ht
      have HM := Lib.hid hm
      clear hK hb hx ht hm hg17 hg5
      by_cases hlt : k < n
      · have hkl : k < l.length := by rw [HL.out]; exact hlt
        obtain ⟨b, off, rfl, hbb, g0⟩ := (hr.below HB.out).at1 hkl
        obtain ⟨x, hxx⟩ : ∃ x, x = l[k] := ⟨_, rfl⟩
        rw [← hxx] at g0
        have HXX : Hid (lw l k = x) := by rw [lw_at l k hkl, hxx]; exact Lib.hid rfl
        clear hxx
        gi_wp2_with fail
        refine wide_call2 ((graph_Each x _).mono ?_)
        rintro e W3 ⟨rfl, rfl⟩
        gi_wp2_with fail
        obtain ⟨T, hT⟩ : ∃ T, T = wr.heap.size := ⟨_, rfl⟩
        obtain ⟨W2, hW2⟩ : ∃ W2, W2 = ((wr.alloc (.cells #[.int .u32 (wN (wOr x (wShl w1 k)))] 23)).alloc (.cells #[.int .u32 (wN x)] 23)) := ⟨_, rfl⟩
        have hSZ2 : W2.heap.size = T + 2 := by rw [hW2, size_alloc', size_alloc', hT]
        have hb2 : Below S w W2 := by rw [hW2]; exact (HB.out.alloc (Nat.le_of_lt HX.out.lt) _).alloc (by rw [size_alloc']; have := HX.out.lt; omega) _
        have hx2 : Boxed W2 S 22 (.slice (some ⟨b, off, none⟩) n c) := by rw [hW2]; exact (HX.out.alloc _).alloc _
        have hST : S < T := by rw [hT]; exact HX.out.lt
        have ht2 : TabOk W2 := HT.out.below (hW2 ▸ ((Below.refl wr.heap.size wr).alloc (Nat.le_refl _) _).alloc (by simp) _) (by omega)
        have hm2 : Marks S ds W2 := by rw [hW2]; exact (HM.out.alloc _).alloc _
        have ha2 : Boxed W2 T 23 (.int .u32 (wN (wOr x (wShl w1 k)))) := by rw [hW2, hT]; exact (Boxed.new wr _ _).alloc _
        have hi2 : Boxed W2 (T + 1) 23 (.int .u32 (wN x)) := by
          have := Boxed.new (wr.alloc (.cells #[.int .u32 (wN (wOr x (wShl w1 k)))] 23)) 23 (.int .u32 (wN x))
          rw [size_alloc', ← hT, ← hW2] at this
          exact this
        rw [← hW2, ← hT]
        have HB2 := Lib.hid hb2
        have HX2 := Lib.hid hx2
        have HM2 := Lib.hid hm2
        have HA2 := Lib.hid ha2
        have HI2 := Lib.hid hi2
        have HR := Lib.hid hr
        clear hW2 hT hb2 hx2 hm2 ha2 g0 HB HX HT HM hr
        refine wpIn_bits (p := 28) (q := 9) 9 63 (T + 1) 23 (.int .u32 (wN x)) (bitsL x) [T, T + 1] rfl (enters_of Tryd.func63 (by kernel_rfl) rfl)
          (Each1_seq _ _ _ (by omega)) hi2 ht2 (by simp) (fun pre W => Boxed W T 23 (.int .u32 (wN (orAll l (wOr x (wShl w1 k)) pre)))) (fun _ _ _ => False)
          (boxed_own _ _ _) (fun _ _ _ _ _ h _ _ => h) (fun s A v h => h.other (by omega) v) HA2.out ?assign ?body ?done (fun _ _ _ _ _ _ _ h _ => h.elim)
        case assign =>
          intro l' j W K hK
          simp only [List.setIfInBounds_toArray, List.set_cons_succ, List.set_cons_zero] at hK ⊢
          gi_wp2_with fail
          exact hK
        case body =>
          intro l' pre j W hh hi hpre
          have hjn : j < n := HBI.out k hlt HC.out j (by rw [HXX.out]; obtain ⟨z, hz⟩ := hpre; rw [← hz]; simp)
          have hjl : j < l.length := by rw [HL.out]; exact hjn
          have HH := Lib.hid hh
          have hbW := HB2.out.trans (hh.to (B := S) (by omega) (by simp; omega))
          have hxW := hh.boxed HX2.out (by simp; omega)
          obtain ⟨b', off', he, _, g1⟩ := (HR.out.below hbW).at1 hjl
          obtain ⟨rfl, rfl⟩ : b = b' ∧ off = off' := by simpa using he
          rw [← lw_at l j hjl] at g1
          have c1 := hxW.cell
          have c2 := hi.cell
          have c3 := hi.frozen
          have HI := Lib.hid hi
          simp only [List.setIfInBounds_toArray, List.set_cons_succ, List.set_cons_zero]
          clear hh hbW hxW he hi
          gi_wp2_with fail
          gi_region
          all_goals
            refine ⟨KeepsFrom.drew (KeepsFrom.box HI.out _), (KpE.setCell W ⟨T, 0, none⟩ _ (by show T + 1 ≠ T; omega) (by show 0 ≠ T; omega)).drew, (HH.out.setCell (p := ⟨T, 0, none⟩) (by simp) _).drew1, ?_⟩
            rw [orAll_app]
            exact Boxed.drew (HI.out.set _)
        case done =>
          intro D W hD hh hi hdef
          have HH := Lib.hid hh
          have hbW := Lib.hid (HB2.out.trans (hh.to (B := S) (by omega) (by simp; omega)))
          have hxW := hh.boxed HX2.out (by simp; omega)
          have c1 := hxW.cell
          have c2 := hi.cell
          have HX3 := Lib.hid hxW
          have HI := Lib.hid hi
          have HKA : Hid (kingAll l k = orAll l (wOr x (wShl w1 k)) (bitsL x)) := by unfold kingAll; rw [HXX.out]; exact Lib.hid rfl
          have HD := Lib.hid hdef
          have hmk : Marks S ({ target := .collected D, args := #[] } :: ds) W := HH.out.mark HM2.out (by simp; exact ⟨⟨_, _, HA2.out⟩, ⟨_, _, HI2.out⟩⟩) (by omega) hD hdef
          have HMK := Lib.hid hmk
          have htW := Lib.hid (ht2.block HH.out.size (HH.out.block 0 (by omega) (by simp; omega)))
          clear hh hxW hi hdef hmk ht2 hi2
          by_cases hall : orAll l (wOr x (wShl w1 k)) (bitsL x) = wSub (wShl w1 n) w1
          · have ht : (orAll l (wOr x (wShl w1 k)) (bitsL x) == wSub (wShl w1 n) w1) = true := by simpa using hall
            have HKT : Hid (kingsTo l (k + 1) = wOr (kingsTo l k) (wShl w1 k)) := by
              show (if kingAll l k = maskW l.length then _ else _) = _
              rw [HKA.out, HL.out, if_pos (show _ = maskW n from hall)]
            clear hall
            gi_wp2_with fail
            gi_quiet (fail)
            gi_wp2_with fail
            refine HK.out _ _ _ ?_ ⟨k + 1, by omega, ?_, ?_, below_drewN hbW.out _, HX3.out, htW.out.block (Nat.le_refl _) rfl, HMK.out⟩ ?_
            · simp only [patch, slot, List.foldl_cons, List.foldl_nil, List.set_cons_succ, List.set_cons_zero, List.getD_cons_succ, List.getD_cons_zero]
            · simp only [slot, List.getD_cons_succ, List.getD_cons_zero]; go_num
            · simp only [slot, List.getD_cons_succ, List.getD_cons_zero]; rw [HKT.out]
            · simp only [slot, List.getD_cons_succ, List.getD_cons_zero]; rw [HG.out]; simp [intOf]; omega
          · have ht : (orAll l (wOr x (wShl w1 k)) (bitsL x) == wSub (wShl w1 n) w1) = false := by simpa using hall
            have HKT : Hid (kingsTo l (k + 1) = kingsTo l k) := by
              show (if kingAll l k = maskW l.length then _ else _) = _
              rw [HKA.out, HL.out, if_neg (show ¬ _ = maskW n from hall)]
            clear hall
            gi_wp2_with fail
            gi_quiet (fail)
            gi_wp2_with fail
            refine HK.out _ _ _ ?_ ⟨k + 1, by omega, ?_, ?_, below_drewN hbW.out _, HX3.out, htW.out.block (Nat.le_refl _) rfl, HMK.out⟩ ?_
            · simp only [patch, slot, List.foldl_cons, List.foldl_nil, List.set_cons_succ, List.set_cons_zero, List.getD_cons_succ, List.getD_cons_zero]
            · simp only [slot, List.getD_cons_succ, List.getD_cons_zero]; go_num
            · simp only [slot, List.getD_cons_succ, List.getD_cons_zero]; rw [HKT.out]
            · simp only [slot, List.getD_cons_succ, List.getD_cons_zero]; rw [HG.out]; simp [intOf]; omega
      · obtain rfl : k = n := by omega
        gi_wp2_with fail
        refine bodyPostM_ret HM.out fun w' hw' => ⟨.tuple #[.int .u32 (wN (kingsTo l k)), .int .i64 0], by simp [results, Tryd.results13, go_sem], ?_⟩
        rw [← HSZ.out]
        exact ⟨rfl, HB.out.trans hw'.1⟩
  · have hcf : (beatsCheck l != 0) = true := by simpa using hc0
    have HC := Lib.hid hc0
    have hB1' := Lib.hid hB1
    clear hc0 hB1 hX1 hT1
    gi_wp2_with fail
    refine bodyPostM_ret (B := S) (Marks.nil _ _) fun w' hw' => ⟨.tuple #[.int .u32 0, .int .i64 (beatsCheck l)], by simp [results, Tryd.results13, go_sem], ?_⟩
    rw [← HSZ.out]
    exact ⟨by first | rfl | (rw [if_neg HC.out]; rfl), hB1'.out.trans hw'.1⟩
end Go.Proofs.YthopiaggnbkjbaaDoor
