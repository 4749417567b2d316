/- The tree of a code: slices.Index at ints, the program's walk. Conditions: the code reads as a list. -/
import Derived.Test.YtaldkafibemhnaaDecodeP
import Derived.Test.YtaldkafibemhnaaOpen
import Derived.Laws.EntriesVeiled
namespace Go.Proofs.Ytaldkafibemhnaa
open Go.RowKit

set_option maxRecDepth 100000 in
theorem Index_ints (x : Int) (A : Option Addr) (n c : Nat) (l : List Int) (B : Nat) (w : World) (hl : l.length = n) (hn : n ≤ maxLen) (hr : Els w B 1 icell A l) :
    Calls Try.prog 52 #[.slice A n c, .int .i64 x] w fun e w' => e = .returned (.int .i64 (idxF (fun y => x == y) l)) ∧ w = w' := by
  unfold maxLen at hn
  have HL := Lib.hid hl
  clear hl
  go_enter Try.func52, Try.ntmps52
  go_wp2_with fail
  go_loop [8] (fun i => ∃ k : Nat, k ≤ n ∧ i = .int .i64 k ∧ (l.take k).any (fun y => x == y) = false) (fun i => n - (intOf i).toNat)
  case atStart => exact ⟨0, by omega, rfl, rfl⟩
  case round =>
    obtain ⟨k, hk, rfl, hno⟩ := hrel
    have HK := Lib.hid hno
    clear hno
    by_cases hlt : k < n
    · have hkl : k < l.length := by rw [HL.out]; exact hlt
      obtain ⟨b, off, rfl, hbb, g0⟩ := hr.at1 hkl
      obtain ⟨y, hy⟩ : ∃ y, y = l[k] := ⟨_, rfl⟩
      rw [← hy] at g0
      have HY := Lib.hid hy
      clear hy
      rcases hxy : (x == y) with _ | _
      · go_wp2_with fail
        go_round
        case rel => exact ⟨k + 1, by omega, by go_num, by rw [any_take_succ _ _ _ hkl, HK.out, ← HY.out, hxy]; rfl⟩
        case measure => simp [intOf]; omega
      · go_wp2_with fail
        go_ret
        exact ⟨ret_i64 (idxF_at hkl HK.out (by rw [← HY.out]; exact hxy)).symm, rfl⟩
    · go_wp2_with fail
      go_ret
      exact ⟨ret_i64 (idxF_none (any_take_all (by rw [HL.out]; omega) HK.out)).symm, rfl⟩

def DecIs (code : List Int) (n : Nat) (w w' : World) (e : Ending) : Prop :=
  ∃ (N : Int) (A' : Option Addr) (k cap : Nat), e = .returned (.tuple #[.agg #[.int .i64 N, .slice A' k cap], .int .i64 (codeCheck code)]) ∧ Below w.heap.size w w' ∧
    (codeCheck code ≠ 0 → N = 0 ∧ k = 0) ∧ (codeCheck code = 0 → N = n + 2 ∧ k = n + 1 ∧ Els w' w'.heap.size 3 Ed.cells A' (decAll code))
set_option maxRecDepth 100000 in
set_option maxHeartbeats 1000000 in
theorem span_Decode (code : List Int) (A : Option Addr) (n c : Nat) (w : World) (hl : code.length = n) (hn : n ≤ maxLen) (hr : Els w w.heap.size 1 icell A code) :
    Calls Try.prog 25 #[.slice A n c] w fun e w' => DecIs code n w w' e := by
  have HN : Hid (codeCheck code = if 8 < n then 1 else if code.any (codeBad (n + 2)) then 2 else 0) := by subst hl; rfl
  have HL := Lib.hid hl
  have HR := Lib.hid hr
  unfold maxLen at hn
  clear hl hr
  have hB0 := Blk.new w 30 #[.int .i64 0, .slice none 0 0]
  have HB0 := Lib.hid hB0
  have c0 := hB0.cell 0
  have c1 := hB0.cell 1
  clear hB0
  by_cases h8 : 8 < n
  · have HM := Lib.hid (HN.out.trans (if_pos h8))
    go_enter Try.func25, Try.ntmps25
    go_wp2_with fail
    refine bodyPost_ret (v := .tuple #[.agg #[.int .i64 0, .slice none 0 0], .int .i64 1]) (by simp [results, Try.results25, go_sem, c0, c1]) rfl ?_
    exact ⟨0, none, 0, 0, by rw [HM.out], (Below.refl _ _).alloc (Nat.le_refl _) _, fun _ => ⟨rfl, rfl⟩, fun h => by rw [HM.out] at h; omega⟩
  · have HM := Lib.hid (HN.out.trans (if_neg h8))
    clear HN
    go_enter Try.func25, Try.ntmps25
    go_wp2_with (at_make; go_loud (refine wpList_make1 rfl _ _ _ rfl (w.heap.size + 1) 3 8 (fun x => .int .i64 x) 0 Try.underlying44 (by kernel_rfl) rfl _ .i64 .i64 (n + 2) (by go_num) (by go_num) (by omega) (by unfold maxLen; omega) (by rw [size_alloc']; exact Nat.le_refl _) ?_; intro v1 hown1 hgrow1))
    rw [size_alloc'] at hown1
    have HO1 := Lib.hid hown1
    have HG1 := Lib.hid (HB0.out.grown hgrow1 (by simp))
    have HB1 := Lib.hid (((Below.refl w.heap.size w).alloc (Nat.le_refl _) (.cells #[.int .i64 0, .slice none 0 0] 30)).grown hgrow1 (by rw [size_alloc']; omega) (fun g hg => by cases hg))
    clear hown1 hgrow1 c0 c1
    go_loopw [25] (fun i wr => ∃ k : Nat, k ≤ n ∧ i = .int .i64 k ∧ Below w.heap.size w wr ∧ Blk wr w.heap.size 30 #[.int .i64 0, .slice none 0 0] ∧
      Own wr (w.heap.size + 1) 3 1 icell (some ⟨w.heap.size + 1, 0, none⟩) (n + 2) ((List.range (n + 2)).map fun x : Nat => ((code.take k).count (x : Int) : Int)) ∧ (code.take k).any (codeBad (n + 2)) = false) (fun i _ => n - (intOf i).toNat)
    case atStart => 
      refine ⟨0, by omega, rfl, HB1.out, HG1.out, ?_, rfl⟩
      have := HO1.out
      rw [show List.replicate (n + 2) (0 : Int) = (List.range (n + 2)).map fun x : Nat => (([] : List Int).count (x : Int) : Int) by
        apply List.ext_getElem (by simp)
        intro i h1 h2
        simp] at this
      exact this
    case round =>
      clear HO1 HG1 HB1
      rename World => wr
      obtain ⟨k, hk, rfl, hb, hblk, hown, hno⟩ := hrel
      have hsz := hb.size
      have hlt2 := (hown.lt (w.heap.size + 1) rfl).2
      have HB := Lib.hid hb
      have HG := Lib.hid hblk
      have HO := Lib.hid hown
      have HNO := Lib.hid hno
      have b0 := hblk.cell 0
      have b1 := hblk.cell 1
      have b2 := hblk.frozen 0
      have b3 := hblk.frozen 1
      have hblk2 : Blk ((wr.setCell ⟨w.heap.size, 0, none⟩ (.int .i64 0)).setCell ⟨w.heap.size, 1, none⟩ (.slice none 0 0)) w.heap.size 30 #[.int .i64 0, .slice none 0 0] := (hblk.put 0 (.int .i64 0)).put 1 (.slice none 0 0)
      have b4 := hblk2.cell 0
      have b5 := hblk2.cell 1
      clear hblk2
      clear hb hblk hown hno
      by_cases hlt : k < n
      · have hkl : k < code.length := by rw [HL.out]; exact hlt
        obtain ⟨b, off, rfl, _, g0⟩ := (HR.out.below HB.out).at1 hkl
        have HAS := Lib.hid (any_take_succ (codeBad (n + 2)) code k hkl)
        have HCS := Lib.hid (comes_start code k hkl)
        obtain ⟨x, hx⟩ : ∃ x, x = code[k] := ⟨_, rfl⟩
        rw [← hx] at g0
        have HX := Lib.hid hx
        have hbadc : codeBad (n + 2) x = true → codeCheck code = 2 := fun h => by
          rw [HM.out, if_pos (any_of_get hkl (by rw [← hx]; exact h))]
        have HBC := Lib.hid hbadc
        clear hx hbadc
        by_cases q1 : x < 0
        · have HC := Lib.hid (HBC.out (by unfold codeBad; simp [q1]))
          go_wp2_with fail
          refine bodyPost_ret (v := .tuple #[.agg #[.int .i64 0, .slice none 0 0], .int .i64 2]) ?_ rfl ?_
          · simp [results, Try.results25, go_sem, b0, b1, b4, b5]
          refine ⟨0, none, 0, 0, by rw [HC.out], ?_, fun _ => ⟨rfl, rfl⟩, fun h => by rw [HC.out] at h; omega⟩
          exact (HB.out.setCell (Nat.le_refl _) _).setCell (Nat.le_refl _) _
        by_cases q2 : (n : Int) + 2 ≤ x
        · have HC := Lib.hid (HBC.out (by unfold codeBad; simp [q2]))
          go_wp2_with fail
          refine bodyPost_ret (v := .tuple #[.agg #[.int .i64 0, .slice none 0 0], .int .i64 2]) ?_ rfl ?_
          · simp [results, Try.results25, go_sem, b0, b1, b4, b5]
          refine ⟨0, none, 0, 0, by rw [HC.out], ?_, fun _ => ⟨rfl, rfl⟩, fun h => by rw [HC.out] at h; omega⟩
          exact (HB.out.setCell (Nat.le_refl _) _).setCell (Nat.le_refl _) _
        have HC : Hid (codeBad (n + 2) x = false) := by show codeBad (n + 2) x = false; unfold codeBad; simp; omega
        obtain ⟨j, rfl⟩ := Int.eq_ofNat_of_zero_le (show 0 ≤ x by omega)
        have hjn : j < n + 2 := by omega
        obtain ⟨q, hq, _, _, ca, fa⟩ := HO.out.cell1 (f := fun x => .int .i64 x) (k := j) (by simpa using hjn)
        obtain rfl : w.heap.size + 1 = q := by simpa using hq
        simp only [List.getElem_map, List.getElem_range] at ca
        have hcnt := List.count_le_length (a := (j : Int)) (l := code.take k)
        rw [List.length_take] at hcnt
        have hO2 := HO.out.put1 (f := fun x => .int .i64 x) (k := j) (x := ((code.take k).count (j : Int) : Int) + 1) (by simpa using hjn)
        rw [HCS.out j HX.out.symm] at hO2
        have HO2 := Lib.hid hO2
        generalize (code.take k).count (j : Int) = cn at ca hcnt HO2
        clear hq hO2
        go_wp2_with fail
        go_roundw
        case rel => exact ⟨k + 1, by omega, by go_num, HB.out.setCell (show w.heap.size ≤ w.heap.size + 1 by omega) _, HG.out.far (show w.heap.size ≠ w.heap.size + 1 by omega) _, HO2.out, by rw [HAS.out, HNO.out, ← HX.out, HC.out]; rfl⟩
        case measure => simp [intOf]; omega
      · obtain rfl : k = n := by omega
        have hall : code.take k = code := List.take_of_length_le (by rw [HL.out]; omega)
        have hgood : code.any (codeBad (k + 2)) = false := by
          have := HNO.out
          rwa [hall] at this
        have HM0 : Hid (codeCheck code = 0) := by
          show codeCheck code = 0
          rw [HM.out, hgood]
          rfl
        have HIN : Hid (∀ q, ∀ hq : q < code.length, 0 ≤ code[q] ∧ code[q] < (k : Int) + 2) := by
          show ∀ q, ∀ hq : q < code.length, 0 ≤ code[q] ∧ code[q] < (k : Int) + 2
          intro q hq
          have := List.any_eq_false.1 hgood code[q] (List.getElem_mem hq)
          unfold codeBad at this
          simp at this
          omega
        have HO0 : Hid (Own wr (w.heap.size + 1) 3 1 icell (some ⟨w.heap.size + 1, 0, none⟩) (k + 2) (comesL code 0)) := by
          show Own wr (w.heap.size + 1) 3 1 icell (some ⟨w.heap.size + 1, 0, none⟩) (k + 2) (comesL code 0)
          have h1 := HO.out
          rw [hall] at h1
          have h2 := comes_zero_start code
          rw [HL.out] at h2
          rw [List.take_of_length_le (by rw [HL.out]; omega)] at h2
          rwa [h2] at h1
        clear hall hgood HO HNO b0 b1 b2 b3 b4 b5
        have hg0 := Blk.new wr 30 #[.int .i64 ((k : Int) + 2), .slice none 0 0]
        have HGB := Lib.hid hg0
        have HB1 := Lib.hid (HB.out.alloc hsz (.cells #[.int .i64 ((k : Int) + 2), .slice none 0 0] 30))
        have HG1 := Lib.hid (HG.out.alloc (.cells #[.int .i64 ((k : Int) + 2), .slice none 0 0] 30))
        have HO1 := Lib.hid (HO0.out.alloc (.cells #[.int .i64 ((k : Int) + 2), .slice none 0 0] 30))
        clear hg0
        go_wp2_with fail
        obtain ⟨G, hG⟩ : ∃ G, G = wr.heap.size := ⟨_, rfl⟩
        rw [← hG] at hlt2 HGB
        rw [← hG]
        have hGS : w.heap.size + 1 < G := hlt2
        clear hG
        go_loopw [48] (fun i wr => ∃ (q : Nat) (A1 : Option Addr) (cap : Nat), q ≤ k ∧ i = .int .i64 q ∧ Below w.heap.size w wr ∧ Blk wr w.heap.size 30 #[.int .i64 0, .slice none 0 0] ∧
          Own wr (w.heap.size + 1) 3 1 icell (some ⟨w.heap.size + 1, 0, none⟩) (k + 2) (comesL code q) ∧ Blk wr G 30 #[.int .i64 ((k : Int) + 2), .slice A1 q cap] ∧ Own wr (G + 1) 85 3 Ed.cells A1 cap (decE code q)) (fun i _ => k - (intOf i).toNat)
        case atStart => exact ⟨0, none, 0, by omega, rfl, HB1.out, HG1.out, HO1.out, HGB.out, Own.nil _ _ _ (fun _ => rfl)⟩
        case round =>
          clear HB1 HG1 HO1 HGB HO0 HB HG hsz hlt2
          rename World => wq
          obtain ⟨q, A1, cap, hq, rfl, hb, hblk, hown, hgb, hed⟩ := hrel
          have hsz := hb.size
          have hltG := hgb.lt
          have HB := Lib.hid hb
          have HG := Lib.hid hblk
          have HO := Lib.hid hown
          have HGB := Lib.hid hgb
          have HED := Lib.hid hed
          have hcl : (comesL code q).length = k + 2 := by rw [comesL_length, HL.out]
          have HI := Lib.hid (Index_ints 0 (some ⟨w.heap.size + 1, 0, none⟩) (k + 2) (k + 2) (comesL code q) wq.heap.size wq hcl (by unfold maxLen; omega) hown.els)
          have HCL := Lib.hid hcl
          have hrow : ∀ g, blkOf A1 = some g → G + 1 ≤ g := fun g hg => (HED.out.lt g hg).1
          have HROW := Lib.hid hrow
          clear hb hblk hown hgb hed hcl hrow
          by_cases hlt : q < k
          · have hkl : q < code.length := by rw [HL.out]; exact hlt
            have hin := HIN.out q hkl
            obtain ⟨b, off, rfl, _, g0⟩ := (HR.out.below HB.out).at1 hkl
            obtain ⟨x, hx⟩ : ∃ x, x = code[q] := ⟨_, rfl⟩
            rw [← hx] at g0 hin
            obtain ⟨j, rfl⟩ := Int.eq_ofNat_of_zero_le hin.1
            have hjn : j < k + 2 := by omega
            obtain ⟨hst, hne, hpos⟩ := comes_step code hkl hx.symm (by rw [HL.out]; exact hjn)
            have hpk := (pk_spec code (k := q) (by rw [HL.out]; omega)).1
            have hidx := comes_idx code (k := q) (by rw [HL.out]; omega)
            rw [HL.out] at hpk
            have hds := decE_succ code q
            rw [getD_at code q hkl 0, ← hx] at hds
            have hle := comesAt_le code q j
            rw [HL.out] at hle
            obtain ⟨p, hp⟩ : ∃ p, p = pk code q := ⟨_, rfl⟩
            rw [← hp] at hst hne hpk hidx hds
            obtain ⟨g1, hg1, _, _, cp, fp⟩ := HO.out.cell1 (f := fun x => .int .i64 x) (k := p) (by rw [HCL.out]; exact hpk)
            obtain rfl : w.heap.size + 1 = g1 := by simpa using hg1
            generalize (comesL code q)[p]'(by rw [HCL.out]; exact hpk) = z0 at cp
            have hO2 := HO.out.put1 (f := fun x => .int .i64 x) (k := p) (x := -1) (by rw [HCL.out]; exact hpk)
            obtain ⟨g2, hg2, _, _, cj, fj⟩ := hO2.cell1 (f := fun x => .int .i64 x) (k := j) (by rw [List.length_set, HCL.out]; exact hjn)
            obtain rfl : w.heap.size + 1 = g2 := by simpa using hg2
            rw [List.getElem_set_ne hne, comesL_at] at cj
            obtain ⟨y, hy⟩ : ∃ y, y = comesAt code q j := ⟨_, rfl⟩
            rw [← hy] at hst hpos hle cj
            have hO3 := hO2.put1 (f := fun x => .int .i64 x) (k := j) (x := y - 1) (by rw [List.length_set, HCL.out]; exact hjn)
            rw [hst] at hO3
            have HO3 := Lib.hid hO3
            have hne2 : G ≠ w.heap.size + 1 := by omega
            have hne3 : blkOf A1 ≠ some (w.heap.size + 1) := fun h => by have := HROW.out _ h; omega
            have hne4 : blkOf A1 ≠ some G := fun h => by have := HROW.out _ h; omega
            have HG3 := Lib.hid ((HGB.out.far (p := ⟨w.heap.size + 1, p, none⟩) hne2 (.int .i64 (-1))).far (p := ⟨w.heap.size + 1, j, none⟩) hne2 (.int .i64 (y - 1)))
            have HED3 := Lib.hid ((HED.out.far (p := ⟨w.heap.size + 1, p, none⟩) hne3 (.int .i64 (-1))).far (p := ⟨w.heap.size + 1, j, none⟩) hne3 (.int .i64 (y - 1)))
            have k1 := HG3.out.cell 1
            have HN4 := Lib.hid hne4
            have HN3 := Lib.hid hne3
            have HDS := Lib.hid hds
            clear hg1 hg2 hO2 hO3 hst hne hx hp hy hds hne2 hne3 hne4
            go_wp2_with fail
            refine HI.out.mono ?_
            clear HI
            rintro e w' ⟨rfl, rfl⟩
            rw [hidx]
            clear hidx
            go_wp2_with (at_builtin; go_must (refine wpList_push rfl _ _ _ rfl (G + 1) 3 85 (.agg #[.int .i64 0, .int .i64 0, .int .i64 0]) 24 Try.underlying28 (by kernel_rfl) rfl (by omega) Ed.cells _ #[.int .i64 p, .int .i64 j, .int .i64 0] A1 q cap (decE code q) (decE_length code q) rfl HED3.out 1 [⟨(p : Int), (j : Int), 0⟩] rfl rfl wq.heap.size rfl (by simp) (by simp [Value.oneCell']) (by unfold maxLen; omega) (by omega) hltG ?_; intro A2 cap2 w4 hown2 hgrow hloc; have hG4 := (HG3.out.alloc (.cells #[.int .i64 p, .int .i64 j, .int .i64 0] 85)).grown hgrow (fun h => HN4.out h.symm); have k2 := hG4.cell 1; have k3 := hG4.frozen 1))
            go_roundw
            case rel =>
              have hz4 : w.heap.size ≤ ((wq.setCell ⟨w.heap.size + 1, p, none⟩ (.int .i64 (-1))).setCell ⟨w.heap.size + 1, j, none⟩ (.int .i64 (y - 1))).heap.size := by simp; omega
              refine ⟨q + 1, A2, cap2, by omega, by go_num, ?_, ?_, ?_, hG4.put 1 _, ?_⟩
              · exact ((((HB.out.setCell (show w.heap.size ≤ w.heap.size + 1 by omega) _).setCell (show w.heap.size ≤ w.heap.size + 1 by omega) _).alloc hz4 _).grown hgrow (by rw [size_alloc']; omega) (fun g hg => by have := HROW.out g hg; omega)).setCell (show w.heap.size ≤ G by omega) _
              · exact ((((HG.out.far (show w.heap.size ≠ w.heap.size + 1 by omega) _).far (show w.heap.size ≠ w.heap.size + 1 by omega) _).alloc _).grown hgrow (fun h => by have := HROW.out _ h.symm; omega)).far (show w.heap.size ≠ G by omega) _
              · exact ((HO3.out.alloc _).kept hgrow (.inr fun h => HN3.out h.symm)).far (fun h => by simp [blkOf] at h; omega) _
              · rw [HDS.out]
                refine hown2.far (fun h => ?_) _
                rcases hloc with h2 | h2
                · rw [h2] at h; exact HN4.out h
                · rw [h2] at h
                  simp at h
                  omega
            case measure => simp [intOf]; omega
          · obtain rfl : q = k := by omega
            have e1 : pk code q = pa code := by unfold pa; rw [HL.out]
            have hidx := comes_idx code (k := q) (by rw [HL.out]; omega)
            obtain ⟨a1, a2, a3⟩ := pa_spec code
            obtain ⟨b1, b2, b3, b4⟩ := pb_spec code
            have hidx2 := comes_idx2 code
            obtain ⟨a, ha⟩ : ∃ a, a = pa code := ⟨_, rfl⟩
            obtain ⟨d, hd⟩ : ∃ d : Nat, pb code = pa code + 1 + d := ⟨pb code - (pa code + 1), by omega⟩
            have hall : decAll code = decE code q ++ [⟨(a : Int), (a : Int) + 1 + d, 0⟩] := by
              unfold decAll
              rw [HL.out, hd, ← ha]
              rfl
            have HALL := Lib.hid hall
            rw [hd, ← ha, HL.out, show ((a + 1 + d : Nat) : Int) - ((a : Int) + 1) = d by omega] at hidx2
            rw [e1, ← ha] at hidx
            rw [hd, HL.out] at b1
            rw [← ha] at b1
            have HIDX2 := Lib.hid hidx2
            clear e1 hall a1 a2 a3 b2 b3 b4 ha hd hidx2
            go_wp2_with fail
            refine HI.out.mono ?_
            clear HI
            rintro e w' ⟨rfl, rfl⟩
            rw [hidx]
            clear hidx
            have hE := HO.out.els.cut (k := a + 1) (n := q + 2) (cap := q + 2) HCL.out (Nat.le_refl _)
            rw [if_neg (by omega)] at hE
            have hE2 : Els wq wq.heap.size 1 icell (some ⟨w.heap.size + 1, a + 1, none⟩) ((comesL code q).drop (a + 1)) := by
              have e : (some (⟨w.heap.size + 1, 0, none⟩ : Addr)).map (·.add ((a + 1) * 1)) = some ⟨w.heap.size + 1, a + 1, none⟩ := by
                show some (Addr.add _ _) = _
                rw [addr_add]
                simp
              rwa [e] at hE
            have HI2 := Lib.hid (Index_ints 0 (some ⟨w.heap.size + 1, a + 1, none⟩) (q + 1 - a) (q + 1 - a) ((comesL code q).drop (a + 1)) wq.heap.size wq (by rw [List.length_drop, HCL.out]; omega) (by unfold maxLen; omega) hE2)
            clear hE hE2
            go_wp2_with fail
            refine HI2.out.mono ?_
            clear HI2
            rintro e w' ⟨rfl, rfl⟩
            rw [HIDX2.out]
            have k1 := HGB.out.cell 1
            have hne4 : blkOf A1 ≠ some G := fun h => by have := HROW.out _ h; omega
            have HN4 := Lib.hid hne4
            clear hne4
            go_wp2_with (at_builtin; go_must (
              refine wpList_push rfl _ _ _ rfl (G + 1) 3 85 (.agg #[.int .i64 0, .int .i64 0, .int .i64 0]) 24 Try.underlying28 (by kernel_rfl) rfl (by omega) Ed.cells wq #[.int .i64 a, .int .i64 ((a : Int) + 1 + d), .int .i64 0] A1 q cap (decE code q) (decE_length code q) rfl HED.out 1 [⟨(a : Int), (a : Int) + 1 + d, 0⟩] rfl rfl wq.heap.size rfl rfl (by simp [Value.oneCell']) (by unfold maxLen; omega) (by omega) hltG ?_
              intro A2 cap2 w4 hown2 hgrow hloc
              have hG4 := (HGB.out.alloc (.cells #[.int .i64 a, .int .i64 ((a : Int) + 1 + d), .int .i64 0] 85)).grown hgrow (fun h => HN4.out h.symm)
              have k2 := hG4.cell 1
              have k3 := hG4.frozen 1
              have hG5 : Blk (w4.setCell ⟨G, 1, none⟩ (.slice A2 (q + 1) cap2)) G 30 #[.int .i64 ((q : Int) + 2), .slice A2 (q + 1) cap2] := hG4.put 1 _
              have k4 := hG5.cell 0
              have k5 := hG5.cell 1
              have hS5 := ((HG.out.alloc (.cells #[.int .i64 a, .int .i64 ((a : Int) + 1 + d), .int .i64 0] 85)).grown hgrow (fun h => by have := HROW.out _ h.symm; omega)).far (p := ⟨G, 1, none⟩) (show w.heap.size ≠ G by omega) (.slice A2 (q + 1) cap2)
              have m0 := hS5.cell 0
              have m1 := hS5.cell 1
              have m2 := hS5.frozen 0
              have m3 := hS5.frozen 1
              have hS6 : Blk (((w4.setCell ⟨G, 1, none⟩ (.slice A2 (q + 1) cap2)).setCell ⟨w.heap.size, 0, none⟩ (.int .i64 ((q : Int) + 2))).setCell ⟨w.heap.size, 1, none⟩ (.slice A2 (q + 1) cap2)) w.heap.size 30 #[.int .i64 ((q : Int) + 2), .slice A2 (q + 1) cap2] := (hS5.put 0 _).put 1 _
              have m4 := hS6.cell 0
              have m5 := hS6.cell 1
              have HG5 := Lib.hid hG5
              have HS6 := Lib.hid hS6
              clear hG5 hS5 hS6))
            refine bodyPost_ret (v := .tuple #[.agg #[.int .i64 ((q : Int) + 2), .slice A2 (q + 1) cap2], .int .i64 0]) ?_ rfl ?_
            · simp [results, Try.results25, go_sem, m4, m5]
            refine ⟨(q : Int) + 2, A2, q + 1, cap2, by rw [HM0.out], ?_, fun h => absurd HM0.out h, fun _ => ⟨rfl, rfl, ?_⟩⟩
            · exact (((((HB.out.alloc hsz _).grown hgrow (by rw [size_alloc']; omega) (fun g hg => by have := HROW.out g hg; omega)).setCell (show w.heap.size ≤ G by omega) _)).setCell (Nat.le_refl _) _).setCell (Nat.le_refl _) _
            · rw [HALL.out]
              have hn1 : blkOf A2 ≠ some G := by
                rcases hloc with h2 | h2
                · rw [h2]; exact HN4.out
                · rw [h2]; intro h; simp at h; omega
              have hn2 : blkOf A2 ≠ some w.heap.size := by
                rcases hloc with h2 | h2
                · rw [h2]; exact fun h => by have := HROW.out _ h; omega
                · rw [h2]; intro h; simp at h; omega
              exact (((hown2.far hn1 _).far hn2 _).far hn2 _).els
end Go.Proofs.Ytaldkafibemhnaa
