/- The tree of a code: the reference's walk. Conditions: the code may be, and reads as a list. -/
import Derived.Test.YtaldkafibemhnaaDecodeA
import Derived.Deep.RegionLaw
namespace Go.Proofs.Ytaldkafibemhnaa
open Go.RowKit

theorem Own.differ {α β : Type} {w : World} {B B' c c' cap cap' : Nat} {e e' : TypeId} {f : α → List Value} {f' : β → List Value} {A A' : Option Addr} {l : List α} {l' : List β} (h : Own w B e c f A cap l) (h' : Own w B' e' c' f' A' cap' l') (hne : e ≠ e') : blkOf A = none ∨ blkOf A ≠ blkOf A' := by
  rcases h.2.2 with ⟨hv, _⟩ | ⟨g, cp, cur, hv, _, hh, _⟩
  · injection hv with hv
    left; rw [hv]; rfl
  · right
    injection hv with hv
    subst hv
    intro he
    rcases h'.2.2 with ⟨hv', _⟩ | ⟨g', cp', cur', hv', _, hh', _⟩
    · injection hv' with hv'
      rw [hv'] at he; cases he
    · injection hv' with hv'
      subst hv'
      have hg : g = g' := by simpa [blkOf] using he
      subst hg
      rw [hh] at hh'
      injection hh' with hh'
      injection hh' with _ h2
      exact hne h2

theorem fresh_cases {gone rest : List Int} {i : Nat} (h : fresh gone rest i = false) : hasB gone i = true ∨ (hasB gone i = false ∧ hasB rest i = true) := by
  unfold fresh at h
  rcases h1 : hasB gone i with _ | _
  · rcases h2 : hasB rest i with _ | _
    · rw [h1, h2] at h; simp at h
    · exact .inr ⟨rfl, rfl⟩
  · exact .inl rfl
theorem fresh_both {gone rest : List Int} {i : Nat} (h : fresh gone rest i = true) : hasB gone i = false ∧ hasB rest i = false := by
  unfold fresh at h
  rw [Bool.and_eq_true] at h
  simpa using h

set_option maxRecDepth 100000 in
set_option maxHeartbeats 1000000 in
theorem ref_Decode (code : List Int) (A : Option Addr) (n c : Nat) (w : World) (hl : code.length = n) (h8 : n ≤ 8) (hc : n ≤ c) (hin : ∀ q, ∀ hq : q < code.length, 0 ≤ code[q] ∧ code[q] < (n : Int) + 2) (hr : Els w w.heap.size 1 icell A code) :
    Calls Try.prog 26 #[.slice A n c] w fun e w' => ∃ (A' : Option Addr) (cap : Nat), e = .returned (.agg #[.int .i64 ((n : Int) + 2), .slice A' (n + 1) cap]) ∧ Below w.heap.size w w' ∧ Els w' w'.heap.size 3 Ed.cells A' (decAll code) := by
  have HL := Lib.hid hl
  have HR := Lib.hid hr
  have HIN := Lib.hid hin
  have hS := Lib.hid (((Blk.new w 30 #[.int .i64 0, .slice none 0 0])).alloc (.cells #[.int .i64 ((n : Int) + 2), .slice none 0 0] 30))
  have hG : Blk ((w.alloc (.cells #[.int .i64 0, .slice none 0 0] 30)).alloc (.cells #[.int .i64 ((n : Int) + 2), .slice none 0 0] 30)) (w.heap.size + 1) 30 #[.int .i64 ((n : Int) + 2), .slice none 0 0] := by
    have := Blk.new (w.alloc (.cells #[.int .i64 0, .slice none 0 0] 30)) 30 #[.int .i64 ((n : Int) + 2), .slice none 0 0]
    rwa [size_alloc'] at this
  have HS := Lib.hid hS
  have HGB := Lib.hid hG
  have HB := Lib.hid (((Below.refl w.heap.size w).alloc (Nat.le_refl _) (.cells #[.int .i64 0, .slice none 0 0] 30)).alloc (by rw [size_alloc']; omega) (.cells #[.int .i64 ((n : Int) + 2), .slice none 0 0] 30))
  clear hl hr hin hS hG
  go_enter Try.func26, Try.ntmps26
  go_wp2_with fail
  go_loopw [5, 4] (fun i s wr => ∃ (k : Nat) (AG : Option Addr) (capG : Nat) (AE : Option Addr) (capE : Nat), k ≤ n ∧ i = .int .i64 k ∧ s = .slice AG k capG ∧ Below w.heap.size w wr ∧
    Blk wr w.heap.size 30 #[.int .i64 0, .slice none 0 0] ∧ Blk wr (w.heap.size + 1) 30 #[.int .i64 ((n : Int) + 2), .slice AE k capE] ∧
    Own wr (w.heap.size + 2) 3 1 icell AG capG (goneL code k) ∧ Own wr (w.heap.size + 2) 85 3 Ed.cells AE capE (decE code k)) (fun i _ _ => n - (intOf i).toNat)
  case atStart => exact ⟨0, none, 0, none, 0, by omega, rfl, rfl, HB.out, HS.out.out, HGB.out, Own.nil _ _ _ (fun _ => rfl), Own.nil _ _ _ (fun _ => rfl)⟩
  case round =>
    clear HB HS HGB
    rename World => wr
    obtain ⟨k, AG, capG, AE, capE, hk, rfl, rfl, hb, hblk, hgb, hgo, hed⟩ := hrel
    have hsz := hb.size
    have hltG := hgb.lt
    have hdf := hed.differ hgo (by decide)
    have hdg := hgo.differ hed (by decide)
    have HB := Lib.hid hb
    have HG := Lib.hid hblk
    have HGB := Lib.hid hgb
    have HGO := Lib.hid hgo
    have HED := Lib.hid hed
    have HDF := Lib.hid hdf
    have HDG := Lib.hid hdg
    clear hb hblk hgb hgo hed hdf hdg
    have hpk := pk_spec code (k := k) (by rw [HL.out]; omega)
    rw [HL.out] at hpk
    obtain ⟨p1, p2, p3⟩ := hpk
    have HP2 := Lib.hid p2
    have HP3 := Lib.hid p3
    have hgs := goneL_succ code k
    have hds := decE_succ code k
    obtain ⟨p, hp⟩ : ∃ p, p = pk code k := ⟨_, rfl⟩
    rw [← hp] at p1 p2 hgs hds
    have HP := Lib.hid hp
    have HGS := Lib.hid hgs
    clear hp p2 p3 hgs
    have hrest := (HR.out.below HB.out).cut (k := k) HL.out hc
    have HREST := Lib.hid hrest
    clear hrest
    by_cases hlt : k < n
    · have hkl : k < code.length := by rw [HL.out]; exact hlt
      have hkc : ¬ c = k := by omega
      obtain ⟨b, off, rfl, hbb, g0⟩ := (HR.out.below HB.out).at1 hkl
      obtain ⟨x, hx⟩ : ∃ x, x = code[k] := ⟨_, rfl⟩
      rw [← hx] at g0
      rw [getD_at code k hkl 0, ← hx] at hds
      have HDS := Lib.hid hds
      have HREST2 : Hid (Els wr w.heap.size 1 icell (some ⟨b, off + k, none⟩) (code.drop k)) := by
        have := HREST.out
        rw [if_neg (by omega)] at this
        have e : (some (⟨b, off, none⟩ : Addr)).map (·.add (k * 1)) = some ⟨b, off + k, none⟩ := by
          show some (Addr.add _ _) = _
          rw [addr_add]
          simp
        show Els wr w.heap.size 1 icell (some ⟨b, off + k, none⟩) (code.drop k)
        rwa [e] at this
      have HH1 := fun x => Has_any AG k capG (goneL code k) x wr.heap.size wr (goneL_length code k) (by unfold maxLen; omega) HGO.out.els
      have HH2 := fun x => Has_any (some ⟨b, off + k, none⟩) (n - k) (c - k) (code.drop k) x w.heap.size wr (by rw [List.length_drop, HL.out]) (by unfold maxLen; omega) HREST2.out
      have HH1 := Lib.hid HH1
      have HH2 := Lib.hid HH2
      clear hx hds HREST
      go_wp2_with fail
      go_loop [6] (fun i => ∃ i0 : Nat, i0 ≤ p ∧ i = .int .i64 i0) (fun i => p - (intOf i).toNat)
      case atStart => exact ⟨0, by omega, rfl⟩
      case round =>
        obtain ⟨i0, hi0, rfl⟩ := hrel
        by_cases hlt2 : i0 < p
        · have hfr := HP3.out i0 (by rw [← HP.out]; exact hlt2)
          rcases fresh_cases hfr with h1 | ⟨h1, h2⟩
          · have H1 := Lib.hid h1
            clear hfr h1
            go_wp2_with fail
            refine (HH1.out _).mono ?_
            rintro e w' ⟨rfl, rfl⟩
            rw [H1.out]
            go_wp2_with fail
            go_round
            case rel => exact ⟨i0 + 1, by omega, by go_num⟩
            case measure => simp [intOf]; omega
          · have H1 := Lib.hid h1
            have H2 := Lib.hid h2
            clear hfr h1 h2
            go_wp2_with fail
            refine (HH1.out _).mono ?_
            rintro e w' ⟨rfl, rfl⟩
            rw [H1.out]
            go_wp2_with fail
            refine (HH2.out _).mono ?_
            rintro e w' ⟨rfl, rfl⟩
            rw [H2.out]
            go_wp2_with fail
            go_round
            case rel => exact ⟨i0 + 1, by omega, by go_num⟩
            case measure => simp [intOf]; omega
        · obtain rfl : i0 = p := by omega
          obtain ⟨h1, h2⟩ := fresh_both (i := i0) (by rw [HP.out]; exact HP2.out)
          have H1 := Lib.hid h1
          have H2 := Lib.hid h2
          clear h1 h2
          go_wp2_with fail
          refine (HH1.out _).mono ?_
          rintro e w' ⟨rfl, rfl⟩
          rw [H1.out]
          go_wp2_with fail
          refine (HH2.out _).mono ?_
          rintro e w' ⟨rfl, rfl⟩
          rw [H2.out]
          clear HH1 HH2
          have hrG : ∀ g, blkOf AG = some g → w.heap.size + 2 ≤ g := fun g hg => (HGO.out.lt g hg).1
          have hrE : ∀ g, blkOf AE = some g → w.heap.size + 2 ≤ g := fun g hg => (HED.out.lt g hg).1
          have HRG := Lib.hid hrG
          have HRE := Lib.hid hrE
          clear hrG hrE
          go_wp2_with (at_builtin; go_must (
            refine wpList_push rfl _ _ _ rfl (w.heap.size + 2) 1 3 (.int .i64 0) 8 Try.underlying44 (by kernel_rfl) rfl (by omega) icell wr #[.int .i64 i0] AG k capG (goneL code k) (goneL_length code k) rfl HGO.out 1 [(i0 : Int)] rfl rfl wr.heap.size rfl rfl (by simp [Value.oneCell']) (by unfold maxLen; omega) (by omega) (by omega) ?_
            intro AG2 capG2 w4 hown2 hgrow hloc))
          have hrow4 : blkOf AE = none ∨ blkOf AE ≠ blkOf AG := HDF.out
          have HED4 := Lib.hid ((HED.out.alloc (.cells #[.int .i64 i0] 3)).kept hgrow hrow4)
          have hG4 := (HGB.out.alloc (.cells #[.int .i64 i0] 3)).grown hgrow (fun h => by have := HRG.out _ h.symm; omega)
          have HG4 := Lib.hid hG4
          have k1 := hG4.cell 1
          have k2 := hG4.frozen 1
          have hz4 := hG4.lt
          have hcode : w4.cell? ⟨b, off + k, none⟩ = some (.int .i64 x) := by
            have hb4 := (HB.out.alloc hsz (.cells #[.int .i64 i0] 3)).grown hgrow (by rw [size_alloc']; omega) (fun g hg => by have := HRG.out g hg; omega)
            have h0 := HB.out.cell (p := ⟨b, off + k, none⟩) hbb
            have h1 := hb4.cell (p := ⟨b, off + k, none⟩) hbb
            rw [h1, ← h0, g0]
          have HDG4 := Lib.hid (hown2.differ HED4.out (by decide))
          have HO2 := Lib.hid hown2
          have HB4 := Lib.hid ((HB.out.alloc hsz (.cells #[.int .i64 i0] 3)).grown hgrow (by rw [size_alloc']; omega) (fun g hg => by have := HRG.out g hg; omega))
          have HS4 := Lib.hid ((HG.out.alloc (.cells #[.int .i64 i0] 3)).grown hgrow (fun h => by have := HRG.out _ h.symm; omega))
          clear hG4 hrow4 g0 hown2 hgrow hloc
          go_region_law ((
            refine step_append_els (by rfl) (.tmp 36) (.tmp 43) 28 (by rfl) (w.heap.size + 2) 3 85 (.agg #[.int .i64 0, .int .i64 0, .int .i64 0]) 24 Try.underlying28 (by kernel_rfl) (by rfl) (by omega) Ed.cells _ AE k capE (decE code k) (decE_length code k) (by rfl) (by first | exact (HED4.out.drew.alloc _) | exact (HED4.out.alloc _).drew) (some ⟨w4.heap.size, 0, none⟩) 1 1 [⟨(i0 : Int), x, 0⟩] (by rfl) (by rfl) _ (by exact els_of_blk (Blk.new _ 85 #[.int .i64 i0, .int .i64 x, .int .i64 0]) 3 Ed.cells (fun _ => rfl) [⟨(i0 : Int), x, 0⟩] rfl) (by simp [Value.oneCell']) (by unfold maxLen; omega) (by omega) (by simp; omega) ?_
            intro AE2 capE2 w5 hown5 hgrow5 hloc5
            have hG5 := (HG4.out.drew.alloc (.cells #[.int .i64 i0, .int .i64 x, .int .i64 0] 85)).grown hgrow5 (fun h => by have := HRE.out _ h.symm; omega)
            have q1 := hG5.cell 1
            have q2 := hG5.frozen 1))
          all_goals
            go_wp2_with fail
            go_roundw
            case rel =>
              have hz5 := HB4.out.size
              refine ⟨k + 1, AG2, capG2, AE2, capE2, by omega, by go_num, rfl, ?_, ?_, hG5.put 1 _, ?_, ?_⟩
              · exact (((HB4.out.drew).alloc hz5 _).grown hgrow5 (by rw [size_alloc']; exact Nat.le_succ_of_le hz5) (fun g hg => by have := HRE.out g hg; omega)).setCell (show w.heap.size ≤ w.heap.size + 1 by omega) _
              · exact (((HS4.out.drew).alloc _).grown hgrow5 (fun h => by have := HRE.out _ h.symm; omega)).far (show w.heap.size ≠ w.heap.size + 1 by omega) _
              · rw [HGS.out]
                exact (((HO2.out.drew).alloc _).kept hgrow5 HDG4.out).low (show w.heap.size + 1 < w.heap.size + 2 by omega) _
              · rw [HDS.out]
                exact hown5.low (show w.heap.size + 1 < w.heap.size + 2 by omega) _
            case measure => simp [intOf]; omega
    · obtain rfl : k = n := by omega
      obtain ⟨a1, a2, a3⟩ := pa_spec code
      obtain ⟨b1, b2, b3, b4⟩ := pb_spec code
      have hall : decAll code = decE code k ++ [⟨(pa code : Int), (pb code : Int), 0⟩] := by
        unfold decAll
        rw [HL.out]
      rw [HL.out] at a1 a2 a3 b1 b3 b4
      obtain ⟨a, ha⟩ : ∃ a, a = pa code := ⟨_, rfl⟩
      obtain ⟨d, hd⟩ : ∃ d, d = pb code := ⟨_, rfl⟩
      rw [← ha] at a1 a2 a3 b2 b4 hall
      rw [← hd] at b1 b2 b3 b4 hall
      have HA2 := Lib.hid a2
      have HA3 := Lib.hid a3
      have HB3 := Lib.hid b3
      have HB4 := Lib.hid b4
      have HALL := Lib.hid hall
      have HH1 := fun x => Has_any AG k capG (goneL code k) x wr.heap.size wr (goneL_length code k) (by unfold maxLen; omega) HGO.out.els
      have HH1 := Lib.hid HH1
      clear a2 a3 b3 b4 hall ha hd HREST hds HP HP2 HP3 HGS p1
      go_wp2_with fail
      go_loop [7] (fun i => ∃ i0 : Nat, i0 ≤ a ∧ i = .int .i64 i0) (fun i => a - (intOf i).toNat)
      case atStart => exact ⟨0, by omega, rfl⟩
      case round =>
        obtain ⟨i0, hi0, rfl⟩ := hrel
        by_cases hlt2 : i0 < a
        · have H1 := Lib.hid (HA3.out i0 hlt2)
          go_wp2_with fail
          refine (HH1.out _).mono ?_
          rintro e w' ⟨rfl, rfl⟩
          rw [H1.out]
          go_wp2_with fail
          go_round
          case rel => exact ⟨i0 + 1, by omega, by go_num⟩
          case measure => simp [intOf]; omega
        · obtain rfl : i0 = a := by omega
          go_wp2_with fail
          refine (HH1.out _).mono ?_
          rintro e w' ⟨rfl, rfl⟩
          rw [HA2.out]
          go_wp2_with fail
          go_loop [8] (fun i => ∃ j : Nat, i0 < j ∧ j ≤ d ∧ i = .int .i64 j) (fun i => d - (intOf i).toNat)
          case atStart => exact ⟨i0 + 1, by omega, by omega, by go_num⟩
          case round =>
            obtain ⟨j, hj0, hj1, rfl⟩ := hrel
            by_cases hlt3 : j < d
            · have H1 := Lib.hid (HB4.out j hj0 hlt3)
              go_wp2_with fail
              refine (HH1.out _).mono ?_
              rintro e w' ⟨rfl, rfl⟩
              rw [H1.out]
              go_wp2_with fail
              go_round
              case rel => exact ⟨j + 1, by omega, by omega, by go_num⟩
              case measure => simp [intOf]; omega
            · obtain rfl : j = d := by omega
              go_wp2_with fail
              refine (HH1.out _).mono ?_
              rintro e w' ⟨rfl, rfl⟩
              rw [HB3.out]
              clear HH1
              have hrE : ∀ g, blkOf AE = some g → w.heap.size + 2 ≤ g := fun g hg => (HED.out.lt g hg).1
              have HRE := Lib.hid hrE
              have k1 := HGB.out.cell 1
              clear hrE
              go_wp2_with (at_builtin; go_must (
                refine wpList_push rfl _ _ _ rfl (w.heap.size + 2) 3 85 (.agg #[.int .i64 0, .int .i64 0, .int .i64 0]) 24 Try.underlying28 (by kernel_rfl) rfl (by omega) Ed.cells wr #[.int .i64 i0, .int .i64 j, .int .i64 0] AE k capE (decE code k) (decE_length code k) rfl HED.out 1 [⟨(i0 : Int), (j : Int), 0⟩] rfl rfl wr.heap.size rfl rfl (by simp [Value.oneCell']) (by unfold maxLen; omega) (by omega) (by omega) ?_
                intro AE2 capE2 w4 hown2 hgrow hloc
                have hG4 := (HGB.out.alloc (.cells #[.int .i64 i0, .int .i64 j, .int .i64 0] 85)).grown hgrow (fun h => by have := HRE.out _ h.symm; omega)
                have k2 := hG4.cell 1
                have k3 := hG4.frozen 1
                have hG5 : Blk (w4.setCell ⟨w.heap.size + 1, 1, none⟩ (.slice AE2 (k + 1) capE2)) (w.heap.size + 1) 30 #[.int .i64 ((k : Int) + 2), .slice AE2 (k + 1) capE2] := hG4.put 1 _
                have k4 := hG5.cell 0
                have k5 := hG5.cell 1
                have hS5 := ((HG.out.alloc (.cells #[.int .i64 i0, .int .i64 j, .int .i64 0] 85)).grown hgrow (fun h => by have := HRE.out _ h.symm; omega)).far (p := ⟨w.heap.size + 1, 1, none⟩) (show w.heap.size ≠ w.heap.size + 1 by omega) (.slice AE2 (k + 1) capE2)
                have m0 := hS5.cell 0
                have m1 := hS5.cell 1
                have m2 := hS5.frozen 0
                have m3 := hS5.frozen 1
                have hS6 : Blk (((w4.setCell ⟨w.heap.size + 1, 1, none⟩ (.slice AE2 (k + 1) capE2)).setCell ⟨w.heap.size, 0, none⟩ (.int .i64 ((k : Int) + 2))).setCell ⟨w.heap.size, 1, none⟩ (.slice AE2 (k + 1) capE2)) w.heap.size 30 #[.int .i64 ((k : Int) + 2), .slice AE2 (k + 1) capE2] := (hS5.put 0 _).put 1 _
                have m4 := hS6.cell 0
                have m5 := hS6.cell 1
                have HG5 := Lib.hid hG5
                have HS6 := Lib.hid hS6
                clear hG5 hS5 hS6))
              refine bodyPost_ret (v := .agg #[.int .i64 ((k : Int) + 2), .slice AE2 (k + 1) capE2]) ?_ rfl ?_
              · simp [results, Try.results26, go_sem, m4, m5]
              refine ⟨AE2, capE2, rfl, ?_, ?_⟩
              · exact (((((HB.out.alloc hsz _).grown hgrow (by rw [size_alloc']; omega) (fun g hg => by have := HRE.out g hg; omega)).setCell (show w.heap.size ≤ w.heap.size + 1 by omega) _)).setCell (Nat.le_refl _) _).setCell (Nat.le_refl _) _
              · rw [HALL.out]
                exact (((hown2.low (show w.heap.size + 1 < w.heap.size + 2 by omega) _).low (show w.heap.size < w.heap.size + 2 by omega) _).low (show w.heap.size < w.heap.size + 2 by omega) _).els
end Go.Proofs.Ytaldkafibemhnaa
