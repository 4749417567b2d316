/- The order in which the nodes of a graph go: the reference's walk; the statement ChordOrders. Conditions: the edges read as a list; the table. -/
import Derived.Test.YtnpcbbdfpbnakaaDoorChordA
import Derived.Test.YtnpcbbdfpbnakaaDoorNearR
import Derived.Test.YtnpcbbdfpbnakaaDoorGraphB
import Derived.Test.YtnpcbbdfpbnakaaDoorEq
import Derived.Test.YtnpcbbdfpbnakaaDoorLaneP
import Derived.Test.YtnpcbbdfpbnakaaDoorOpen
namespace Go.Proofs.YtnpcbbdfpbnakaaDoor
open Go.RowKit

set_option maxRecDepth 100000 in
set_option maxHeartbeats 1000000 in
theorem ref_Simple (N : Nat) (i : Nat) (A : Option Addr) (n c : Nat) (l : List Ed) (A2 : Option Addr) (n2 c2 : Nat) (L : List Int) (q : Bool) (w : World) (hq : q = true ↔ SimpC l (leftW N L) i) (hin : ∀ x ∈ L, 0 ≤ x ∧ x < N) (hL : L.length = n2) (hL2 : n2 ≤ maxLen) (hr2 : Els w w.heap.size 1 icell A2 L) (hl : l.length = n) (hg : GoodG N l) (hr : Els w w.heap.size 3 Ed.cells A l) :
    Calls Tryd.prog 80 #[.agg #[.int .i64 N, .slice A n c], .int .i64 i, .slice A2 n2 c2] w fun e w' => e = .returned (.bool q) ∧ Below w.heap.size w w' := by
  have hN := hg.n10
  have hn45 : n ≤ 45 := by have := hg.m45; omega
  have hb0 := (Below.refl w.heap.size w).alloc (Nat.le_refl _) (.cells #[.int .i64 N, .slice A n c] 31)
  have hB0 := Blk.new w 31 #[.int .i64 N, .slice A n c]
  have HB0 := Lib.hid hb0
  have HK0 := Lib.hid hB0
  have HNR := Lib.hid (fun (a b : Nat) (v : World) (hv : Below w.heap.size w v) => ref_Near N a b A n c l v hl hn45 ((hr.below hv).more hv.size))
  have HHA := Lib.hid (fun (x : Int) (v : World) (hv : Below w.heap.size w v) => Has_any A2 n2 c2 L x w.heap.size v hL hL2 (hr2.below hv))
  have HQ := Lib.hid hq
  have HIN := Lib.hid hin
  clear hr hb0 hB0 hl hg hq hin hr2
  go_enter Tryd.func80, Tryd.ntmps80
  go_wp2_with fail
  go_loopw [7] (fun s7 wr => ∃ a : Nat, a ≤ N ∧ s7 = .int .i64 a ∧ simTo l L i a 0 ∧ Below w.heap.size w wr ∧ Blk wr w.heap.size 31 #[.int .i64 N, .slice A n c]) (fun s7 _ => N - (intOf s7).toNat)
  case atStart => exact ⟨0, by omega, rfl, ⟨fun a' h => by omega, fun b' h => by omega⟩, HB0.out, HK0.out⟩
  case round =>
    clear HB0 HK0
    rename World => wr
    obtain ⟨a, ha, rfl, hs, hb, hk⟩ := hrel
    have c0 := hk.cell 0
    have HS := Lib.hid hs
    have HB := Lib.hid hb
    have HK := Lib.hid hk
    clear hs hb hk
    by_cases hlt : a < N
    · go_wp2_with fail
      clear c0
      go_loopw [8] (fun s8 w2 => ∃ b : Nat, b ≤ a ∧ s8 = .int .i64 b ∧ simTo l L i a b ∧ Below w.heap.size w w2 ∧ Blk w2 w.heap.size 31 #[.int .i64 N, .slice A n c]) (fun s8 _ => a - (intOf s8).toNat)
      case atStart => exact ⟨0, by omega, rfl, HS.out, HB.out, HK.out⟩
      case round =>
        clear HS HB HK
        rename World => w2
        obtain ⟨b, hba, rfl, hs, hb, hk⟩ := hrel
        have c0 := hk.cell 0
        have c1 := hk.cell 1
        have hz := hb.size
        have hlk := hk.lt
        have HS := Lib.hid hs
        have HB := Lib.hid hb
        have HK := Lib.hid hk
        clear hs hb hk
        by_cases hlb : b < a
        · have hsb : simB l L i a b = (adj l i a && adj l i b && !hasB L a && !hasB L b && !adj l a b) := rfl
          have HN1 := Lib.hid (HNR.out i a w2 HB.out)
          obtain ⟨x1, h1⟩ : ∃ x, x = adj l i a := ⟨_, rfl⟩
          obtain ⟨x2, h2⟩ : ∃ x, x = adj l i b := ⟨_, rfl⟩
          obtain ⟨x3, h3⟩ : ∃ x, x = hasB L a := ⟨_, rfl⟩
          obtain ⟨x4, h4⟩ : ∃ x, x = hasB L b := ⟨_, rfl⟩
          obtain ⟨x5, h5⟩ : ∃ x, x = adj l a b := ⟨_, rfl⟩
          rw [← h1, ← h2, ← h3, ← h4, ← h5] at hsb
          rw [← h1] at HN1
          have H2 := Lib.hid h2
          have H3 := Lib.hid h3
          have H4 := Lib.hid h4
          have H5 := Lib.hid h5
          have HSB := Lib.hid hsb
          have HON : Hid (simB l L i a b = false → simTo l L i a (b + 1)) := Lib.hid (fun h => ⟨HS.out.1, fun b' hb' => by
            rcases Nat.lt_succ_iff_lt_or_eq.1 hb' with h' | h'
            · exact HS.out.2 b' h'
            · rw [h']; exact h⟩)
          clear h1 h2 h3 h4 h5 hsb
          go_wp2_with fail
          refine HN1.out.mono ?_
          clear HN1
          rintro e w3 ⟨rfl, hb3⟩
          have HB3 := Lib.hid (HB.out.trans (hb3.mono hz))
          have hk3 := HK.out.below hb3 hlk
          have d0 := hk3.cell 0
          have d1 := hk3.cell 1
          have hz3 := HB3.out.size
          have hlk3 := hk3.lt
          have HK3 := Lib.hid hk3
          clear hb3 hk3 c0 c1 HB HK
          cases x1 with
          | false =>
            have HN : Hid (simTo l L i a (b + 1)) := Lib.hid (HON.out (by rw [HSB.out]; simp))
            go_wp2_with fail
            go_roundw
            case rel => exact ⟨b + 1, by omega, by go_num, HN.out, HB3.out, HK3.out⟩
            case measure => simp [intOf]; omega
          | true =>
            have HN2 := Lib.hid (HNR.out i b w3 HB3.out)
            rw [← H2.out] at HN2
            go_wp2_with fail
            refine HN2.out.mono ?_
            clear HN2
            rintro e w4 ⟨rfl, hb4⟩
            have HB4 := Lib.hid (HB3.out.trans (hb4.mono hz3))
            have hk4 := HK3.out.below hb4 hlk3
            have e0 := hk4.cell 0
            have e1 := hk4.cell 1
            have hz4 := HB4.out.size
            have hlk4 := hk4.lt
            have HK4 := Lib.hid hk4
            clear hb4 hk4 d0 d1 HB3 HK3
            cases x2 with
            | false =>
              have HN : Hid (simTo l L i a (b + 1)) := Lib.hid (HON.out (by rw [HSB.out]; simp))
              go_wp2_with fail
              go_roundw
              case rel => exact ⟨b + 1, by omega, by go_num, HN.out, HB4.out, HK4.out⟩
              case measure => simp [intOf]; omega
            | true =>
              have HH1 := Lib.hid (HHA.out a w4 HB4.out)
              have HH2 := Lib.hid (HHA.out b w4 HB4.out)
              rw [← H3.out] at HH1
              rw [← H4.out] at HH2
              go_wp2_with fail
              refine HH1.out.mono ?_
              rintro e w' ⟨rfl, rfl⟩
              cases x3 with
              | true =>
                have HN : Hid (simTo l L i a (b + 1)) := Lib.hid (HON.out (by rw [HSB.out]; simp))
                go_wp2_with fail
                go_roundw
                case rel => exact ⟨b + 1, by omega, by go_num, HN.out, HB4.out, HK4.out⟩
                case measure => simp [intOf]; omega
              | false =>
                go_wp2_with fail
                refine HH2.out.mono ?_
                rintro e w' ⟨rfl, rfl⟩
                cases x4 with
                | true =>
                  have HN : Hid (simTo l L i a (b + 1)) := Lib.hid (HON.out (by rw [HSB.out]; simp))
                  go_wp2_with fail
                  go_roundw
                  case rel => exact ⟨b + 1, by omega, by go_num, HN.out, HB4.out, HK4.out⟩
                  case measure => simp [intOf]; omega
                | false =>
                  have HN3 := Lib.hid (HNR.out a b w4 HB4.out)
                  rw [← H5.out] at HN3
                  go_wp2_with fail
                  refine HN3.out.mono ?_
                  clear HN3
                  rintro e w5 ⟨rfl, hb5⟩
                  have HB5 := Lib.hid (HB4.out.trans (hb5.mono hz4))
                  have HK5 := Lib.hid (HK4.out.below hb5 hlk4)
                  clear hb5 e0 e1
                  cases x5 with
                  | true =>
                    have HN : Hid (simTo l L i a (b + 1)) := Lib.hid (HON.out (by rw [HSB.out]; simp))
                    go_wp2_with fail
                    go_roundw
                    case rel => exact ⟨b + 1, by omega, by go_num, HN.out, HB5.out, HK5.out⟩
                    case measure => simp [intOf]; omega
                  | false =>
                    have HNO : Hid (q = false) := Lib.hid (by
                      rw [← Bool.not_eq_true, HQ.out]
                      exact sim_bad (show N < 32 by omega) HIN.out hlt hlb (by rw [HSB.out]; simp))
                    go_wp2_with fail
                    go_ret
                    exact ⟨ret_bool HNO.out.symm, HB5.out⟩
        · obtain rfl : b = a := by omega
          have HN : Hid (simTo l L i (b + 1) 0) := Lib.hid ⟨fun a' ha' => by
            rcases Nat.lt_succ_iff_lt_or_eq.1 ha' with h' | h'
            · exact HS.out.1 a' h'
            · subst h'; exact HS.out.2, fun b' hb' => by omega⟩
          go_wp2_with fail
          go_roundw
          case rel => exact ⟨b + 1, by omega, by go_num, HN.out, HB.out, HK.out⟩
          case measure => simp [intOf]; omega
    · obtain rfl : a = N := by omega
      have HYES : Hid (q = true) := Lib.hid (HQ.out.2 (sim_good (show a < 32 by omega) HIN.out HS.out))
      go_wp2_with fail
      go_ret
      exact ⟨ret_bool HYES.out.symm, HB.out⟩

/-- The first node from j on that may go. -/
def fromC (l : List Ed) (x : BitVec 32) (j : Nat) (v : Int) : Prop :=
  (v = -1 ∧ ∀ i, j ≤ i → x.getLsbD i = true → ¬ SimpC l x i) ∨ ∃ i : Nat, v = i ∧ j ≤ i ∧ x.getLsbD i = true ∧ SimpC l x i ∧ ∀ i', j ≤ i' → i' < i → x.getLsbD i' = true → ¬ SimpC l x i'
theorem fromC_skip {l : List Ed} {x : BitVec 32} {j : Nat} {v : Int} (h : fromC l x (j + 1) v) (hno : x.getLsbD j = true → ¬ SimpC l x j) : fromC l x j v := by
  rcases h with ⟨h1, h2⟩ | ⟨i, h1, h2, h3, h4, h5⟩
  · refine .inl ⟨h1, fun i hi hx => ?_⟩
    by_cases he : i = j
    · subst he; exact hno hx
    · exact h2 i (by omega) hx
  · refine .inr ⟨i, h1, by omega, h3, h4, fun i' hi hlt hx => ?_⟩
    by_cases he : i' = j
    · subst he; exact hno hx
    · exact h5 i' (by omega) hlt hx
theorem fromC_take {l : List Ed} {x : BitVec 32} {j : Nat} (hx : x.getLsbD j = true) (hs : SimpC l x j) : fromC l x j j := .inr ⟨j, rfl, Nat.le_refl _, hx, hs, fun i' h1 h2 => by omega⟩
theorem fromC_next {l : List Ed} {N : Nat} {L : List Int} {v : Int} (h : fromC l (leftW N L) 0 v) : NextC l N L v := by
  rcases h with ⟨h1, h2⟩ | ⟨i, h1, _, h3, h4, h5⟩
  · exact .inl ⟨h1, fun i hx => h2 i (Nat.zero_le _) hx⟩
  · exact .inr ⟨i, h1, h3, h4, fun j hj hx => h5 j (Nat.zero_le _) hj hx⟩

set_option maxRecDepth 100000 in
set_option maxHeartbeats 1000000 in
theorem ref_Chords (N : Nat) (A : Option Addr) (n c : Nat) (l : List Ed) (w : World) (hl : l.length = n) (hg : GoodG N l) (hr : Els w w.heap.size 3 Ed.cells A l) :
    Calls Tryd.prog 40 #[.agg #[.int .i64 N, .slice A n c]] w fun e w' => ∃ (A2 : Option Addr) (k cap : Nat) (b : Bool) (L : List Int), e = .returned (.tuple #[.slice A2 k cap, .bool b]) ∧ Below w.heap.size w w' ∧ ChordRes l N b L ∧ (b = false → k = 0) ∧ (b = true → k = N ∧ Els w' w'.heap.size 1 icell A2 L) := by
  have hN := hg.n10
  have hb0 := (Below.refl w.heap.size w).alloc (Nat.le_refl _) (.cells #[.int .i64 N, .slice A n c] 31)
  have hB0 := Blk.new w 31 #[.int .i64 N, .slice A n c]
  have HB0 := Lib.hid hb0
  have HK0 := Lib.hid hB0
  have HL := Lib.hid hl
  have HG := Lib.hid hg
  have HR := Lib.hid hr
  clear hr hb0 hB0 hl hg
  go_enter Tryd.func40, Tryd.ntmps40
  go_wp2_with fail
  go_loopw [4] (fun s4 wr => ∃ (k : Nat) (A2 : Option Addr) (cap : Nat) (L : List Int), k ≤ N ∧ s4 = .slice A2 k cap ∧ L.length = k ∧ Chn (StepC l N) L ∧ Below w.heap.size w wr ∧ Blk wr w.heap.size 31 #[.int .i64 N, .slice A n c] ∧ Own wr (w.heap.size + 1) 3 1 icell A2 cap L) (fun s4 _ => N - lenV s4)
  case atStart => exact ⟨0, none, 0, [], by omega, rfl, rfl, .nil, HB0.out, HK0.out, Own.nil _ _ _ (fun _ => rfl)⟩
  case round =>
    clear HB0 HK0
    rename World => wr
    obtain ⟨k, A2, cap, L, hk, rfl, hLk, hch, hb, hkg, ho⟩ := hrel
    have hin := (chord_in (show N < 32 by omega) hch).1
    have hbit := fun j => leftW_bit (show N < 32 by omega) L hin j
    have c0 := hkg.cell 0
    have hz := hb.size
    have hlk := hkg.lt
    have HB := Lib.hid hb
    have HK := Lib.hid hkg
    have HO := Lib.hid ho
    have HLK := Lib.hid hLk
    have HCH := Lib.hid hch
    have HIN := Lib.hid hin
    have HBIT := Lib.hid hbit
    clear hb hkg ho hLk hch hin hbit
    by_cases hlt : k < N
    · go_wp2_with fail
      clear c0
      go_loopw [5, 6] (fun s5 s6 w2 => ∃ (j : Nat) (v : Int), j ≤ N ∧ s6 = .int .i64 ((j : Int) - 1) ∧ s5 = .int .i64 v ∧ fromC l (leftW N L) j v ∧ Below wr.heap.size wr w2) (fun _ s6 _ => (intOf s6 + 1).toNat)
      case atStart => exact ⟨N, -1, Nat.le_refl _, rfl, rfl, .inl ⟨rfl, fun i hi hx => by have := ((HBIT.out i).1 hx).1; omega⟩, Below.refl _ _⟩
      case round =>
        rename World => w2
        obtain ⟨j, v, hj, rfl, rfl, hf, hb2⟩ := hrel
        have hz2 := hb2.size
        have hkg := HK.out.below hb2 hlk
        have c0 := hkg.cell 0
        have c1 := hkg.cell 1
        have HF := Lib.hid hf
        have HB2 := Lib.hid hb2
        clear hf hb2 hkg
        by_cases hj0 : j = 0
        · subst hj0
          have hnx := fromC_next HF.out
          rcases hnx with ⟨rfl, hno⟩ | ⟨i, rfl, hbi, hs, hlow⟩
          · have HNX : Hid (NextC l N L (-1)) := Lib.hid (.inl ⟨rfl, hno⟩)
            clear hno
            go_wp2_with fail
            refine bodyPost_ret (v := .tuple #[.slice none 0 0, .bool false]) (by simp [results, Tryd.results40, go_sem]) rfl ?_
            exact ⟨none, 0, 0, false, L, rfl, HB.out.trans (HB2.out.mono hz), ⟨HCH.out, (fun h => by cases h), fun _ => ⟨by rw [HLK.out]; exact hlt, HNX.out⟩⟩, fun _ => rfl, (fun h => by cases h)⟩
          · have HST : Hid (StepC l N L (i : Int)) := Lib.hid ⟨.inr ⟨i, rfl, hbi, hs, hlow⟩, by omega⟩
            have HO2 := Lib.hid (HO.out.below HB2.out (Nat.le_refl _))
            have hneg : ¬ ((i : Int) < 0) := by omega
            clear hbi hs hlow
            go_wp2_with (at_builtin; go_must (
              refine wpList_push rfl _ _ _ rfl (w.heap.size + 1) 1 3 (.int .i64 0) 8 Tryd.underlying32 (by kernel_rfl) rfl (by omega) icell w2 #[.int .i64 i] A2 k cap L HLK.out rfl HO2.out 1 [(i : Int)] rfl rfl _ rfl rfl (by simp [Value.oneCell']) (by unfold maxLen; omega) (by omega) (by omega) ?_
              intro A5 cap5 w5 hown5 hgrow5 hloc5))
            go_roundw
            case rel =>
              refine ⟨k + 1, A5, cap5, L ++ [(i : Int)], by omega, rfl, by rw [List.length_append, HLK.out]; rfl, HCH.out.snoc HST.out, ?_, ?_, hown5⟩
              · exact ((HB.out.trans (HB2.out.mono hz)).alloc (by omega) _).grown hgrow5 (by rw [size_alloc']; omega) (fun g hg => by have := (HO2.out.lt g hg).1; omega)
              · exact ((HK.out.below HB2.out hlk).alloc _).grown hgrow5 (fun h => by have := (HO2.out.lt _ h.symm).1; omega)
            case measure => simp [lenV]; omega
        · obtain ⟨i, rfl⟩ : ∃ i, j = i + 1 := ⟨j - 1, by omega⟩
          have hji : (((i + 1 : Nat) : Int) - 1) = i := by omega
          rw [hji]
          have HHA := Lib.hid (Has_any A2 k cap L i w2.heap.size w2 HLK.out (by unfold maxLen; omega) (HO.out.below HB2.out (Nat.le_refl _)).els)
          obtain ⟨hx, hhx⟩ : ∃ hx, hx = hasB L (i : Int) := ⟨_, rfl⟩
          rw [← hhx] at HHA
          have HHX := Lib.hid hhx
          clear hhx hj0 hji
          go_wp2_with fail
          refine HHA.out.mono ?_
          rintro e w' ⟨rfl, rfl⟩
          cases hx with
          | true =>
            have HN : Hid (fromC l (leftW N L) i v) := Lib.hid (fromC_skip HF.out (fun hb => absurd ((hasB_iff L i).1 HHX.out.symm) ((HBIT.out i).1 hb).2))
            go_wp2_with fail
            go_roundw
            case rel => exact ⟨i, v, by omega, by go_num, rfl, HN.out, HB2.out⟩
            case measure => simp [intOf]
          | false =>
            have hbi : (leftW N L).getLsbD i = true := (HBIT.out i).2 ⟨by omega, fun hm => by have := (hasB_iff L i).2 hm; rw [← HHX.out] at this; cases this⟩
            obtain ⟨q, hq⟩ := bool_of (fun i => SimpC l (leftW N L) i)
            have HS := Lib.hid (ref_Simple N i A n c l A2 k cap L (q i) w2 (hq i) HIN.out HLK.out (by unfold maxLen; omega) (HO.out.below HB2.out (Nat.le_refl _)).els HL.out HG.out ((HR.out.below (HB.out.trans (HB2.out.mono hz))).more (by omega)))
            have HQ := Lib.hid (hq i)
            have HBI := Lib.hid hbi
            obtain ⟨qi, hqi⟩ : ∃ qi, qi = q i := ⟨_, rfl⟩
            rw [← hqi] at HS HQ
            clear hq hqi hbi
            go_wp2_with fail
            refine HS.out.mono ?_
            clear HS
            rintro e w3 ⟨rfl, hb3⟩
            have HB3 := Lib.hid (HB2.out.trans (hb3.mono hz2))
            clear hb3
            cases qi with
            | true =>
              have HN : Hid (fromC l (leftW N L) i i) := Lib.hid (fromC_take HBI.out (HQ.out.1 rfl))
              go_wp2_with fail
              go_roundw
              case rel => exact ⟨i, i, by omega, by go_num, rfl, HN.out, HB3.out⟩
              case measure => simp [intOf]
            | false =>
              have HN : Hid (fromC l (leftW N L) i v) := Lib.hid (fromC_skip HF.out (fun _ hs => by have := HQ.out.2 hs; cases this))
              go_wp2_with fail
              go_roundw
              case rel => exact ⟨i, v, by omega, by go_num, rfl, HN.out, HB3.out⟩
              case measure => simp [intOf]
    · obtain rfl : k = N := by omega
      go_wp2_with fail
      refine bodyPost_ret (v := .tuple #[.slice A2 k cap, .bool true]) (by simp [results, Tryd.results40, go_sem]) rfl ?_
      exact ⟨A2, k, cap, true, L, rfl, HB.out, ⟨HCH.out, (fun _ => HLK.out), (fun h => by cases h)⟩, (fun h => by cases h), fun _ => ⟨rfl, HO.out.els⟩⟩
end Go.Proofs.YtnpcbbdfpbnakaaDoor
