/- With whom each node is linked: the reference's way. Conditions: the edges read as a list and may be. -/
import Derived.Test.YtbbdiondhnmnaaaDoorSpanMany39
import Derived.Test.YtbbdiondhnmnaaaDoorSpanMany30
namespace Go.Proofs.YtbbdiondhnmnaaaDoor
open Go.RowKit

set_option maxRecDepth 100000 in
set_option maxHeartbeats 1000000 in
theorem ref_PartsC (N : Nat) (A : Option Addr) (n c : Nat) (l : List Ed) (w : World) (hl : l.length = n) (hg : GoodG N l) (hr : Els w w.heap.size 3 Ed.cells A l) :
    Calls Tryd.prog 15 #[.agg #[.int .i64 N, .slice A n c]] w fun e w' => ∃ A2 c2 L, e = .returned (.slice A2 N c2) ∧ Below w.heap.size w w' ∧ L.length = N ∧ PartsL l L ∧ Els w' w'.heap.size 1 icell A2 L ∧ N ≤ c2 := by
  have hb0 := (Below.refl w.heap.size w).alloc (Nat.le_refl _) (.cells #[.int .i64 N, .slice A n c] 24)
  have hB0 := Blk.new w 24 #[.int .i64 N, .slice A n c]
  have HD := Lib.hid (ref_Dist N A n c l _ hl hg ((hr.below hb0).more hb0.size))
  have HB0 := Lib.hid hb0
  have HK0 := Lib.hid hB0
  have c0 := hB0.cell 0
  have c1 := hB0.cell 1
  have hN := hg.n10
  clear hr hb0 hB0 hl hg
  go_enter Tryd.func15, Tryd.ntmps15
  go_wp2_with fail
  refine HD.out.mono ?_
  clear HD c0 c1
  rintro e v1 ⟨A3, c3, P, M, rfl, hb1, hP, hm, hd⟩
  have HB1 := Lib.hid (HB0.out.trans (hb1.mono (by rw [size_alloc']; omega)))
  have HK1 := Lib.hid (HK0.out.below hb1 (by rw [size_alloc']; omega))
  have HP := Lib.hid hP
  have HM := Lib.hid hm
  have HDI := Lib.hid hd
  clear hb1 hP hm hd HB0 HK0
  go_wp2_with fail
  go_loopw [5, 4] (fun s5 s4 wr => ∃ (k : Nat) (A2 : Option Addr) (c2 : Nat) (L : List Int), k ≤ N ∧ s5 = .int .i64 k ∧ s4 = .slice A2 k c2 ∧ L.length = k ∧ PartsL l L ∧ Below v1.heap.size v1 wr ∧ Own wr v1.heap.size 3 1 icell A2 c2 L) (fun s5 _ _ => N - (intOf s5).toNat)
  case atStart => exact ⟨0, none, 0, [], by omega, rfl, rfl, rfl, PartsL.nil _, Below.refl _ _, Own.nil _ _ _ (fun _ => rfl)⟩
  case round =>
    rename World => wr
    obtain ⟨k, A2, c2, L, hk, rfl, rfl, hLk, hpl, hb, ho⟩ := hrel
    have hkr := HK1.out.below hb HK1.out.lt
    have c0 := hkr.cell 0
    have hs := hb.size
    have HO := Lib.hid ho
    have HB := Lib.hid hb
    have HLK := Lib.hid hLk
    have HPL := Lib.hid hpl
    clear ho hb hLk hpl hkr
    by_cases hlt : k < N
    · go_wp2_with fail
      clear c0
      go_loop [6] (fun s6 => ∃ j : Nat, j ≤ k ∧ s6 = .int .i64 j ∧ ∀ j', j' < j → ¬ Rch (Adj l) k j') (fun s6 => N - (intOf s6).toNat)
      case atStart => exact ⟨0, by omega, rfl, fun j' h => by omega⟩
      case round =>
        obtain ⟨j, hj, rfl, hno⟩ := hrel
        have hm := HM.out.below HB.out
        obtain ⟨g, rfl, _, _, _, e1, _, _, hc1⟩ := hm.at_ (i := k) (by rw [HP.out]; exact hlt)
        obtain ⟨d1, _⟩ := hc1 j (by omega)
        have hdi := HDI.out k j hlt (by omega)
        have hdk := HDI.out k k hlt hlt
        obtain ⟨p, hp⟩ : ∃ p, p = pAt P k := ⟨_, rfl⟩
        obtain ⟨x, hx⟩ : ∃ x, x = M k j := ⟨_, rfl⟩
        rw [← hp] at e1 d1
        rw [← hx] at d1 hdi
        have HNO := Lib.hid hno
        have HDI2 := Lib.hid hdi
        have HDK := Lib.hid hdk
        clear hc1 hm hdi hno hdk hp hx
        by_cases hneg : x < 0
        · have hjk : j ≠ k := fun e => by
            subst e
            have := HDK.out.same HDI2.out
            have := HDK.out.pos.2 ⟨0, .start⟩
            omega
          go_wp2_with fail
          go_round
          case rel => exact ⟨j + 1, by omega, by go_num, fun j' h => by
            rcases Nat.lt_succ_iff_lt_or_eq.1 h with h | h
            · exact HNO.out j' h
            · subst h
              intro hr
              have := HDI2.out.pos.2 hr
              omega⟩
          case measure => simp [intOf]; omega
        · have HIP : Hid (IsPart l L.length j) := Lib.hid (by rw [HLK.out]; exact ⟨HDI2.out.pos.1 (by omega), HNO.out⟩)
          go_wp2_with (at_builtin; go_loud (refine wpList_push rfl _ _ _ rfl v1.heap.size 1 3 (.int .i64 0) 8 Tryd.underlying40 (by kernel_rfl) rfl (by omega) icell wr #[.int .i64 j] A2 k c2 L HLK.out rfl HO.out 1 [(j : Int)] rfl rfl _ rfl rfl (by simp [Value.oneCell']) (by unfold maxLen; omega) (by omega) hs ?_; intro A4 cap4 w4 hown4 hgrow4 hloc4))
          go_roundw
          case rel => exact ⟨k + 1, A4, cap4, L ++ [(j : Int)], by omega, by go_num, rfl, by rw [List.length_append, HLK.out]; rfl, HPL.out.snoc HIP.out, (HB.out.alloc hs _).grown hgrow4 (by rw [size_alloc']; exact Nat.le_succ_of_le hs) (fun g hg => (HO.out.lt g hg).1), hown4⟩
          case measure => simp [intOf]; omega
    · obtain rfl : k = N := by omega
      go_wp2_with fail
      go_ret
      exact ⟨A2, c2, L, rfl, HB1.out.trans (HB.out.mono HB1.out.size), HLK.out, HPL.out, HO.out.els, by have := HO.out.cap_le; rw [HLK.out] at this; exact this⟩
theorem ref_Parts (N : Nat) (A : Option Addr) (n c : Nat) (l : List Ed) (w : World) (hl : l.length = n) (hg : GoodG N l) (hr : Els w w.heap.size 3 Ed.cells A l) :
    Calls Tryd.prog 15 #[.agg #[.int .i64 N, .slice A n c]] w fun e w' => ∃ A2 c2 L, e = .returned (.slice A2 N c2) ∧ Below w.heap.size w w' ∧ L.length = N ∧ PartsL l L ∧ Els w' w'.heap.size 1 icell A2 L := by
  refine (ref_PartsC N A n c l w hl hg hr).mono ?_
  rintro e w' ⟨A2, c2, L, h1, h2, h3, h4, h5, _⟩
  exact ⟨A2, c2, L, h1, h2, h3, h4, h5⟩
end Go.Proofs.YtbbdiondhnmnaaaDoor
