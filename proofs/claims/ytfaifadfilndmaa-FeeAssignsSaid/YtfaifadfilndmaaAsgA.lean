/- How many bits a small number has; what fees are told to be wrong. Conditions: the rows read as lists. -/
import Derived.Test.YtfaifadfilndmaaAsgP
import Derived.Test.YtfaifadfilndmaaIdxG
import Derived.Test.YtfaifadfilndmaaWishA
namespace Go.Proofs.Ytfaifadfilndmaa
open Go.RowKit

set_option maxRecDepth 100000 in
theorem OnesCount64_small (x : Nat) (hx : x < 256) (w : World) : Calls Try.prog 54 #[.int .u64 (x : Int)] w fun e w' => e = .returned (.int .i64 (pop8 x : Nat)) ∧ w' = w := by
  go_enter Try.func54, Try.ntmps54
  go_wp2_with fail
  go_ret
  refine ⟨congrArg (fun z => Ending.returned (.int .i64 z)) ?_, rfl⟩
  clear w
  revert x
  decide +kernel
theorem wrap_u64 (x : Nat) (hx : x < 256) : IntKind.u64.wrap (x : Int) = (x : Int) := by
  revert x
  decide +kernel
set_option maxRecDepth 100000 in
theorem OnesCount_small (x : Nat) (hx : x < 256) (w : World) : Calls Try.prog 26 #[.int .u64 (x : Int)] w fun e w' => e = .returned (.int .i64 (pop8 x : Nat)) ∧ w' = w := by
  have H := Lib.hid (OnesCount64_small x hx w)
  go_enter Try.func26, Try.ntmps26
  go_wp2_with fail
  refine H.out.mono ?_
  rintro e w' ⟨rfl, rfl⟩
  go_wp2_with fail
  go_ret
  exact ⟨rfl, rfl⟩

def feeBad (x : Int) : Bool := decide (1048576 < x) || decide (x < -1048576)
def feesCheck (ls : List (Sls Int)) : Int := if 8 < ls.length then 1 else if ls.any (fun s => s.l.length != ls.length) then 3 else if ls.any (fun s => s.l.any feeBad) then 4 else 0
theorem bne_cast (a b : Nat) : ((a : Int) != (b : Int)) = (a != b) := by
  rw [Bool.eq_iff_iff]
  simp
  omega
theorem ent_grid1 : Ent Try.prog 50 := ent_of Try.func50 (by kernel_rfl) rfl
theorem ent_grid2 : Ent Try.prog 52 := ent_of Try.func52 (by kernel_rfl) rfl
theorem fee_grid1 (s : Sls Int) (A : Option Addr) (n c g : Nat) (w : World) (h : Blk w g 22 #[.slice A n c]) :
    Calls Try.prog 50 #[s.val, .pointer (some ⟨g, 0, none⟩)] w fun e w' => e = .returned (.bool (s.l.length != n)) ∧ w = w' := by
  have c0 := h.cell 0
  clear h
  obtain ⟨A2, c2, l⟩ := s
  show Calls _ _ #[.slice A2 l.length c2, _] _ _
  have HE := Lib.hid (bne_cast l.length n)
  go_enter Try.func50, Try.ntmps50
  go_wp2_with fail
  go_ret
  exact ⟨ret_bool (by first | exact HE.out | exact HE.out.symm), rfl⟩
theorem fee_grid2 (x : Int) (w : World) :
    Calls Try.prog 52 #[.int .i64 x] w fun e w' => e = .returned (.bool (feeBad x)) ∧ w = w' := by
  by_cases h0 : 1048576 < x
  · have HE : Hid (feeBad x = true) := by show feeBad x = true; simp [feeBad, h0]
    go_enter Try.func52, Try.ntmps52
    go_wp2_with fail
    go_ret
    exact ⟨ret_bool (by rw [HE.out]), rfl⟩
  · have HE : Hid (feeBad x = decide (x < -1048576)) := by show feeBad x = _; simp [feeBad, h0]
    go_enter Try.func52, Try.ntmps52
    go_wp2_with fail
    go_ret
    exact ⟨ret_bool (by rw [HE.out]), rfl⟩

set_option maxRecDepth 100000 in
theorem fee_grid (ls : List (Sls Int)) (A : Option Addr) (n c : Nat) (w : World) (hl : ls.length = n) (hn : n ≤ maxLen) (hr : Els w w.heap.size 1 rcell A ls) (hg : ∀ s ∈ ls, s.Good w w.heap.size 1 icell OkI) :
    Calls Try.prog 25 #[.slice A n c] w fun e w' => e = .returned (.int .i64 (feesCheck ls)) ∧ Below w.heap.size w w' := by
  have HN : Hid (feesCheck ls = if 8 < n then 1 else if ls.any (fun s => s.l.length != n) then 3 else if ls.any (fun s => s.l.any feeBad) then 4 else 0) := by subst hl; rfl
  obtain ⟨V, hV⟩ : ∃ V, V = w.alloc (.cells #[.slice A n c] 22) := ⟨_, rfl⟩
  have hb : Below w.heap.size w V := by rw [hV]; exact (Below.refl w.heap.size w).alloc (Nat.le_refl _) _
  have hk : Blk V w.heap.size 22 #[.slice A n c] := by rw [hV]; exact Blk.new _ _ _
  have hz : V.heap.size = w.heap.size + 1 := by rw [hV, size_alloc']
  have HC := Lib.hid (ContainsFunc_grid 50 ent_grid1 #[.pointer (some ⟨w.heap.size, 0, none⟩)] (fun s => s.l.length != n) A n c ls V hl hn ((hr.below hb).more (by omega))
    (fun a wx _ hb => by
      have h := hk.below hb (by omega)
      simpa using (fee_grid1 a A n c _ wx h).mono fun e w' ⟨he, hw⟩ => ⟨he, by subst hw; exact Below.refl _ _⟩))
  have HL := Lib.hid hl
  have HV := Lib.hid hV
  have HB := Lib.hid hb
  have HK := Lib.hid hk
  have HR := Lib.hid hr
  have HG := Lib.hid hg
  have HM := Lib.hid hn
  unfold maxLen at hn
  have c0 := hk.cell 0
  clear hl hV hb hk hr hg
  by_cases h8 : 8 < n
  · have HM := Lib.hid (HN.out.trans (if_pos h8))
    go_enter Try.func25, Try.ntmps25
    go_wp2_with fail
    go_ret
    exact ⟨ret_i64 (by rw [HM.out]), by rw [← HV.out]; exact HB.out⟩
  have HN2 := Lib.hid (HN.out.trans (if_neg h8))
  clear HN
  go_enter Try.func25, Try.ntmps25
  go_wp2_with fail
  rw [← HV.out]
  refine HC.out.mono ?_
  clear HC
  rintro e w1 ⟨rfl, hb1⟩
  have hk1 := HK.out.below hb1 (by omega)
  have hbw := HB.out.trans (hb1.mono (by omega))
  have HBW := Lib.hid hbw
  have c1 := hk1.cell 0
  have hzw := hbw.size
  clear hk1 hb1 hbw c0
  rcases ha : ls.any (fun s => s.l.length != n) with _ | _
  · have HA := Lib.hid ha
    clear ha
    go_wp2_with fail
    go_loopw [13] (fun i wr => ∃ k : Nat, k ≤ n ∧ i = .int .i64 k ∧ Below w.heap.size w wr ∧ (ls.take k).any (fun s => s.l.any feeBad) = false) (fun i _ => n - (intOf i).toNat)
    case atStart => exact ⟨0, by omega, rfl, HBW.out, rfl⟩
    case round =>
      obtain ⟨k, hk, rfl, hb, hno⟩ := hrel
      have HQ := Lib.hid hno
      have HB := Lib.hid hb
      have hzr := hb.size
      clear hno
      by_cases hlt : k < n
      · have hkl : k < ls.length := by rw [HL.out]; exact hlt
        obtain ⟨b, off, rfl, hbb, g0⟩ := (HR.out.below hb).at1 hkl
        have hgood := HG.out ls[k] (List.getElem_mem hkl)
        obtain ⟨s, hs⟩ : ∃ s, s = ls[k] := ⟨_, rfl⟩
        rw [← hs] at g0 hgood
        have HS := Lib.hid hs
        clear hs
        obtain ⟨A2, c2, l⟩ := s
        obtain ⟨hm2, _, hr2, _⟩ := hgood
        dsimp only [Sls.val] at g0 hm2 hr2
        have HCC := Lib.hid (ContainsFunc_longs 52 ent_grid2 #[] feeBad A2 l.length c2 l wr rfl hm2 ((hr2.below hb).more hzr) (fun a wx _ _ => by simpa using (fee_grid2 a wx).mono fun e w' ⟨he, hw⟩ => ⟨he, by subst hw; exact Below.refl _ _⟩))
        unfold maxLen at hm2
        clear hb hr2
        rcases hf : l.any feeBad with _ | _
        · have HF := Lib.hid hf
          clear hf
          go_wp2_with fail
          refine HCC.out.mono ?_
          clear HCC
          rintro e w2 ⟨rfl, hb2⟩
          rw [HF.out]
          have HB2 := Lib.hid (HB.out.trans (hb2.mono hzr))
          clear hb2
          go_wp2_with fail
          go_roundw
          case rel => exact ⟨k + 1, by omega, by go_num, HB2.out, by rw [any_take_succ _ _ _ hkl, HQ.out, ← HS.out, HF.out]; rfl⟩
          case measure => simp [intOf]; omega
        · have HF := Lib.hid hf
          clear hf
          go_wp2_with fail
          refine HCC.out.mono ?_
          clear HCC
          rintro e w2 ⟨rfl, hb2⟩
          rw [HF.out]
          have HB2 := Lib.hid (HB.out.trans (hb2.mono hzr))
          clear hb2
          go_wp2_with fail
          go_ret
          exact ⟨ret_i64 (by rw [HN2.out, HA.out, any_of_get (p := fun s : Sls Int => s.l.any feeBad) hkl (by rw [← HS.out]; exact HF.out)]; rfl), HB2.out⟩
      · clear hb
        go_wp2_with fail
        go_ret
        exact ⟨ret_i64 (by rw [HN2.out, HA.out, any_take_all (by rw [HL.out]; omega) HQ.out]; rfl), HB.out⟩
  · have HA := Lib.hid ha
    clear ha
    go_wp2_with fail
    go_ret
    exact ⟨ret_i64 (by rw [HN2.out, HA.out]; rfl), HBW.out⟩

set_option maxRecDepth 100000 in
theorem ref_FeesCheck (ls : List (Sls Int)) (A : Option Addr) (n c : Nat) (w : World) (hl : ls.length = n) (hn : n ≤ maxLen) (hr : Els w w.heap.size 1 rcell A ls) (hg : ∀ s ∈ ls, s.Good w w.heap.size 1 icell OkI) :
    Calls Try.prog 9 #[.slice A n c] w fun e w' => e = .returned (.int .i64 (feesCheck ls)) ∧ w = w' := by
  have HN : Hid (feesCheck ls = if 8 < n then 1 else if ls.any (fun s => s.l.length != n) then 3 else if ls.any (fun s => s.l.any feeBad) then 4 else 0) := by subst hl; rfl
  have HL := Lib.hid hl
  have HG := Lib.hid hg
  unfold maxLen at hn
  clear hl hg
  by_cases h8 : 8 < n
  · have HM := Lib.hid (HN.out.trans (if_pos h8))
    go_enter Try.func9, Try.ntmps9
    go_wp2_with fail
    go_ret
    exact ⟨ret_i64 (by rw [HM.out]), rfl⟩
  have HN2 := Lib.hid (HN.out.trans (if_neg h8))
  clear HN
  go_enter Try.func9, Try.ntmps9
  go_wp2_with fail
  go_loop [14] (fun i => ∃ k : Nat, k ≤ n ∧ i = .int .i64 k ∧ (ls.take k).any (fun s => s.l.length != n) = false) (fun i => n - (intOf i).toNat)
  case atStart => exact ⟨0, by omega, rfl, rfl⟩
  case round =>
    obtain ⟨k, hk, rfl, hno⟩ := hrel
    have HQ := Lib.hid hno
    clear hno
    by_cases hlt : k < n
    · have hkl : k < ls.length := by rw [HL.out]; exact hlt
      obtain ⟨b, off, rfl, hbb, g0⟩ := hr.at1 hkl
      obtain ⟨s, hs⟩ : ∃ s, s = ls[k] := ⟨_, rfl⟩
      rw [← hs] at g0
      have HS := Lib.hid hs
      clear hs
      obtain ⟨A2, c2, l⟩ := s
      dsimp only [Sls.val] at g0
      by_cases hf : l.length = n
      · have hf2 : ((l.length : Int) != (n : Int)) = false := by rw [bne_cast, hf]; simp
        have HF : Hid ((l.length != n) = false) := by show (l.length != n) = false; rw [hf]; simp
        clear hf
        go_wp2_with fail
        go_round
        case rel => exact ⟨k + 1, by omega, by go_num, by rw [any_take_succ _ _ _ hkl, HQ.out, ← HS.out]; exact HF.out⟩
        case measure => simp [intOf]; omega
      · have hf2 : ((l.length : Int) != (n : Int)) = true := by rw [bne_cast]; simpa using hf
        have HF : Hid ((l.length != n) = true) := by show (l.length != n) = true; simpa using hf
        clear hf
        go_wp2_with fail
        go_ret
        exact ⟨ret_i64 (by rw [HN2.out, if_pos (any_of_get (p := fun s : Sls Int => s.l.length != n) hkl (by rw [← HS.out]; exact HF.out))]), rfl⟩
    · have HA : Hid (ls.any (fun s => s.l.length != n) = false) := Lib.hid (any_take_all (by rw [HL.out]; omega) HQ.out)
      clear HQ
      go_wp2_with fail
      go_loop [26] (fun i => ∃ k : Nat, k ≤ n ∧ i = .int .i64 k ∧ (ls.take k).any (fun s => s.l.any feeBad) = false) (fun i => n - (intOf i).toNat)
      case atStart => exact ⟨0, by omega, rfl, rfl⟩
      case round =>
        obtain ⟨k, hk, rfl, hno⟩ := hrel
        have HQ := Lib.hid hno
        clear hno
        by_cases hlt : k < n
        · have hkl : k < ls.length := by rw [HL.out]; exact hlt
          obtain ⟨b, off, rfl, hbb, g0⟩ := hr.at1 hkl
          have hgood := HG.out ls[k] (List.getElem_mem hkl)
          obtain ⟨s, hs⟩ : ∃ s, s = ls[k] := ⟨_, rfl⟩
          rw [← hs] at g0 hgood
          have HS := Lib.hid hs
          clear hs
          obtain ⟨A2, c2, l⟩ := s
          obtain ⟨hm2, _, hr2, _⟩ := hgood
          dsimp only [Sls.val] at g0 hm2 hr2
          unfold maxLen at hm2
          obtain ⟨n2, hn2⟩ : ∃ n2, n2 = l.length := ⟨_, rfl⟩
          rw [← hn2] at g0 hm2
          have HN3 := Lib.hid hn2
          clear hn2
          go_wp2_with fail
          go_loop [32] (fun j => ∃ q : Nat, q ≤ n2 ∧ j = .int .i64 q ∧ (l.take q).any feeBad = false) (fun j => n2 - (intOf j).toNat)
          case atStart => exact ⟨0, by omega, rfl, rfl⟩
          case round =>
            obtain ⟨q, hq, rfl, hno⟩ := hrel
            have HQQ := Lib.hid hno
            clear hno
            by_cases hlq : q < n2
            · have hql : q < l.length := by rw [← HN3.out]; exact hlq
              obtain ⟨b2, off2, rfl, hbb2, g2⟩ := hr2.at1 hql
              obtain ⟨x, hx⟩ : ∃ x, x = l[q] := ⟨_, rfl⟩
              rw [← hx] at g2
              have HX := Lib.hid hx
              clear hx
              have hbad : feeBad x = true → feesCheck ls = 4 := fun h => by
                have h1 : l.any feeBad = true := any_of_get hql (by rw [← HX.out]; exact h)
                rw [HN2.out, HA.out, any_of_get (p := fun s : Sls Int => s.l.any feeBad) hkl (by rw [← HS.out]; exact h1)]
                rfl
              have HB := Lib.hid hbad
              clear hbad
              by_cases h0 : x < -1048576
              · go_wp2_with fail
                go_ret
                exact ⟨ret_i64 (by rw [HB.out (by simp [feeBad, h0])]), rfl⟩
              · by_cases h1 : 1048576 < x
                · go_wp2_with fail
                  go_ret
                  exact ⟨ret_i64 (by rw [HB.out (by simp [feeBad, h1])]), rfl⟩
                · have HF : Hid (feeBad x = false) := by show feeBad x = false; unfold feeBad; simp; omega
                  go_wp2_with fail
                  go_round
                  case rel => exact ⟨q + 1, by omega, by go_num, by rw [any_take_succ _ _ _ hql, HQQ.out, ← HX.out, HF.out]; rfl⟩
                  case measure => simp [intOf]; omega
            · have HF : Hid (l.any feeBad = false) := Lib.hid (any_take_all (by rw [← HN3.out]; omega) HQQ.out)
              go_wp2_with fail
              go_round
              case rel => exact ⟨k + 1, by omega, by go_num, by rw [any_take_succ _ _ _ hkl, HQ.out, ← HS.out, HF.out]; rfl⟩
              case measure => simp [intOf]; omega
        · go_wp2_with fail
          go_ret
          exact ⟨ret_i64 (by rw [HN2.out, HA.out, any_take_all (by rw [HL.out]; omega) HQ.out]; rfl), rfl⟩
end Go.Proofs.Ytfaifadfilndmaa
