/- What a pairing is told to be wrong; does it hold: the program and the reference. Conditions: the lists read as lists. -/
import Derived.Test.YtiglpcodahkhnaaHoldB
namespace Go.Proofs.Ytiglpcodahkhnaa
open Go.RowKit
attribute [local go_sem ↓] s_and s_or s_but s_and1 s_shr s_shl1
attribute [local go_sem] s_eq0 s_ne0 s_eq1

def badQ (n : Nat) (l : List Int) (k : Nat) : Bool := decide (l.getD k 0 < -1) || decide ((n : Int) ≤ l.getD k 0) || (decide (0 ≤ l.getD k 0) && hasB (l.take k) (l.getD k 0))
def pairCheck (n : Nat) (l : List Int) : Int := if l.length ≠ n then 3 else if (List.range n).any (badQ n l) then 2 else 0
def seenQ (l : List Int) : Nat → BitVec 32
  | 0 => w0
  | k + 1 => if 0 ≤ l.getD k 0 then wOr (seenQ l k) (wShl w1 (l.getD k 0).toNat) else seenQ l k
theorem seenQ_bit (l : List Int) (m : Nat) (hm : m < 32) : ∀ (k : Nat), k ≤ l.length → (seenQ l k).getLsbD m = hasB (l.take k) m
  | 0, _ => by simp [seenQ, b_0, hasB]
  | k + 1, hk => by
    have ih := seenQ_bit l m hm k (by omega)
    unfold hasB at ih ⊢
    rw [seenQ, any_take_succ _ _ _ (by omega), ← getD_at l k (by omega) 0]
    generalize l.getD k 0 = x
    by_cases h : 0 ≤ x
    · rw [if_pos h, b_or, ih, b_one]
      congr 1
      rw [Bool.eq_iff_iff]
      simp [hm]
      omega
    · rw [if_neg h, ih]
      have : ((m : Int) == x) = false := by simp; omega
      rw [this, Bool.or_false]
theorem owner_first {l : List Int} {k : Nat} (hk : k < l.length) : (idxI (l.getD k 0) l != (k : Int)) = hasB (l.take k) (l.getD k 0) := by
  have hx := getD_at l k hk 0
  cases hh : hasB (l.take k) (l.getD k 0) with
  | false =>
    have : idxI (l.getD k 0) l = k := idxF_at hk hh (by rw [hx]; simp)
    rw [this]
    simp
  | true =>
    unfold hasB at hh
    rw [List.any_eq_true] at hh
    obtain ⟨y, hy, he⟩ := hh
    obtain ⟨i, hi, rfl⟩ := List.mem_take_iff_getElem.1 hy
    have hi' : i < l.length := by omega
    have hik : i < k := by omega
    have hany : l.any (fun y => l.getD k 0 == y) = true := by
      rw [List.any_eq_true]
      exact ⟨l[i], List.getElem_mem hi', he⟩
    have hle : l.findIdx (fun y => l.getD k 0 == y) ≤ i := by
      refine Nat.le_of_not_lt fun hlt => ?_
      have := List.not_of_lt_findIdx hlt
      rw [he] at this
      cases this
    unfold idxI idxF
    rw [if_pos hany, bne_iff_ne]
    omega
theorem badQ_ref {n : Nat} {l : List Int} {k : Nat} (hk : k < l.length) : badQ n l k = (decide (l.getD k 0 < -1) || decide ((n : Int) ≤ l.getD k 0) || (decide (0 ≤ l.getD k 0) && (idxI (l.getD k 0) l != (k : Int)))) := by
  unfold badQ
  rw [owner_first hk]
theorem pair_ok {n : Nat} {l : List Int} (h : pairCheck n l = 0) : PairOk n l := by
  unfold pairCheck at h
  split at h
  · omega
  · split at h
    · omega
    · rename_i h1 h2
      have h1 : l.length = n := by omega
      refine ⟨h1, fun i hi => ?_⟩
      have := List.any_eq_false.1 (by simpa using h2) i (List.mem_range.2 hi)
      unfold badQ at this
      rw [Bool.not_eq_true, Bool.or_eq_false_iff, Bool.or_eq_false_iff, decide_eq_false_iff_not, decide_eq_false_iff_not] at this
      omega

set_option maxRecDepth 100000 in
set_option maxHeartbeats 1000000 in
theorem ref_PairingCheck (AL AR A : Option Addr) (n cL nR cR m c : Nat) (l : List Int) (w : World) (hl : l.length = m) (hm : m ≤ maxLen) (hn : n ≤ 8) (hr : Els w w.heap.size 1 icell A l) :
    Calls Try.prog 43 #[.agg #[.slice AL n cL, .slice AR nR cR], .slice A m c] w fun e w' => e = .returned (.int .i64 (pairCheck n l)) ∧ Below w.heap.size w w' := by
  unfold maxLen at hm
  have hblk := Blk.new w 79 #[.slice AL n cL, .slice AR nR cR]
  have hbox := (Below.refl w.heap.size w).alloc (Nat.le_refl _) (.cells #[.slice AL n cL, .slice AR nR cR] 79)
  have HP : Hid (pairCheck n l = if m ≠ n then 3 else if (List.range n).any (badQ n l) then 2 else 0) := Lib.hid (by unfold pairCheck; rw [hl])
  have HL := Lib.hid hl
  have HE := Lib.hid (hr.below hbox)
  have HB := Lib.hid hbox
  have c0 := hblk.cell 0
  clear hl hr hbox hblk
  by_cases hmn : m = n
  · subst hmn
    have hne : ((m : Int) != (m : Int)) = false := by simp
    have HP2 : Hid (pairCheck m l = if (List.range m).any (badQ m l) then 2 else 0) := Lib.hid (by rw [HP.out, if_neg (by omega)])
    clear HP
    obtain ⟨V, hV⟩ : ∃ V, V = w.alloc (.cells #[.slice AL m cL, .slice AR nR cR] 79) := ⟨_, rfl⟩
    go_enter Try.func43, Try.ntmps43
    go_wp2_with fail
    rw [← hV] at c0 HE HB ⊢
    clear hV
    go_loop [15] (fun s => ∃ k : Nat, k ≤ m ∧ s = .int .i64 k ∧ (List.range k).any (badQ m l) = false) (fun s => m - (intOf s).toNat)
    case atStart => exact ⟨0, by omega, rfl, rfl⟩
    case round =>
      obtain ⟨k, hk, rfl, hno⟩ := hrel
      by_cases hlt : k < m
      · have hkl : k < l.length := by rw [HL.out]; exact hlt
        obtain ⟨b, off, rfl, hbb, g0⟩ := HE.out.at1 (f := fun x => .int .i64 x) (k := k) hkl
        rw [← getD_at l k hkl 0] at g0
        have HF : Hid (badQ m l k = true → pairCheck m l = 2) := Lib.hid (fun h => by rw [HP2.out, if_pos (any_range_of hlt h)])
        have HG : Hid (badQ m l k = false → (List.range (k + 1)).any (badQ m l) = false) := Lib.hid (fun h => by rw [any_range_succ, hno, h]; rfl)
        have HD := Lib.hid (badQ_ref (n := m) hkl)
        have HO := Lib.hid (ref_owner (l.getD k 0) (some ⟨b, off, none⟩) m c l w.heap.size V HL.out (by unfold maxLen; omega) HE.out)
        obtain ⟨x, hx⟩ : ∃ x, x = l.getD k 0 := ⟨_, rfl⟩
        rw [← hx] at g0 HD HO
        clear hno hx
        by_cases h1 : x < -1
        · have HN := Lib.hid (HF.out (by rw [HD.out, decide_eq_true h1]; rfl))
          go_wp2_with fail
          go_ret
          exact ⟨ret_i64 HN.out.symm, HB.out⟩
        · by_cases h2 : (m : Int) ≤ x
          · have HN := Lib.hid (HF.out (by rw [HD.out, decide_eq_false h1, decide_eq_true h2]; rfl))
            go_wp2_with fail
            go_ret
            exact ⟨ret_i64 HN.out.symm, HB.out⟩
          · by_cases h3 : 0 ≤ x
            · generalize idxI x l = o at HD HO
              rcases bool_cases (o != (k : Int)) with h4 | h4
              · have HN := Lib.hid (HG.out (by rw [HD.out, decide_eq_false h1, decide_eq_false h2, h4]; simp))
                go_wp2_with fail
                refine HO.out.mono ?_
                rintro e w' ⟨rfl, rfl⟩
                go_wp2_with fail
                go_round
                case rel => exact ⟨k + 1, by omega, by go_num, HN.out⟩
                case measure => simp [intOf]; omega
              · have HN := Lib.hid (HF.out (by rw [HD.out, decide_eq_false h1, decide_eq_false h2, h4, decide_eq_true h3]; rfl))
                go_wp2_with fail
                refine HO.out.mono ?_
                rintro e w' ⟨rfl, rfl⟩
                go_wp2_with fail
                go_ret
                exact ⟨ret_i64 HN.out.symm, HB.out⟩
            · have HN := Lib.hid (HG.out (by rw [HD.out, decide_eq_false h1, decide_eq_false h2, decide_eq_false h3]; rfl))
              go_wp2_with fail
              go_round
              case rel => exact ⟨k + 1, by omega, by go_num, HN.out⟩
              case measure => simp [intOf]; omega
      · obtain rfl : k = m := by omega
        go_wp2_with fail
        go_ret
        exact ⟨ret_i64 (by rw [HP2.out, hno]; rfl), HB.out⟩
  · have hne : ((m : Int) != (n : Int)) = true := by simp; omega
    go_enter Try.func43, Try.ntmps43
    go_wp2_with fail
    go_ret
    exact ⟨ret_i64 (by rw [HP.out, if_pos hmn]), HB.out⟩

def holdCode (L R : List (Sls Int)) (l : List Int) : Int := if wishCheck L R = 0 then pairCheck L.length l else wishCheck L R
def holdVal (L R : List (Sls Int)) (l : List Int) : Bool := if holdCode L R l = 0 then holdP L R l else false
theorem hold_res {L R : List (Sls Int)} {l : List Int} {n : Nat} {x : Int} {v : Bool} (hL : L.length = n) (h0 : wishCheck L R = 0) (hx : pairCheck n l = x) (hv : v = if x = 0 then holdP L R l else false) : v = holdVal L R l ∧ x = holdCode L R l := by
  have hc : holdCode L R l = x := by unfold holdCode; rw [if_pos h0, hL, hx]
  exact ⟨by unfold holdVal; rw [hc, hv], hc.symm⟩
theorem hold_bad {L R : List (Sls Int)} {l : List Int} (h0 : wishCheck L R ≠ 0) : holdVal L R l = false ∧ holdCode L R l = wishCheck L R := by
  have hc : holdCode L R l = wishCheck L R := by unfold holdCode; rw [if_neg h0]
  exact ⟨by unfold holdVal; rw [hc, if_neg h0], hc⟩
set_option maxRecDepth 100000 in
set_option maxHeartbeats 1000000 in
theorem wish_Holds (AL AR A : Option Addr) (nL cL nR cR m c : Nat) (L R : List (Sls Int)) (l : List Int) (w : World) (hL : L.length = nL) (hR : R.length = nR) (hnL : nL ≤ maxLen) (hnR : nR ≤ maxLen) (hl : l.length = m) (hm : m ≤ maxLen)
    (hrL : Els w w.heap.size 1 rcell AL L) (hgL : ∀ s ∈ L, s.Good w w.heap.size 1 icell OkI) (hrR : Els w w.heap.size 1 rcell AR R) (hgR : ∀ s ∈ R, s.Good w w.heap.size 1 icell OkI) (hr : Els w w.heap.size 1 icell A l) :
    Calls Try.prog 41 #[.agg #[.slice AL nL cL, .slice AR nR cR], .slice A m c] w fun e w' => e = .returned (.tuple #[.bool (holdVal L R l), .int .i64 (holdCode L R l)]) ∧ Below w.heap.size w w' := by
  have hblk := Blk.new w 79 #[.slice AL nL cL, .slice AR nR cR]
  have hbox := (Below.refl w.heap.size w).alloc (Nat.le_refl _) (.cells #[.slice AL nL cL, .slice AR nR cR] 79)
  have hgood : ∀ (W : World) (ls : List (Sls Int)), Below w.heap.size w W → (∀ s ∈ ls, s.Good w w.heap.size 1 icell OkI) → (∀ s ∈ ls, s.Good W W.heap.size 1 icell OkI) := fun W ls hb h s hs =>
    ⟨(h s hs).1, (h s hs).2.1, ((h s hs).2.2.1.below hb).more hb.size, (h s hs).2.2.2⟩
  have HCK := Lib.hid (wish_Check AL AR nL cL nR cR L R (w.alloc (.cells #[.slice AL nL cL, .slice AR nR cR] 79)) hL hR hnL hnR ((hrL.below hbox).more hbox.size) (hgood _ L hbox hgL) ((hrR.below hbox).more hbox.size) (hgood _ R hbox hgR))
  have HG := Lib.hid hgood
  have HLL := Lib.hid hL
  have HLR := Lib.hid hR
  have HL := Lib.hid hl
  have HRL := Lib.hid hrL
  have HRR := Lib.hid hrR
  have HGL := Lib.hid hgL
  have HGR := Lib.hid hgR
  have HE := Lib.hid hr
  have HB0 := Lib.hid hbox
  have HK0 := Lib.hid hblk
  have c0 := hblk.cell 0
  have c1 := hblk.cell 1
  unfold maxLen at hnL hnR hm
  clear hblk hbox hgood hL hR hl hrL hrR hgL hgR hr
  go_enter Try.func41, Try.ntmps41
  go_wp2_with fail
  refine HCK.out.mono ?_
  clear HCK
  rintro e v1 ⟨rfl, hb1⟩
  have hk1 := HK0.out.below hb1 (by rw [size_alloc']; omega)
  have hB1 := HB0.out.trans (hb1.mono (by rw [size_alloc']; omega))
  have hz1 := hB1.size
  have HB1 := Lib.hid hB1
  clear c0 c1 hb1
  have c0 := hk1.cell 0
  have c1 := hk1.cell 1
  by_cases h0 : wishCheck L R = 0
  · have H0 := Lib.hid h0
    obtain ⟨g1, g2⟩ := wish_good h0
    rw [HLL.out] at g1 g2
    have hRn : nR = nL := by rw [← HLR.out, g2.len]
    subst hRn
    have hn8 := g1.n8
    have HG1 := Lib.hid g1
    have HG2 := Lib.hid g2
    have HE1 := Lib.hid ((HE.out.below hB1).more hz1)
    rw [h0]
    clear h0 g1 g2 hB1 hk1
    by_cases hmn : m = nR
    · subst hmn
      have hne : ((m : Int) != (m : Int)) = false := by simp
      have HP2 : Hid (pairCheck m l = if (List.range m).any (badQ m l) then 2 else 0) := Lib.hid (by unfold pairCheck; rw [HL.out, if_neg (by omega)])
      go_wp2_with fail
      go_loop [8, 25] (fun z s => ∃ k : Nat, k ≤ m ∧ s = .int .i64 k ∧ z = .int .i64 (sN (seenQ l k)) ∧ (List.range k).any (badQ m l) = false) (fun _ s => m - (intOf s).toNat)
      case atStart => exact ⟨0, by omega, rfl, rfl, rfl⟩
      case round =>
        obtain ⟨k, hk, rfl, rfl, hno⟩ := hrel
        by_cases hlt : k < m
        · have hkl : k < l.length := by rw [HL.out]; exact hlt
          obtain ⟨b, off, rfl, hbb, g0⟩ := HE1.out.at1 (f := fun x => .int .i64 x) (k := k) hkl
          rw [← getD_at l k hkl 0] at g0
          have HF : Hid (badQ m l k = true → pairCheck m l = 2) := Lib.hid (fun h => by rw [HP2.out, if_pos (any_range_of hlt h)])
          have HGG : Hid (badQ m l k = false → (List.range (k + 1)).any (badQ m l) = false) := Lib.hid (fun h => by rw [any_range_succ, hno, h]; rfl)
          have HD : Hid (badQ m l k = (decide (l.getD k 0 < -1) || decide ((m : Int) ≤ l.getD k 0) || (decide (0 ≤ l.getD k 0) && hasB (l.take k) (l.getD k 0)))) := Lib.hid rfl
          have HSN : Hid (seenQ l (k + 1) = if 0 ≤ l.getD k 0 then wOr (seenQ l k) (wShl w1 (l.getD k 0).toNat) else seenQ l k) := Lib.hid rfl
          have hsb := seenQ_bit l
          have HSB := Lib.hid hsb
          obtain ⟨x, hx⟩ : ∃ x, x = l.getD k 0 := ⟨_, rfl⟩
          rw [← hx] at g0 HD HSN
          clear hno hx hsb
          by_cases h1 : x < -1
          · have HN := Lib.hid (HF.out (by rw [HD.out, decide_eq_true h1]; rfl))
            go_wp2_with fail
            refine bodyPost_ret (v := .tuple #[.bool false, .int .i64 2]) (by simp [results, Try.results41, go_sem]) rfl ?_
            exact ⟨by rw [← (hold_res HLL.out H0.out HN.out (v := false) rfl).1, ← (hold_res HLL.out H0.out HN.out (v := false) rfl).2], HB1.out⟩
          · by_cases h2 : (m : Int) ≤ x
            · have HN := Lib.hid (HF.out (by rw [HD.out, decide_eq_false h1, decide_eq_true h2]; rfl))
              go_wp2_with fail
              refine bodyPost_ret (v := .tuple #[.bool false, .int .i64 2]) (by simp [results, Try.results41, go_sem]) rfl ?_
              exact ⟨by rw [← (hold_res HLL.out H0.out HN.out (v := false) rfl).1, ← (hold_res HLL.out H0.out HN.out (v := false) rfl).2], HB1.out⟩
            · by_cases h3 : 0 ≤ x
              · have hx32 : x < 32 := by omega
                have hbit : (wAnd (wShr (seenQ l k) x.toNat) w1 == w1) = hasB (l.take k) x := by
                  rw [shr_and1, HSB.out x.toNat (by omega) k (by omega), Int.toNat_of_nonneg h3]
                have hS : seenQ l (k + 1) = wOr (seenQ l k) (wShl w1 x.toNat) := by rw [HSN.out, if_pos h3]
                have HS := Lib.hid hS
                clear hS
                rcases bool_cases (hasB (l.take k) x) with h4 | h4
                · rw [h4] at hbit
                  have HN := Lib.hid (HGG.out (by rw [HD.out, decide_eq_false h1, decide_eq_false h2, h4]; simp))
                  clear h4
                  go_wp2_with fail
                  go_round
                  case rel => exact ⟨k + 1, by omega, by go_num, by rw [HS.out], HN.out⟩
                  case measure => simp [intOf]; omega
                · rw [h4] at hbit
                  have HN := Lib.hid (HF.out (by rw [HD.out, decide_eq_false h1, decide_eq_false h2, h4, decide_eq_true h3]; rfl))
                  clear h4
                  go_wp2_with fail
                  refine bodyPost_ret (v := .tuple #[.bool false, .int .i64 2]) (by simp [results, Try.results41, go_sem]) rfl ?_
                  exact ⟨by rw [← (hold_res HLL.out H0.out HN.out (v := false) rfl).1, ← (hold_res HLL.out H0.out HN.out (v := false) rfl).2], HB1.out⟩
              · have HN := Lib.hid (HGG.out (by rw [HD.out, decide_eq_false h1, decide_eq_false h2, decide_eq_false h3]; rfl))
                have HS := Lib.hid (show seenQ l (k + 1) = seenQ l k by rw [HSN.out, if_neg h3])
                go_wp2_with fail
                go_round
                case rel => exact ⟨k + 1, by omega, by go_num, by rw [HS.out], HN.out⟩
                case measure => simp [intOf]; omega
        · obtain rfl : k = m := by omega
          have hp0 : pairCheck k l = 0 := by rw [HP2.out, hno]; rfl
          have HP0 := Lib.hid hp0
          have HHH := Lib.hid (wish_holds AL AR A k cL cR c L R l v1 HG1.out HG2.out (pair_ok hp0) ((HRL.out.below HB1.out).more hz1) (HG.out _ L HB1.out HGL.out) ((HRR.out.below HB1.out).more hz1) (HG.out _ R HB1.out HGR.out) HE1.out)
          clear hno hp0
          go_wp2_with fail
          refine HHH.out.mono ?_
          clear HHH
          rintro e v2 ⟨rfl, hb2⟩
          have HB2 := Lib.hid (HB1.out.trans (hb2.mono hz1))
          obtain ⟨z, hz⟩ : ∃ z, z = holdP L R l := ⟨_, rfl⟩
          rw [← hz]
          have HZ := Lib.hid hz
          clear hb2 hz
          go_wp2_with fail
          refine bodyPost_ret (v := .tuple #[.bool z, .int .i64 0]) (by simp [results, Try.results41, go_sem]) rfl ?_
          exact ⟨by rw [← (hold_res HLL.out H0.out HP0.out (v := z) HZ.out).1, ← (hold_res HLL.out H0.out HP0.out (v := z) HZ.out).2], HB2.out⟩
    · have hne : ((m : Int) != (nR : Int)) = true := by simp; omega
      have HN : Hid (pairCheck nR l = 3) := Lib.hid (by unfold pairCheck; rw [HL.out, if_pos hmn])
      go_wp2_with fail
      refine bodyPost_ret (v := .tuple #[.bool false, .int .i64 3]) (by simp [results, Try.results41, go_sem]) rfl ?_
      exact ⟨by rw [← (hold_res HLL.out H0.out HN.out (v := false) rfl).1, ← (hold_res HLL.out H0.out HN.out (v := false) rfl).2], HB1.out⟩
  · have h1 : (wishCheck L R != 0) = true := by simpa using h0
    have H0 := Lib.hid h0
    obtain ⟨x, hx⟩ : ∃ x, x = wishCheck L R := ⟨_, rfl⟩
    rw [← hx] at h1 ⊢
    have HX := Lib.hid hx
    clear h0 hx hB1 hk1
    go_wp2_with fail
    refine bodyPost_ret (v := .tuple #[.bool false, .int .i64 x]) (by simp [results, Try.results41, go_sem]) rfl ?_
    exact ⟨by rw [(hold_bad H0.out).1, (hold_bad H0.out).2, HX.out], HB1.out⟩
end Go.Proofs.Ytiglpcodahkhnaa
