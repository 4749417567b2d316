/- Does a pairing hold: the reference; the statement's walk. Conditions: the lists read as lists. -/
import Derived.Test.YtiglpcodahkhnaaHoldC
import Derived.Test.YtiglpcodahkhnaaWishC
namespace Go.Proofs.Ytiglpcodahkhnaa
open Go.RowKit

set_option maxRecDepth 100000 in
set_option maxHeartbeats 1000000 in
theorem ref_Holds (AL AR A : Option Addr) (n cL cR c : Nat) (L R : List (Sls Int)) (l : List Int) (w : World) (hL : GoodL n L) (hR : GoodL n R) (hl : PairOk n l)
    (hrL : Els w w.heap.size 1 rcell AL L) (hgL : ∀ s ∈ L, s.Good w w.heap.size 1 icell OkI) (hrR : Els w w.heap.size 1 rcell AR R) (hgR : ∀ s ∈ R, s.Good w w.heap.size 1 icell OkI) (hr : Els w w.heap.size 1 icell A l) :
    Calls Try.prog 44 #[.agg #[.slice AL n cL, .slice AR n cR], .slice A n c] w fun e w' => e = .returned (.bool (holdR L R l)) ∧ Below w.heap.size w w' := by
  have hn8 := hL.n8
  have hblk := Blk.new w 79 #[.slice AL n cL, .slice AR n cR]
  have hbox := (Below.refl w.heap.size w).alloc (Nat.le_refl _) (.cells #[.slice AL n cL, .slice AR n cR] 79)
  have HH : Hid (holdR L R l = (!((List.range n).any fun i => lackR L R i (l.getD i 0)) && !((List.range n).any fun i => (List.range n).any fun j => badR L R l i j))) := Lib.hid (by unfold holdR; rw [hl.1])
  have HPR := Lib.hid hl
  have hgood : ∀ (W : World) (ls : List (Sls Int)), Below w.heap.size w W → (∀ s ∈ ls, s.Good w w.heap.size 1 icell OkI) → (∀ s ∈ ls, s.Good W W.heap.size 1 icell OkI) := fun W ls hb h s hs =>
    ⟨(h s hs).1, (h s hs).2.1, ((h s hs).2.2.1.below hb).more hb.size, (h s hs).2.2.2⟩
  obtain ⟨V, hV⟩ : ∃ V, V = w.alloc (.cells #[.slice AL n cL, .slice AR n cR] 79) := ⟨_, rfl⟩
  rw [← hV] at hblk hbox
  have HGL := Lib.hid (hgood V L hbox hgL)
  have HGR := Lib.hid (hgood V R hbox hgR)
  have HEL := Lib.hid (hrL.below hbox)
  have HER := Lib.hid (hrR.below hbox)
  have HE := Lib.hid (hr.below hbox)
  have HB := Lib.hid hbox
  have HLAT : Hid (∀ i, i < n → ∃ b off As cs, AL = some ⟨b, off, none⟩ ∧ V.cell? ⟨b, off + i, none⟩ = some (.slice As (ls L i).length cs) ∧ Els V V.heap.size 1 icell As (ls L i) ∧ (ls L i).length ≤ maxLen) :=
    Lib.hid (fun i hi => side_at HEL.out HGL.out (by rw [hL.len]; exact hi))
  have HRAT : Hid (∀ i, i < n → ∃ b off As cs, AR = some ⟨b, off, none⟩ ∧ V.cell? ⟨b, off + i, none⟩ = some (.slice As (ls R i).length cs) ∧ Els V V.heap.size 1 icell As (ls R i) ∧ (ls R i).length ≤ maxLen) :=
    Lib.hid (fun i hi => side_at HER.out HGR.out (by rw [hR.len]; exact hi))
  have c0 := hblk.cell 0
  have c1 := hblk.cell 1
  obtain ⟨S, hS⟩ : ∃ S, S = w.heap.size := ⟨_, rfl⟩
  rw [← hS] at c0 c1
  have HS := Lib.hid hS
  clear hL hR hl hrL hgL hrR hgR hr hgood hbox hblk
  go_enter Try.func44, Try.ntmps44
  go_wp2_with fail
  rw [← hV, ← hS]
  clear hV hS
  go_loop [11] (fun s => ∃ k : Nat, k ≤ n ∧ s = .int .i64 k ∧ ((List.range k).any fun i => lackR L R i (l.getD i 0)) = false) (fun s => n - (intOf s).toNat)
  case atStart => exact ⟨0, by omega, rfl, rfl⟩
  case round =>
    obtain ⟨k, hk, rfl, hno⟩ := hrel
    have HK := Lib.hid hno
    by_cases hlt : k < n
    · obtain ⟨b, off, rfl, hbb, g0⟩ := HE.out.at1 (f := fun x => .int .i64 x) (k := k) (by rw [HPR.out.1]; exact hlt)
      rw [← getD_at l k (by rw [HPR.out.1]; exact hlt) 0] at g0
      have hpr := HPR.out.2 k hlt
      have HF : Hid (lackR L R k (l.getD k 0) = true → holdR L R l = false) := Lib.hid (fun h => by rw [HH.out, any_range_of hlt h]; rfl)
      have HG : Hid (lackR L R k (l.getD k 0) = false → ((List.range (k + 1)).any fun i => lackR L R i (l.getD i 0)) = false) := Lib.hid (fun h => by rw [any_range_succ, hno, h]; rfl)
      have HD : Hid (lackR L R k (l.getD k 0) = (decide (0 ≤ l.getD k 0) && (!hasB (ls L k) (l.getD k 0) || !hasB (ls R (l.getD k 0).toNat) k))) := Lib.hid rfl
      clear hno
      obtain ⟨x, hx⟩ : ∃ x, x = l.getD k 0 := ⟨_, rfl⟩
      rw [← hx] at g0 hpr HF HG HD
      clear hx
      by_cases h0 : 0 ≤ x
      · obtain ⟨m, rfl⟩ := Int.eq_ofNat_of_zero_le h0
        rw [Int.toNat_natCast, decide_eq_true h0, Bool.true_and] at HD
        have hmn : m < n := by omega
        obtain ⟨b1, o1, As, cs, rfl, l0, hrA, hlA⟩ := HLAT.out k hlt
        obtain ⟨b2, o2, Bs, ds, rfl, r0, hrB, hlB⟩ := HRAT.out m hmn
        have HR1 := Lib.hid (Has_any As _ cs (ls L k) m V.heap.size V rfl hlA hrA)
        have HR2 := Lib.hid (Has_any Bs _ ds (ls R m) k V.heap.size V rfl hlB hrB)
        generalize (ls L k).length = n1 at l0 HR1
        generalize (ls R m).length = n2 at r0 HR2
        generalize hasB (ls L k) m = p at HD HR1
        generalize hasB (ls R m) k = q at HD HR2
        clear hrA hlA hrB hlB
        cases p
        · have HN := Lib.hid (HF.out (by rw [HD.out]; rfl))
          go_wp2_with fail
          refine HR1.out.mono ?_
          rintro e w' ⟨rfl, rfl⟩
          go_wp2_with fail
          go_ret
          exact ⟨ret_bool HN.out.symm, HB.out⟩
        · cases q
          · have HN := Lib.hid (HF.out (by rw [HD.out]; rfl))
            go_wp2_with fail
            refine HR1.out.mono ?_
            rintro e w' ⟨rfl, rfl⟩
            go_wp2_with fail
            refine HR2.out.mono ?_
            rintro e w' ⟨rfl, rfl⟩
            go_wp2_with fail
            go_ret
            exact ⟨ret_bool HN.out.symm, HB.out⟩
          · have HN := Lib.hid (HG.out (by rw [HD.out]; rfl))
            go_wp2_with fail
            refine HR1.out.mono ?_
            rintro e w' ⟨rfl, rfl⟩
            go_wp2_with fail
            refine HR2.out.mono ?_
            rintro e w' ⟨rfl, rfl⟩
            go_wp2_with fail
            go_round
            case rel => exact ⟨k + 1, by omega, by go_num, HN.out⟩
            case measure => simp [intOf]; omega
      · have HN := Lib.hid (HG.out (by rw [HD.out, decide_eq_false h0]; rfl))
        go_wp2_with fail
        go_round
        case rel => exact ⟨k + 1, by omega, by go_num, HN.out⟩
        case measure => simp [intOf]; omega
    · obtain rfl : k = n := by omega
      have HH2 : Hid (holdR L R l = !((List.range k).any fun i => (List.range k).any fun j => badR L R l i j)) := Lib.hid (by rw [HH.out, hno]; rfl)
      clear hno HK
      go_wp2_with fail
      go_loopw [7] (fun s wr => ∃ i q : Nat, i ≤ k ∧ s = .int .i64 i ∧ wr = V.drewN q ∧ ((List.range i).any fun i => (List.range k).any fun j => badR L R l i j) = false) (fun s _ => k - (intOf s).toNat)
      case atStart => exact ⟨0, 0, by omega, rfl, rfl, rfl⟩
      case round =>
        obtain ⟨i, q, hi, rfl, rfl, hno⟩ := hrel
        by_cases hlt2 : i < k
        · have HI := Lib.hid hno
          go_wp2_with fail
          go_loopw [8] (fun s wr => ∃ j q : Nat, j ≤ k ∧ s = .int .i64 j ∧ wr = V.drewN q ∧ ((List.range j).any fun j => badR L R l i j) = false) (fun s _ => k - (intOf s).toNat)
          case atStart => exact ⟨0, q, by omega, rfl, rfl, rfl⟩
          case round =>
            obtain ⟨j, q, hj, rfl, rfl, hno2⟩ := hrel
            by_cases hlj : j < k
            · obtain ⟨b1, o1, As, cs, rfl, l0, hrA, hlA⟩ := HLAT.out i hlt2
              obtain ⟨b2, o2, Bs, ds, rfl, r0, hrB, hlB⟩ := HRAT.out j hlj
              obtain ⟨b, off, rfl, hbb, g0⟩ := HE.out.at1 (f := fun x => .int .i64 x) (k := i) (by rw [HPR.out.1]; exact hlt2)
              rw [← getD_at l i (by rw [HPR.out.1]; exact hlt2) 0] at g0
              have HF : Hid (badR L R l i j = true → holdR L R l = false) := Lib.hid (fun h => by rw [HH2.out, any_range_of hlt2 (any_range_of (p := fun j => badR L R l i j) hlj h)]; rfl)
              have HG : Hid (badR L R l i j = false → ((List.range (j + 1)).any fun j => badR L R l i j) = false) := Lib.hid (fun h => by rw [any_range_succ, hno2, h]; rfl)
              have HD : Hid (badR L R l i j = ((l.getD i 0 != (j : Int)) && ratherB j (l.getD i 0) (ls L i) && ratherB i (idxI j l) (ls R j))) := Lib.hid rfl
              have HO : Hid (∀ N, Calls Try.prog 81 #[.slice (some ⟨b, off, none⟩) k c, .int .i64 j] (V.drewN N) fun e w' => e = .returned (.int .i64 (idxI j l)) ∧ V.drewN N = w') := Lib.hid (fun N => ref_owner j _ k c l w.heap.size (V.drewN N) HPR.out.1 (by unfold maxLen; omega) (HE.out.drewN N))
              have HR1 : Hid (∀ N, Calls Try.prog 82 #[.slice As (ls L i).length cs, .int .i64 j, .int .i64 (l.getD i 0)] (V.drewN N) fun e w' => e = .returned (.bool (ratherB j (l.getD i 0) (ls L i))) ∧ V.drewN N = w') := Lib.hid (fun N => ref_rather j (l.getD i 0) As _ cs (ls L i) V.heap.size (V.drewN N) rfl hlA (hrA.drewN N))
              have HR2 : Hid (∀ N, Calls Try.prog 82 #[.slice Bs (ls R j).length ds, .int .i64 i, .int .i64 (idxI j l)] (V.drewN N) fun e w' => e = .returned (.bool (ratherB i (idxI j l) (ls R j))) ∧ V.drewN N = w') := Lib.hid (fun N => ref_rather i (idxI j l) Bs _ ds (ls R j) V.heap.size (V.drewN N) rfl hlB (hrB.drewN N))
              obtain ⟨x, hx⟩ : ∃ x, x = l.getD i 0 := ⟨_, rfl⟩
              rw [← hx] at g0 HD HR1
              generalize (ls L i).length = n1 at l0 HR1
              generalize (ls R j).length = n2 at r0 HR2
              generalize ratherB j x (ls L i) = p at HD HR1
              generalize ratherB i (idxI j l) (ls R j) = z at HD HR2
              generalize idxI j l = o at HO HR2
              clear hx hno2 hrA hlA hrB hlB
              rcases bool_cases (x != (j : Int)) with h1 | h1
              · have HN := Lib.hid (HG.out (by rw [HD.out, h1]; rfl))
                go_wp2_with fail
                go_quiet (fail)
                go_wp2_with fail
                go_roundw
                case rel => exact ⟨j + 1, _, by omega, by go_num, by first | rfl | rw [World.drewN_drewN], HN.out⟩
                case measure => simp [intOf]; omega
              · cases p
                · have HN := Lib.hid (HG.out (by rw [HD.out, h1]; rfl))
                  go_wp2_with fail
                  go_quiet ((go_at_call 82; exact quietAL (HR1.out _)))
                  go_wp2_with fail
                  go_roundw
                  case rel => exact ⟨j + 1, _, by omega, by go_num, by first | rfl | rw [World.drewN_drewN], HN.out⟩
                  case measure => simp [intOf]; omega
                · cases z
                  · have HN := Lib.hid (HG.out (by rw [HD.out, h1]; rfl))
                    go_wp2_with fail
                    go_quiet (first
                      | (go_at_call 81; exact quietAL (HO.out _))
                      | (go_at_call 82; first | with_reducible exact quietAL (HR1.out _) | with_reducible exact quietAL (HR2.out _)))
                    go_wp2_with fail
                    go_roundw
                    case rel => exact ⟨j + 1, _, by omega, by go_num, by first | rfl | rw [World.drewN_drewN], HN.out⟩
                    case measure => simp [intOf]; omega
                  · have HN := Lib.hid (HF.out (by rw [HD.out, h1]; rfl))
                    go_wp2_with fail
                    go_quiet (first
                      | (go_at_call 81; exact quietAL (HO.out _))
                      | (go_at_call 82; first | with_reducible exact quietAL (HR1.out _) | with_reducible exact quietAL (HR2.out _)))
                    go_wp2_with fail
                    go_ret
                    exact ⟨ret_bool HN.out.symm, below_drewN (below_drewN HB.out _) _⟩
            · obtain rfl : j = k := by omega
              have HN : Hid (((List.range (i + 1)).any fun i => (List.range j).any fun j => badR L R l i j) = false) := Lib.hid (by rw [any_range_succ, HI.out, hno2]; rfl)
              go_wp2_with fail
              go_roundw
              case rel => exact ⟨i + 1, _, by omega, by go_num, rfl, HN.out⟩
              case measure => simp [intOf]; omega
        · obtain rfl : i = k := by omega
          go_wp2_with fail
          go_ret
          exact ⟨ret_bool (by rw [HH2.out, hno]; rfl), below_drewN HB.out _⟩

set_option maxRecDepth 100000 in
set_option maxHeartbeats 1000000 in
theorem law_WishHolds (AL AR A : Option Addr) (nL cL nR cR m c : Nat) (L R : List (Sls Int)) (l : List Int) (w : World) (hL : L.length = nL) (hR : R.length = nR) (hnL : nL ≤ maxLen) (hnR : nR ≤ maxLen) (hl : l.length = m) (hm : m ≤ maxLen)
    (hrL : Els w w.heap.size 1 rcell AL L) (hgL : ∀ s ∈ L, s.Good w w.heap.size 1 icell OkI) (hrR : Els w w.heap.size 1 rcell AR R) (hgR : ∀ s ∈ R, s.Good w w.heap.size 1 icell OkI) (hr : Els w w.heap.size 1 icell A l) :
    Calls Try.prog 10 #[.agg #[.slice AL nL cL, .slice AR nR cR], .slice A m c] w fun e w' => e = .returned (.bool true) ∧ Below w.heap.size w w' := by
  have hblk := Blk.new w 79 #[.slice AL nL cL, .slice AR nR cR]
  have hbox := (Below.refl w.heap.size w).alloc (Nat.le_refl _) (.cells #[.slice AL nL cL, .slice AR nR cR] 79)
  have hgood : ∀ (W : World) (ls : List (Sls Int)), Below w.heap.size w W → (∀ s ∈ ls, s.Good w w.heap.size 1 icell OkI) → (∀ s ∈ ls, s.Good W W.heap.size 1 icell OkI) := fun W ls hb h s hs =>
    ⟨(h s hs).1, (h s hs).2.1, ((h s hs).2.2.1.below hb).more hb.size, (h s hs).2.2.2⟩
  have HCK : Hid (∀ W, Below w.heap.size w W → Calls Try.prog 41 #[.agg #[.slice AL nL cL, .slice AR nR cR], .slice A m c] W fun e w' => e = .returned (.tuple #[.bool (holdVal L R l), .int .i64 (holdCode L R l)]) ∧ Below W.heap.size W w') :=
    Lib.hid (fun W hb => wish_Holds AL AR A nL cL nR cR m c L R l W hL hR hnL hnR hl hm ((hrL.below hb).more hb.size) (hgood _ L hb hgL) ((hrR.below hb).more hb.size) (hgood _ R hb hgR) ((hr.below hb).more hb.size))
  have HWC : Hid (∀ W, Below w.heap.size w W → Calls Try.prog 42 #[.agg #[.slice AL nL cL, .slice AR nR cR]] W fun e w' => e = .returned (.int .i64 (wishCheck L R)) ∧ Below W.heap.size W w') :=
    Lib.hid (fun W hb => ref_WishesCheck AL AR nL cL nR cR L R W hL hR hnL hnR ((hrL.below hb).more hb.size) (hgood _ L hb hgL) ((hrR.below hb).more hb.size) (hgood _ R hb hgR))
  have HG := Lib.hid hgood
  have HLL := Lib.hid hL
  have HLR := Lib.hid hR
  have HL := Lib.hid hl
  have HM := Lib.hid hm
  have HRL := Lib.hid hrL
  have HRR := Lib.hid hrR
  have HGL := Lib.hid hgL
  have HGR := Lib.hid hgR
  have HE := Lib.hid hr
  have HB0 := Lib.hid hbox
  have HK0 := Lib.hid hblk
  have c0 := hblk.cell 0
  have c1 := hblk.cell 1
  clear hblk hbox hgood hL hR hl hrL hrR hgL hgR hr hm hnL hnR
  go_enter Try.func10, Try.ntmps10
  go_wp2_with fail
  refine (HCK.out _ HB0.out).mono ?_
  clear HCK
  rintro e v1 ⟨rfl, hb1⟩
  have hk1 := HK0.out.below hb1 (by rw [size_alloc']; omega)
  have hB1 := HB0.out.trans (hb1.mono (by rw [size_alloc']; omega))
  have hz1 := hB1.size
  have hlt1 := hk1.lt
  have HB1 := Lib.hid hB1
  have HK1 := Lib.hid hk1
  obtain ⟨v, hv⟩ : ∃ v, v = holdVal L R l := ⟨_, rfl⟩
  obtain ⟨x, hx⟩ : ∃ x, x = holdCode L R l := ⟨_, rfl⟩
  rw [← hv, ← hx]
  have HV := Lib.hid hv
  have HX := Lib.hid hx
  clear c0 c1 hb1 hv hx
  have c0 := hk1.cell 0
  have c1 := hk1.cell 1
  clear hk1 hB1
  go_wp2_with fail
  refine (HWC.out _ HB1.out).mono ?_
  clear HWC
  rintro e v2 ⟨rfl, hb2⟩
  have hk2 := HK1.out.below hb2 hlt1
  have hB2 := HB1.out.trans (hb2.mono hz1)
  have hz2 := hB2.size
  have hlt2 := hk2.lt
  have HB2 := Lib.hid hB2
  have HK2 := Lib.hid hk2
  clear c0 c1 hb2
  have c0 := hk2.cell 0
  have c1 := hk2.cell 1
  by_cases h0 : wishCheck L R = 0
  · obtain ⟨g1, g2⟩ := wish_good h0
    rw [HLL.out] at g1 g2
    have hRn : nR = nL := by rw [← HLR.out, g2.len]
    subst hRn
    have hn8 := g1.n8
    have HPC := Lib.hid (ref_PairingCheck AL AR A nR cL nR cR m c l v2 HL.out HM.out hn8 ((HE.out.below hB2).more hz2))
    have hxp : x = pairCheck nR l := by rw [HX.out]; unfold holdCode; rw [if_pos h0, HLL.out]
    have HXP := Lib.hid hxp
    have HG1 := Lib.hid g1
    have HG2 := Lib.hid g2
    rw [h0]
    clear h0 g1 g2 hB2 hk2 hxp
    go_wp2_with fail
    refine HPC.out.mono ?_
    clear HPC
    rintro e v3 ⟨rfl, hb3⟩
    have hk3 := HK2.out.below hb3 hlt2
    have hB3 := HB2.out.trans (hb3.mono hz2)
    have hz3 := hB3.size
    have HB3 := Lib.hid hB3
    rw [← HXP.out]
    clear c0 c1 hb3
    have c0 := hk3.cell 0
    have c1 := hk3.cell 1
    clear hk3
    by_cases hx0 : x = 0
    · have hp0 : pairCheck nR l = 0 := by rw [← HXP.out]; exact hx0
      have HRH := Lib.hid (ref_Holds AL AR A nR cL cR c L R l v3 HG1.out HG2.out (pair_ok hp0) ((HRL.out.below hB3).more hz3) (HG.out _ L hB3 HGL.out) ((HRR.out.below hB3).more hz3) (HG.out _ R hB3 HGR.out) ((HE.out.below hB3).more hz3))
      have hmn : m = nR := by rw [← HL.out]; exact (pair_ok hp0).1
      subst hmn
      have hvv : v = holdR L R l := by
        rw [HV.out]
        unfold holdVal
        rw [← HX.out, if_pos hx0, hold_same HG1.out HG2.out HL.out]
      have HVV := Lib.hid hvv
      rw [hx0]
      clear hp0 hvv hx0 HV HX HXP hB3
      go_wp2_with fail
      refine HRH.out.mono ?_
      clear HRH
      rintro e v4 ⟨rfl, hb4⟩
      have HB4 := Lib.hid (HB3.out.trans (hb4.mono hz3))
      clear hb4
      go_wp2_with fail
      go_ret
      exact ⟨ret_bool (by rw [HVV.out]; simp), HB4.out⟩
    · have h1 : (x != 0) = true := by simpa using hx0
      have h2 : (x == x) = true := by simp
      have hvv : v = false := by rw [HV.out]; unfold holdVal; rw [← HX.out, if_neg hx0]
      subst hvv
      clear hx0 HX HXP hB3 HV
      go_wp2_with fail
      go_ret
      exact ⟨rfl, HB3.out⟩
  · have h1 : (wishCheck L R != 0) = true := by simpa using h0
    have h2 : (wishCheck L R == 0) = false := by simpa using h0
    have hvv : v = false := by rw [HV.out, (hold_bad h0).1]
    have hxx : x = wishCheck L R := by rw [HX.out, (hold_bad h0).2]
    subst hvv
    rw [hxx]
    obtain ⟨z, hz⟩ : ∃ z, z = wishCheck L R := ⟨_, rfl⟩
    rw [← hz] at h1 h2 ⊢
    have h3 : (z == z) = true := by simp
    clear h0 HX HV hxx hz hB2 hk2
    go_wp2_with fail
    go_ret
    exact ⟨rfl, HB2.out⟩
theorem WishHolds_row (s t : Sls (Sls Int)) (C : Sls Int) (w : World) (h : s.Good w w.heap.size 1 (fun s : Sls Int => [s.val]) (Sls.Good w w.heap.size 1 (fun n : Int => [.int .i64 n]) OkI)) (ht : t.Good w w.heap.size 1 (fun s : Sls Int => [s.val]) (Sls.Good w w.heap.size 1 (fun n : Int => [.int .i64 n]) OkI))
    (hC : C.Good w w.heap.size 1 (fun n : Int => [.int .i64 n]) OkI) :
    Calls Try.prog 10 #[.agg #[s.val, t.val], C.val] w fun e w' => e = .returned (.bool true) ∧ Below w.heap.size w w' :=
  law_WishHolds s.A t.A C.A s.l.length s.c t.l.length t.c C.l.length C.c s.l t.l C.l w rfl rfl h.1 ht.1 rfl hC.1 h.2.2.1 h.2.2.2 ht.2.2.1 ht.2.2.2 hC.2.2.1
end Go.Proofs.Ytiglpcodahkhnaa
