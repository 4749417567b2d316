/- Does a pairing hold: the reference. Conditions: the lists read as lists. -/
import Derived.Test.YtodbhgbgeiailaaHoldB
namespace Go.Proofs.Ytodbhgbgeiailaa
open Go.RowKit

set_option maxRecDepth 100000 in
set_option maxHeartbeats 1000000 in
theorem ref_Holds (AL AR A : Option Addr) (n cL cR c : Nat) (L R : List (Sls Int)) (l : List Int) (w : World) (hL : GoodL n L) (hR : GoodL n R) (hl : PairOk n l)
    (hrL : Els w w.heap.size 1 rcell AL L) (hgL : ∀ s ∈ L, s.Good w w.heap.size 1 icell OkI) (hrR : Els w w.heap.size 1 rcell AR R) (hgR : ∀ s ∈ R, s.Good w w.heap.size 1 icell OkI) (hr : Els w w.heap.size 1 icell A l) :
    Calls Try.prog 95 #[.agg #[.slice AL n cL, .slice AR n cR], .slice A n c] w fun e w' => e = .returned (.bool (holdR L R l)) ∧ Below w.heap.size w w' := by
  have hn8 := hL.n8
  have hblk := Blk.new w 38 #[.slice AL n cL, .slice AR n cR]
  have hbox := (Below.refl w.heap.size w).alloc (Nat.le_refl _) (.cells #[.slice AL n cL, .slice AR n cR] 38)
  have HH : Hid (holdR L R l = (!((List.range n).any fun i => lackR L R i (l.getD i 0)) && !((List.range n).any fun i => (List.range n).any fun j => badR L R l i j))) := Lib.hid (by unfold holdR; rw [hl.1])
  have HPR := Lib.hid hl
  have hgood : ∀ (W : World) (ls : List (Sls Int)), Below w.heap.size w W → (∀ s ∈ ls, s.Good w w.heap.size 1 icell OkI) → (∀ s ∈ ls, s.Good W W.heap.size 1 icell OkI) := fun W ls hb h s hs =>
    ⟨(h s hs).1, (h s hs).2.1, ((h s hs).2.2.1.below hb).more hb.size, (h s hs).2.2.2⟩
  obtain ⟨V, hV⟩ : ∃ V, V = w.alloc (.cells #[.slice AL n cL, .slice AR n cR] 38) := ⟨_, rfl⟩
  rw [← hV] at hblk hbox
  have HGL := Lib.hid (hgood V L hbox hgL)
  have HGR := Lib.hid (hgood V R hbox hgR)
  have HEL := Lib.hid (hrL.below hbox)
  have HER := Lib.hid (hrR.below hbox)
  have HE := Lib.hid (hr.below hbox)
  have HB := Lib.hid hbox
  have HLAT : Hid (∀ i, i < n → ∃ b off As cs, AL = some ⟨b, off, none⟩ ∧ V.cell? ⟨b, off + i, none⟩ = some (.slice As (ls L i).length cs) ∧ Els V V.heap.size 1 icell As (ls L i) ∧ (ls L i).length ≤ maxLen) :=
    Lib.hid (fun i hi => side_at HEL.out HGL.out (by rw [hL.len]; exact hi))
  have HRAT : Hid (∀ i, i < n → ∃ b off As cs, AR = some ⟨b, off, none⟩ ∧ V.cell? ⟨b, off + i, none⟩ = some (.slice As (ls R i).length cs) ∧ Els V V.heap.size 1 icell As (ls R i) ∧ (ls R i).length ≤ maxLen) :=
    Lib.hid (fun i hi => side_at HER.out HGR.out (by rw [hR.len]; exact hi))
  have c0 := hblk.cell 0
  have c1 := hblk.cell 1
  obtain ⟨S, hS⟩ : ∃ S, S = w.heap.size := ⟨_, rfl⟩
  rw [← hS] at c0 c1
  have HS := Lib.hid hS
  clear hL hR hl hrL hgL hrR hgR hr hgood hbox hblk
  go_enter Try.func95, Try.ntmps95
  go_wp2_with fail
  rw [← hV, ← hS]
  clear hV hS
  go_loop [11] (fun s => ∃ k : Nat, k ≤ n ∧ s = .int .i64 k ∧ ((List.range k).any fun i => lackR L R i (l.getD i 0)) = false) (fun s => n - (intOf s).toNat)
  case atStart => exact ⟨0, by omega, rfl, rfl⟩
  case round =>
    obtain ⟨k, hk, rfl, hno⟩ := hrel
    have HK := Lib.hid hno
    by_cases hlt : k < n
    · obtain ⟨b, off, rfl, hbb, g0⟩ := HE.out.at1 (f := fun x => .int .i64 x) (k := k) (by rw [HPR.out.1]; exact hlt)
      rw [← getD_at l k (by rw [HPR.out.1]; exact hlt) 0] at g0
      have hpr := HPR.out.2 k hlt
      have HF : Hid (lackR L R k (l.getD k 0) = true → holdR L R l = false) := Lib.hid (fun h => by rw [HH.out, any_range_of hlt h]; rfl)
      have HG : Hid (lackR L R k (l.getD k 0) = false → ((List.range (k + 1)).any fun i => lackR L R i (l.getD i 0)) = false) := Lib.hid (fun h => by rw [any_range_succ, hno, h]; rfl)
      have HD : Hid (lackR L R k (l.getD k 0) = (decide (0 ≤ l.getD k 0) && (!hasB (ls L k) (l.getD k 0) || !hasB (ls R (l.getD k 0).toNat) k))) := Lib.hid rfl
      clear hno
      obtain ⟨x, hx⟩ : ∃ x, x = l.getD k 0 := ⟨_, rfl⟩
      rw [← hx] at g0 hpr HF HG HD
      clear hx
      by_cases h0 : 0 ≤ x
      · obtain ⟨m, rfl⟩ := Int.eq_ofNat_of_zero_le h0
        rw [Int.toNat_natCast, decide_eq_true h0, Bool.true_and] at HD
        have hmn : m < n := by omega
        obtain ⟨b1, o1, As, cs, rfl, l0, hrA, hlA⟩ := HLAT.out k hlt
        obtain ⟨b2, o2, Bs, ds, rfl, r0, hrB, hlB⟩ := HRAT.out m hmn
        have HR1 := Lib.hid (Has_any As _ cs (ls L k) m V.heap.size V rfl hlA hrA)
        have HR2 := Lib.hid (Has_any Bs _ ds (ls R m) k V.heap.size V rfl hlB hrB)
        generalize (ls L k).length = n1 at l0 HR1
        generalize (ls R m).length = n2 at r0 HR2
        generalize hasB (ls L k) m = p at HD HR1
        generalize hasB (ls R m) k = q at HD HR2
        clear hrA hlA hrB hlB
        cases p
        · have HN := Lib.hid (HF.out (by rw [HD.out]; rfl))
          go_wp2_with fail
          refine HR1.out.mono ?_
          rintro e w' ⟨rfl, rfl⟩
          go_wp2_with fail
          go_ret
          exact ⟨ret_bool HN.out.symm, HB.out⟩
        · cases q
          · have HN := Lib.hid (HF.out (by rw [HD.out]; rfl))
            go_wp2_with fail
            refine HR1.out.mono ?_
            rintro e w' ⟨rfl, rfl⟩
            go_wp2_with fail
            refine HR2.out.mono ?_
            rintro e w' ⟨rfl, rfl⟩
            go_wp2_with fail
            go_ret
            exact ⟨ret_bool HN.out.symm, HB.out⟩
          · have HN := Lib.hid (HG.out (by rw [HD.out]; rfl))
            go_wp2_with fail
            refine HR1.out.mono ?_
            rintro e w' ⟨rfl, rfl⟩
            go_wp2_with fail
            refine HR2.out.mono ?_
            rintro e w' ⟨rfl, rfl⟩
            go_wp2_with fail
            go_round
            case rel => exact ⟨k + 1, by omega, by go_num, HN.out⟩
            case measure => simp [intOf]; omega
      · have HN := Lib.hid (HG.out (by rw [HD.out, decide_eq_false h0]; rfl))
        go_wp2_with fail
        go_round
        case rel => exact ⟨k + 1, by omega, by go_num, HN.out⟩
        case measure => simp [intOf]; omega
    · obtain rfl : k = n := by omega
      have HH2 : Hid (holdR L R l = !((List.range k).any fun i => (List.range k).any fun j => badR L R l i j)) := Lib.hid (by rw [HH.out, hno]; rfl)
      clear hno HK
      go_wp2_with fail
      go_loopw [7] (fun s wr => ∃ i q : Nat, i ≤ k ∧ s = .int .i64 i ∧ wr = V.drewN q ∧ ((List.range i).any fun i => (List.range k).any fun j => badR L R l i j) = false) (fun s _ => k - (intOf s).toNat)
      case atStart => exact ⟨0, 0, by omega, rfl, rfl, rfl⟩
      case round =>
        obtain ⟨i, q, hi, rfl, rfl, hno⟩ := hrel
        by_cases hlt2 : i < k
        · have HI := Lib.hid hno
          go_wp2_with fail
          go_loopw [8] (fun s wr => ∃ j q : Nat, j ≤ k ∧ s = .int .i64 j ∧ wr = V.drewN q ∧ ((List.range j).any fun j => badR L R l i j) = false) (fun s _ => k - (intOf s).toNat)
          case atStart => exact ⟨0, q, by omega, rfl, rfl, rfl⟩
          case round =>
            obtain ⟨j, q, hj, rfl, rfl, hno2⟩ := hrel
            by_cases hlj : j < k
            · obtain ⟨b1, o1, As, cs, rfl, l0, hrA, hlA⟩ := HLAT.out i hlt2
              obtain ⟨b2, o2, Bs, ds, rfl, r0, hrB, hlB⟩ := HRAT.out j hlj
              obtain ⟨b, off, rfl, hbb, g0⟩ := HE.out.at1 (f := fun x => .int .i64 x) (k := i) (by rw [HPR.out.1]; exact hlt2)
              rw [← getD_at l i (by rw [HPR.out.1]; exact hlt2) 0] at g0
              have HF : Hid (badR L R l i j = true → holdR L R l = false) := Lib.hid (fun h => by rw [HH2.out, any_range_of hlt2 (any_range_of (p := fun j => badR L R l i j) hlj h)]; rfl)
              have HG : Hid (badR L R l i j = false → ((List.range (j + 1)).any fun j => badR L R l i j) = false) := Lib.hid (fun h => by rw [any_range_succ, hno2, h]; rfl)
              have HD : Hid (badR L R l i j = ((l.getD i 0 != (j : Int)) && ratherB j (l.getD i 0) (ls L i) && ratherB i (idxI j l) (ls R j))) := Lib.hid rfl
              have HO : Hid (∀ N, Calls Try.prog 109 #[.slice (some ⟨b, off, none⟩) k c, .int .i64 j] (V.drewN N) fun e w' => e = .returned (.int .i64 (idxI j l)) ∧ V.drewN N = w') := Lib.hid (fun N => ref_owner j _ k c l w.heap.size (V.drewN N) HPR.out.1 (by unfold maxLen; omega) (HE.out.drewN N))
              have HR1 : Hid (∀ N, Calls Try.prog 51 #[.slice As (ls L i).length cs, .int .i64 j, .int .i64 (l.getD i 0)] (V.drewN N) fun e w' => e = .returned (.bool (ratherB j (l.getD i 0) (ls L i))) ∧ V.drewN N = w') := Lib.hid (fun N => ref_rather j (l.getD i 0) As _ cs (ls L i) V.heap.size (V.drewN N) rfl hlA (hrA.drewN N))
              have HR2 : Hid (∀ N, Calls Try.prog 51 #[.slice Bs (ls R j).length ds, .int .i64 i, .int .i64 (idxI j l)] (V.drewN N) fun e w' => e = .returned (.bool (ratherB i (idxI j l) (ls R j))) ∧ V.drewN N = w') := Lib.hid (fun N => ref_rather i (idxI j l) Bs _ ds (ls R j) V.heap.size (V.drewN N) rfl hlB (hrB.drewN N))
              obtain ⟨x, hx⟩ : ∃ x, x = l.getD i 0 := ⟨_, rfl⟩
              rw [← hx] at g0 HD HR1
              generalize (ls L i).length = n1 at l0 HR1
              generalize (ls R j).length = n2 at r0 HR2
              generalize ratherB j x (ls L i) = p at HD HR1
              generalize ratherB i (idxI j l) (ls R j) = z at HD HR2
              generalize idxI j l = o at HO HR2
              clear hx hno2 hrA hlA hrB hlB
              rcases bool_cases (x != (j : Int)) with h1 | h1
              · have HN := Lib.hid (HG.out (by rw [HD.out, h1]; rfl))
                go_wp2_with fail
                go_quiet (fail)
                go_wp2_with fail
                go_roundw
                case rel => exact ⟨j + 1, _, by omega, by go_num, by first | rfl | rw [World.drewN_drewN], HN.out⟩
                case measure => simp [intOf]; omega
              · cases p
                · have HN := Lib.hid (HG.out (by rw [HD.out, h1]; rfl))
                  go_wp2_with fail
                  go_quiet ((go_at_call 51; exact quietAL (HR1.out _)))
                  go_wp2_with fail
                  go_roundw
                  case rel => exact ⟨j + 1, _, by omega, by go_num, by first | rfl | rw [World.drewN_drewN], HN.out⟩
                  case measure => simp [intOf]; omega
                · cases z
                  · have HN := Lib.hid (HG.out (by rw [HD.out, h1]; rfl))
                    go_wp2_with fail
                    go_quiet (first
                      | (go_at_call 109; exact quietAL (HO.out _))
                      | (go_at_call 51; first | with_reducible exact quietAL (HR1.out _) | with_reducible exact quietAL (HR2.out _)))
                    go_wp2_with fail
                    go_roundw
                    case rel => exact ⟨j + 1, _, by omega, by go_num, by first | rfl | rw [World.drewN_drewN], HN.out⟩
                    case measure => simp [intOf]; omega
                  · have HN := Lib.hid (HF.out (by rw [HD.out, h1]; rfl))
                    go_wp2_with fail
                    go_quiet (first
                      | (go_at_call 109; exact quietAL (HO.out _))
                      | (go_at_call 51; first | with_reducible exact quietAL (HR1.out _) | with_reducible exact quietAL (HR2.out _)))
                    go_wp2_with fail
                    go_ret
                    exact ⟨ret_bool HN.out.symm, below_drewN (below_drewN HB.out _) _⟩
            · obtain rfl : j = k := by omega
              have HN : Hid (((List.range (i + 1)).any fun i => (List.range j).any fun j => badR L R l i j) = false) := Lib.hid (by rw [any_range_succ, HI.out, hno2]; rfl)
              go_wp2_with fail
              go_roundw
              case rel => exact ⟨i + 1, _, by omega, by go_num, rfl, HN.out⟩
              case measure => simp [intOf]; omega
        · obtain rfl : i = k := by omega
          go_wp2_with fail
          go_ret
          exact ⟨ret_bool (by rw [HH2.out, hno]; rfl), below_drewN HB.out _⟩
end Go.Proofs.Ytodbhgbgeiailaa
