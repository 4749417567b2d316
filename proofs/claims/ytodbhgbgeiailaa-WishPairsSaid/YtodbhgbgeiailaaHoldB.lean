/- Does a pairing hold: the program. Conditions: the lists read as lists. -/
import Derived.Test.YtodbhgbgeiailaaHoldA
import Derived.Test.YtodbhgbgeiailaaWishB
namespace Go.Proofs.Ytodbhgbgeiailaa
open Go.RowKit

theorem side_at {W : World} {B B' : Nat} {A : Option Addr} {L : List (Sls Int)} (hr : Els W B 1 rcell A L) (hg : ∀ s ∈ L, s.Good W B' 1 icell OkI) {i : Nat} (hi : i < L.length) :
    ∃ b off As cs, A = some ⟨b, off, none⟩ ∧ W.cell? ⟨b, off + i, none⟩ = some (.slice As (ls L i).length cs) ∧ Els W B' 1 icell As (ls L i) ∧ (ls L i).length ≤ maxLen := by
  obtain ⟨b, off, rfl, _, g0⟩ := hr.at1 hi
  have h := hg L[i] (List.getElem_mem hi)
  have e : ls L i = L[i].l := by unfold ls; simp [List.getD_eq_getElem?_getD, hi]
  rw [e]
  exact ⟨b, off, L[i].A, L[i].c, rfl, g0, h.2.2.1, h.1⟩
/-- What a pairing must be. -/
def PairOk (n : Nat) (l : List Int) : Prop := l.length = n ∧ ∀ i, i < n → -1 ≤ l.getD i 0 ∧ l.getD i 0 < n

set_option maxRecDepth 100000 in
set_option maxHeartbeats 1000000 in
theorem wish_holds (AL AR A : Option Addr) (n cL cR c : Nat) (L R : List (Sls Int)) (l : List Int) (w : World) (hL : GoodL n L) (hR : GoodL n R) (hl : PairOk n l)
    (hrL : Els w w.heap.size 1 rcell AL L) (hgL : ∀ s ∈ L, s.Good w w.heap.size 1 icell OkI) (hrR : Els w w.heap.size 1 rcell AR R) (hgR : ∀ s ∈ R, s.Good w w.heap.size 1 icell OkI) (hr : Els w w.heap.size 1 icell A l) :
    Calls Try.prog 71 #[.agg #[.slice AL n cL, .slice AR n cR], .slice A n c] w fun e w' => e = .returned (.bool (holdP L R l)) ∧ Below w.heap.size w w' := by
  have hn8 := hL.n8
  have hblk := Blk.new w 38 #[.slice AL n cL, .slice AR n cR]
  have hbox := (Below.refl w.heap.size w).alloc (Nat.le_refl _) (.cells #[.slice AL n cL, .slice AR n cR] 38)
  have HH : Hid (holdP L R l = (!((List.range n).any fun i => lackP L R i (l.getD i 0)) && (List.range n).all fun i => scanB (badP R l i) (l.getD i 0) (ls L i))) := Lib.hid (by unfold holdP; rw [hL.len, hl.1])
  have HLL := Lib.hid hL
  have HLR := Lib.hid hR
  have HPR := Lib.hid hl
  have hgood : ∀ (W : World) (ls : List (Sls Int)), Below w.heap.size w W → (∀ s ∈ ls, s.Good w w.heap.size 1 icell OkI) → (∀ s ∈ ls, s.Good W W.heap.size 1 icell OkI) := fun W ls hb h s hs =>
    ⟨(h s hs).1, (h s hs).2.1, ((h s hs).2.2.1.below hb).more hb.size, (h s hs).2.2.2⟩
  obtain ⟨V, hV⟩ : ∃ V, V = w.alloc (.cells #[.slice AL n cL, .slice AR n cR] 38) := ⟨_, rfl⟩
  rw [← hV] at hblk hbox
  have HGL := Lib.hid (hgood V L hbox hgL)
  have HGR := Lib.hid (hgood V R hbox hgR)
  have HEL := Lib.hid (hrL.below hbox)
  have HER := Lib.hid (hrR.below hbox)
  have HE := Lib.hid (hr.below hbox)
  have HB := Lib.hid hbox
  have HLAT : Hid (∀ i, i < n → ∃ b off As cs, AL = some ⟨b, off, none⟩ ∧ V.cell? ⟨b, off + i, none⟩ = some (.slice As (ls L i).length cs) ∧ Els V V.heap.size 1 icell As (ls L i) ∧ (ls L i).length ≤ maxLen) :=
    Lib.hid (fun i hi => side_at HEL.out HGL.out (by rw [hL.len]; exact hi))
  have HRAT : Hid (∀ i, i < n → ∃ b off As cs, AR = some ⟨b, off, none⟩ ∧ V.cell? ⟨b, off + i, none⟩ = some (.slice As (ls R i).length cs) ∧ Els V V.heap.size 1 icell As (ls R i) ∧ (ls R i).length ≤ maxLen) :=
    Lib.hid (fun i hi => side_at HER.out HGR.out (by rw [hR.len]; exact hi))
  have c0 := hblk.cell 0
  have c1 := hblk.cell 1
  obtain ⟨S, hS⟩ : ∃ S, S = w.heap.size := ⟨_, rfl⟩
  rw [← hS] at c0 c1
  have HS := Lib.hid hS
  clear hL hR hl hrL hgL hrR hgR hr hgood hbox hblk
  go_enter Try.func71, Try.ntmps71
  go_wp2_with fail
  rw [← hV, ← hS]
  clear hV hS
  go_loop [15] (fun s => ∃ k : Nat, k ≤ n ∧ s = .int .i64 k ∧ ((List.range k).any fun i => lackP L R i (l.getD i 0)) = false) (fun s => n - (intOf s).toNat)
  case atStart => exact ⟨0, by omega, rfl, rfl⟩
  case round =>
    obtain ⟨k, hk, rfl, hno⟩ := hrel
    have HK := Lib.hid hno
    by_cases hlt : k < n
    · obtain ⟨b, off, rfl, hbb, g0⟩ := HE.out.at1 (f := fun x => .int .i64 x) (k := k) (by rw [HPR.out.1]; exact hlt)
      rw [← getD_at l k (by rw [HPR.out.1]; exact hlt) 0] at g0
      have hpr := HPR.out.2 k hlt
      have HF : Hid (lackP L R k (l.getD k 0) = true → holdP L R l = false) := Lib.hid (fun h => by rw [HH.out, any_range_of hlt h]; rfl)
      have HG : Hid (lackP L R k (l.getD k 0) = false → ((List.range (k + 1)).any fun i => lackP L R i (l.getD i 0)) = false) := Lib.hid (fun h => by rw [any_range_succ, hno, h]; rfl)
      have HD : Hid (lackP L R k (l.getD k 0) = (decide (0 ≤ l.getD k 0) && ((rankI (l.getD k 0) (ls L k) == 8) || (rankI k (ls R (l.getD k 0).toNat) == 8)))) := Lib.hid rfl
      clear hno
      obtain ⟨x, hx⟩ : ∃ x, x = l.getD k 0 := ⟨_, rfl⟩
      rw [← hx] at g0 hpr HF HG HD
      clear hx
      by_cases h0 : 0 ≤ x
      · obtain ⟨m, rfl⟩ := Int.eq_ofNat_of_zero_le h0
        rw [Int.toNat_natCast, decide_eq_true h0, Bool.true_and] at HD
        have hmn : m < n := by omega
        obtain ⟨b1, o1, As, cs, rfl, l0, hrA, hlA⟩ := HLAT.out k hlt
        obtain ⟨b2, o2, Bs, ds, rfl, r0, hrB, hlB⟩ := HRAT.out m hmn
        have HR1 := Lib.hid (wish_rank m As _ cs (ls L k) V.heap.size V rfl hlA hrA)
        have HR2 := Lib.hid (wish_rank k Bs _ ds (ls R m) V.heap.size V rfl hlB hrB)
        generalize (ls L k).length = n1 at l0 HR1
        generalize (ls R m).length = n2 at r0 HR2
        generalize rankI m (ls L k) = p at HD HR1
        generalize rankI k (ls R m) = q at HD HR2
        clear hrA hlA hrB hlB
        rcases bool_cases (p == 8) with h1 | h1
        · rcases bool_cases (q == 8) with h2 | h2
          · have HN := Lib.hid (HG.out (by rw [HD.out, h1, h2]; rfl))
            go_wp2_with fail
            refine HR1.out.mono ?_
            rintro e w' ⟨rfl, rfl⟩
            go_wp2_with fail
            refine HR2.out.mono ?_
            rintro e w' ⟨rfl, rfl⟩
            go_wp2_with fail
            go_round
            case rel => exact ⟨k + 1, by omega, by go_num, HN.out⟩
            case measure => simp [intOf]; omega
          · have HN := Lib.hid (HF.out (by rw [HD.out, h1, h2]; rfl))
            go_wp2_with fail
            refine HR1.out.mono ?_
            rintro e w' ⟨rfl, rfl⟩
            go_wp2_with fail
            refine HR2.out.mono ?_
            rintro e w' ⟨rfl, rfl⟩
            go_wp2_with fail
            go_ret
            exact ⟨ret_bool HN.out.symm, HB.out⟩
        · have HN := Lib.hid (HF.out (by rw [HD.out, h1]; rfl))
          go_wp2_with fail
          refine HR1.out.mono ?_
          rintro e w' ⟨rfl, rfl⟩
          go_wp2_with fail
          go_ret
          exact ⟨ret_bool HN.out.symm, HB.out⟩
      · have HN := Lib.hid (HG.out (by rw [HD.out, decide_eq_false h0]; rfl))
        go_wp2_with fail
        go_round
        case rel => exact ⟨k + 1, by omega, by go_num, HN.out⟩
        case measure => simp [intOf]; omega
    · obtain rfl : k = n := by omega
      have HH2 : Hid (holdP L R l = (List.range k).all fun i => scanB (badP R l i) (l.getD i 0) (ls L i)) := Lib.hid (by rw [HH.out, hno]; rfl)
      clear hno HK
      go_wp2_with fail
      go_loop [46] (fun s => ∃ i : Nat, i ≤ k ∧ s = .int .i64 i ∧ ((List.range i).all fun i => scanB (badP R l i) (l.getD i 0) (ls L i)) = true) (fun s => k - (intOf s).toNat)
      case atStart => exact ⟨0, by omega, rfl, rfl⟩
      case round =>
        obtain ⟨i, hi, rfl, hall⟩ := hrel
        by_cases hlt2 : i < k
        · obtain ⟨b1, o1, As, cs, rfl, l0, hrA, hlA⟩ := HLAT.out i hlt2
          obtain ⟨b, off, rfl, hbb, g0⟩ := HE.out.at1 (f := fun x => .int .i64 x) (k := i) (by rw [HPR.out.1]; exact hlt2)
          rw [← getD_at l i (by rw [HPR.out.1]; exact hlt2) 0] at g0
          have HF : Hid (scanB (badP R l i) (l.getD i 0) (ls L i) = false → holdP L R l = false) := Lib.hid (fun h => by
            rw [HH2.out, List.all_eq_false]
            exact ⟨i, List.mem_range.2 hlt2, by rw [h]; simp⟩)
          have HG : Hid (scanB (badP R l i) (l.getD i 0) (ls L i) = true → ((List.range (i + 1)).all fun i => scanB (badP R l i) (l.getD i 0) (ls L i)) = true) := Lib.hid (fun h => by
            rw [List.range_succ, List.all_append, hall]
            simpa using h)
          have HRG := Lib.hid (HLL.out.rg i)
          have HIX : Hid (∀ x : Int, Calls Try.prog 79 #[.slice (some ⟨b, off, none⟩) k c, .int .i64 x] V fun e w' => e = .returned (.int .i64 (idxI x l)) ∧ V = w') := Lib.hid (fun x => Index_ints x _ k c l w.heap.size V HPR.out.1 (by unfold maxLen; omega) HE.out)
          obtain ⟨li, hli⟩ : ∃ x, x = l.getD i 0 := ⟨_, rfl⟩
          rw [← hli] at g0 HF HG
          unfold maxLen at hlA
          obtain ⟨r, hr⟩ : ∃ r, r = ls L i := ⟨_, rfl⟩
          rw [← hr] at l0 hrA hlA HF HG HRG
          obtain ⟨nr, hnr⟩ : ∃ k, k = r.length := ⟨_, rfl⟩
          rw [← hnr] at l0 hlA
          have HNR := Lib.hid hnr
          clear hall hli hr hnr
          go_wp2_with fail
          go_loop [53] (fun s => ∃ q : Nat, q ≤ nr ∧ s = .int .i64 q ∧ scanB (badP R l i) li (r.drop q) = scanB (badP R l i) li r) (fun s => nr - (intOf s).toNat)
          case atStart => exact ⟨0, by omega, rfl, rfl⟩
          case round =>
            obtain ⟨q, hq, rfl, hsc⟩ := hrel
            by_cases hlq : q < nr
            · have hql : q < r.length := by rw [← HNR.out]; exact hlq
              obtain ⟨b3, o3, rfl, _, g2⟩ := hrA.at1 (f := fun x => .int .i64 x) (k := q) hql
              have hxr := HRG.out r[q] (List.getElem_mem hql)
              have hd := drop_at r q hql
              obtain ⟨x, hx⟩ : ∃ x, x = r[q] := ⟨_, rfl⟩
              rw [← hx] at g2 hxr hd
              have HD : Hid (scanB (badP R l i) li r = if x = li then true else if badP R l i x = true then false else scanB (badP R l i) li (r.drop (q + 1))) := Lib.hid (by rw [← hsc, hd, scanB])
              clear hsc hx hd
              by_cases h1 : x = li
              · have h1' : (x == li) = true := by simpa using h1
                have HN := Lib.hid (HG.out (by rw [HD.out, if_pos h1]))
                clear h1
                go_wp2_with fail
                go_round
                case rel => exact ⟨i + 1, by omega, by go_num, HN.out⟩
                case measure => simp [intOf]; omega
              · have h1' : (x == li) = false := by simpa using h1
                obtain ⟨m, rfl⟩ := Int.eq_ofNat_of_zero_le hxr.1
                have hmn : m < k := by omega
                obtain ⟨b2, o2, Bs, ds, rfl, r0, hrB, hlB⟩ := HRAT.out m hmn
                have HBD : Hid (badP R l i m = (decide (rankI i (ls R m) < 8) && (decide (idxI m l < 0) || decide (rankI i (ls R m) < rankI (idxI m l) (ls R m))))) := Lib.hid (by unfold badP; rw [Int.toNat_natCast])
                have HD2 : Hid (scanB (badP R l i) li r = if badP R l i m = true then false else scanB (badP R l i) li (r.drop (q + 1))) := Lib.hid (by rw [HD.out, if_neg h1])
                have HR2 := Lib.hid (wish_rank i Bs _ ds (ls R m) V.heap.size V rfl hlB hrB)
                have HR3 := Lib.hid (wish_rank (idxI m l) Bs _ ds (ls R m) V.heap.size V rfl hlB hrB)
                have HIM := Lib.hid (HIX.out m)
                have hb1 := rank_bounds (x := (i : Int)) (HLR.out.l8 m)
                have hb2 := rank_bounds (x := idxI m l) (HLR.out.l8 m)
                have hb3 := idxI_range m l
                rw [HPR.out.1] at hb3
                generalize (ls R m).length = n2 at r0 HR2 HR3
                generalize rankI i (ls R m) = p at HBD HR2 hb1
                generalize rankI (idxI m l) (ls R m) = z at HBD HR3 hb2
                generalize idxI m l = o at HBD HR3 HIM hb3
                clear hrB hlB HD h1
                by_cases hp : p < 8
                · by_cases ho : o < 0
                  · have HN := Lib.hid (HF.out (by rw [HD2.out, if_pos (by rw [HBD.out, decide_eq_true hp, decide_eq_true ho]; rfl)]))
                    go_wp2_with fail
                    refine HIM.out.mono ?_
                    rintro e w' ⟨rfl, rfl⟩
                    go_wp2_with fail
                    refine HR2.out.mono ?_
                    rintro e w' ⟨rfl, rfl⟩
                    go_wp2_with fail
                    go_ret
                    exact ⟨ret_bool HN.out.symm, HB.out⟩
                  · by_cases hz : p < z
                    · have HN := Lib.hid (HF.out (by rw [HD2.out, if_pos (by rw [HBD.out, decide_eq_true hp, decide_eq_false ho, decide_eq_true hz]; rfl)]))
                      go_wp2_with fail
                      refine HIM.out.mono ?_
                      rintro e w' ⟨rfl, rfl⟩
                      go_wp2_with fail
                      refine HR2.out.mono ?_
                      rintro e w' ⟨rfl, rfl⟩
                      go_wp2_with fail
                      refine HR3.out.mono ?_
                      rintro e w' ⟨rfl, rfl⟩
                      go_wp2_with fail
                      go_ret
                      exact ⟨ret_bool HN.out.symm, HB.out⟩
                    · have HN : Hid (scanB (badP R l i) li (r.drop (q + 1)) = scanB (badP R l i) li r) := Lib.hid (by rw [HD2.out, if_neg (by rw [HBD.out, decide_eq_false ho, decide_eq_false hz]; simp)])
                      go_wp2_with fail
                      refine HIM.out.mono ?_
                      rintro e w' ⟨rfl, rfl⟩
                      go_wp2_with fail
                      refine HR2.out.mono ?_
                      rintro e w' ⟨rfl, rfl⟩
                      go_wp2_with fail
                      refine HR3.out.mono ?_
                      rintro e w' ⟨rfl, rfl⟩
                      go_wp2_with fail
                      go_round
                      case rel => exact ⟨q + 1, by omega, by go_num, HN.out⟩
                      case measure => simp [intOf]; omega
                · have HN : Hid (scanB (badP R l i) li (r.drop (q + 1)) = scanB (badP R l i) li r) := Lib.hid (by rw [HD2.out, if_neg (by rw [HBD.out, decide_eq_false hp]; simp)])
                  go_wp2_with fail
                  refine HIM.out.mono ?_
                  rintro e w' ⟨rfl, rfl⟩
                  go_wp2_with fail
                  refine HR2.out.mono ?_
                  rintro e w' ⟨rfl, rfl⟩
                  go_wp2_with fail
                  go_round
                  case rel => exact ⟨q + 1, by omega, by go_num, HN.out⟩
                  case measure => simp [intOf]; omega
            · have HN := Lib.hid (HG.out (by rw [← hsc, List.drop_eq_nil_of_le (by rw [← HNR.out]; omega)]; rfl))
              go_wp2_with fail
              go_round
              case rel => exact ⟨i + 1, by omega, by go_num, HN.out⟩
              case measure => simp [intOf]; omega
        · obtain rfl : i = k := by omega
          go_wp2_with fail
          go_ret
          exact ⟨ret_bool (by rw [HH2.out, hall]), HB.out⟩
end Go.Proofs.Ytodbhgbgeiailaa
