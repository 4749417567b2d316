/- How early all can be done: the program's walk. Conditions: the times read as a list. -/
import Derived.Test.YtiglpcodahkhnaaBestA
import Derived.Test.YtiglpcodahkhnaaClone1
import Derived.Test.YtiglpcodahkhnaaNats
import Derived.BigRegion
namespace Go.Proofs.Ytiglpcodahkhnaa
open Go.RowKit

def sumL (sz : List Int) (n P a : Nat) : List Int := (List.range P).map fun v => if v < a then sumW sz v n else 0
def bestL (sz : List Int) (h P : Nat) : List Int := (List.range P).map fun v => bestW sz h v
def nextL (sz : List Int) (h P a : Nat) : List Int := (List.range P).map fun v => if v < a then bestW sz (h + 1) v else bestW sz h v
theorem sumW_none (sz : List Int) : ∀ n, sumW sz 0 n = 0
  | 0 => rfl
  | n + 1 => by rw [sumW, sumW_none sz n]; simp
theorem sumL_start (sz : List Int) (n P : Nat) : sumL sz n P 1 = List.replicate P 0 := by
  apply List.ext_getElem (by simp [sumL])
  intro i h1 h2
  simp only [sumL, List.getElem_map, List.getElem_range, List.getElem_replicate]
  split
  · rename_i h
    obtain rfl : i = 0 := by omega
    exact sumW_none sz n
  · rfl
theorem sumL_set (sz : List Int) (n P a : Nat) : (sumL sz n P a).set a (sumW sz a n) = sumL sz n P (a + 1) := by
  unfold sumL
  rw [mapR_set]
  refine mapR_congr fun i _ => ?_
  by_cases h : i = a
  · subst h; rw [if_pos rfl, if_pos (by omega)]
  · rw [if_neg h]
    by_cases h2 : i < a
    · rw [if_pos h2, if_pos (by omega)]
    · rw [if_neg h2, if_neg (by omega)]
theorem sumL_done (sz : List Int) (P : Nat) : sumL sz sz.length P P = bestL sz 0 P := mapR_congr fun i hi => by rw [if_pos hi]; rfl
theorem nextL_start (sz : List Int) (h P : Nat) : nextL sz h P 0 = bestL sz h P := mapR_congr fun i hi => by rw [if_neg (by omega)]
theorem nextL_done (sz : List Int) (h P : Nat) : nextL sz h P P = bestL sz (h + 1) P := mapR_congr fun i hi => by rw [if_pos hi]
theorem nextL_set (sz : List Int) (h P a : Nat) : (nextL sz h P a).set a (bestW sz (h + 1) a) = nextL sz h P (a + 1) := by
  unfold nextL
  rw [mapR_set]
  refine mapR_congr fun i _ => ?_
  by_cases e : i = a
  · subst e; rw [if_pos rfl, if_pos (by omega)]
  · rw [if_neg e]
    by_cases h2 : i < a
    · rw [if_pos h2, if_pos (by omega)]
    · rw [if_neg h2, if_neg (by omega)]
def BestIs (sz : List Int) (hands : Int) (n : Nat) (w w' : World) (e : Ending) : Prop :=
  ∃ x, e = .returned (.tuple #[.int .i64 x, .int .i64 (splitCheck sz hands)]) ∧ Below w.heap.size w w' ∧
    (splitCheck sz hands ≠ 0 → x = 0) ∧ (∀ H : Nat, hands = H → splitCheck sz hands = 0 → x = bestW sz (H - 1) (2 ^ n - 1))
attribute [local go_sem ↓] n_shlp
set_option maxRecDepth 100000 in
set_option maxHeartbeats 2000000 in
theorem split_Best (sz : List Int) (hands : Int) (A : Option Addr) (n c : Nat) (w : World) (hl : sz.length = n) (hn : n ≤ maxLen) (hr : Els w w.heap.size 1 icell A sz) :
    Calls Try.prog 15 #[.slice A n c, .int .i64 hands] w fun e w' => BestIs sz hands n w w' e := by
  have HW := Lib.hid (split_wrong sz hands A n c w hl hn hr)
  have HL := Lib.hid hl
  have HR := Lib.hid hr
  clear hr
  go_enter Try.func15, Try.ntmps15
  go_wp2_with fail
  refine HW.out.mono ?_
  clear HW
  rintro e v1 ⟨rfl, hb1⟩
  have HB1 := Lib.hid hb1
  have hz1 := hb1.size
  clear hb1
  by_cases h0 : splitCheck sz hands = 0
  · obtain ⟨h8, ⟨H, rfl, hH, hH4⟩, hbs⟩ := split_good h0
    have HBS := Lib.hid hbs
    rw [hl] at h8
    have HZ := Lib.hid h0
    rw [h0]
    clear hl hbs h0
    have b20 : (n : Int) ≤ 20 := by omega
    have b20n : n ≤ 20 := by omega
    obtain ⟨P, hP⟩ : ∃ P, pw n = P := ⟨_, rfl⟩
    have hP1 : 1 ≤ P := by rw [← hP]; exact Nat.one_le_two_pow
    have hP2 : P ≤ 256 := by rw [← hP]; exact Nat.pow_le_pow_right (by omega) h8
    have HP := Lib.hid hP
    go_wp2_with (at_make; go_loud (refine wpList_make1 rfl _ _ _ rfl v1.heap.size 2 8 (fun x => .int .i64 x) 0 Try.underlying22 (by kernel_rfl) rfl v1 .i64 .i64 P rfl rfl (by omega) (by unfold maxLen; omega) (Nat.le_refl _) ?_; intro v2 hown2 hgrow2))
    obtain ⟨S, hS⟩ : ∃ S, S = v1.heap.size := ⟨_, rfl⟩
    have hwS : w.heap.size ≤ S := by omega
    have hS2 : S < v2.heap.size := by
      have := (hown2.lt v1.heap.size rfl).2
      omega
    have HB2 := Lib.hid (HB1.out.grown hgrow2 hz1 (fun g hg => by cases hg))
    rw [← hS] at hown2 ⊢
    rw [← sumL_start sz n P] at hown2
    have HO2 := Lib.hid hown2
    clear hown2 hgrow2 hS hz1 hP
    go_loopw [8] (fun s8 wr => ∃ a : Nat, 1 ≤ a ∧ a ≤ P ∧ s8 = .int .i64 a ∧ Below w.heap.size w wr ∧ Own wr S 2 1 icell (some ⟨S, 0, none⟩) P (sumL sz n P a)) (fun s8 _ => P - (intOf s8).toNat)
    case atStart => exact ⟨1, by omega, by omega, rfl, HB2.out, HO2.out⟩
    case round =>
      clear HB2 HO2
      rename World => wr
      obtain ⟨a, ha1, haP, rfl, hb, hown⟩ := hrel
      have HB := Lib.hid hb
      have HO := Lib.hid hown
      have hlt' := hown.lt S rfl
      have hz := hb.size
      clear hb hown
      by_cases hlt : a < P
      · have hset0 : (sumL sz n P a).set a (sumW sz a 0) = sumL sz n P a := by
          unfold sumL
          rw [mapR_set]
          refine mapR_congr fun i _ => ?_
          by_cases h : i = a
          · subst h; rw [if_pos rfl, if_neg (by omega)]; rfl
          · rw [if_neg h]
        have HO' : Hid (Own wr S 2 1 icell (some ⟨S, 0, none⟩) P ((sumL sz n P a).set a (sumW sz a 0))) := Lib.hid (by rw [hset0]; exact HO.out)
        clear hset0 HO hlt'
        go_wp2_with fail
        go_loopw [33] (fun s33 w2 => ∃ i : Nat, i ≤ n ∧ s33 = .int .i64 i ∧ Below w.heap.size w w2 ∧ Own w2 S 2 1 icell (some ⟨S, 0, none⟩) P ((sumL sz n P a).set a (sumW sz a i))) (fun s33 _ => n - (intOf s33).toNat)
        case atStart => exact ⟨0, by omega, rfl, HB.out, HO'.out⟩
        case round =>
          clear HB HO' hz
          rename World => w2
          obtain ⟨i, hin, rfl, hb, hown⟩ := hrel
          have HB := Lib.hid hb
          have hz := hb.size
          by_cases hlt2 : i < n
          · have his : i < sz.length := by rw [HL.out]; exact hlt2
            obtain ⟨b, off, rfl, _, g0⟩ := (HR.out.below HB.out).at1 his
            rw [← getD_at sz i his 0] at g0
            have hx := HBS.out i
            have hst : sumW sz a (i + 1) = sumW sz a i + if a.testBit i then sz.getD i 0 else 0 := rfl
            have hsb := sumW_bounds HBS.out a i
            have hal : a < ((sumL sz n P a).set a (sumW sz a i)).length := by simp [sumL]; exact hlt
            obtain ⟨_, he, _, hlt', c0, f0⟩ := hown.cell1 (f := fun x => .int .i64 x) (k := a) hal
            have hp := fun y : Int => hown.put1 (f := fun x => .int .i64 x) (k := a) (x := y) hal
            simp only [List.set_set] at hp
            rw [List.getElem_set_self] at c0
            obtain rfl : S = _ := by simpa using he
            have q1 := n_bit1 a i (by omega)
            obtain ⟨x, hxx⟩ : ∃ x, x = sz.getD i 0 := ⟨_, rfl⟩
            obtain ⟨z, hzz⟩ : ∃ z, z = sumW sz a i := ⟨_, rfl⟩
            rw [← hxx] at g0 hx hst
            rw [← hzz] at hst hsb c0
            have HST := Lib.hid hst
            have HOW := Lib.hid hown
            have HPU := Lib.hid hp
            have HZZ := Lib.hid hzz
            clear hb hown hp hst hxx hzz he hal
            rcases bool_or (a.testBit i) with hbit | hbit
            · have HT := Lib.hid hbit
              rw [hbit] at q1
              clear hbit
              go_wp2_with fail
              go_roundw
              case rel => exact ⟨i + 1, by omega, by go_num, HB.out, by rw [HST.out, HT.out, HZZ.out]; simpa using HOW.out⟩
              case measure => simp [intOf]; omega
            · have HT := Lib.hid hbit
              rw [hbit] at q1
              clear hbit
              go_wp2_with fail
              go_roundw
              case rel => exact ⟨i + 1, by omega, by go_num, HB.out.setCell (by exact hwS) _, by rw [HST.out, HT.out]; exact HPU.out (z + x)⟩
              case measure => simp [intOf]; omega
          · obtain rfl : i = n := by omega
            have HB := Lib.hid hb
            rw [sumL_set] at hown
            have HO := Lib.hid hown
            clear hb hown
            go_wp2_with fail
            go_roundw
            case rel => exact ⟨a + 1, by omega, by omega, by go_num, HB.out, HO.out⟩
            case measure => simp [intOf]; omega
      · have hsum : sumL sz n P a = bestL sz 0 P := by
          rw [show a = P by omega, ← HL.out]
          exact sumL_done sz P
        have hown3 : Own wr S 2 1 icell (some ⟨S, 0, none⟩) P (bestL sz 0 P) := by rw [← hsum]; exact HO.out
        have HOS := Lib.hid hown3
        have HCL := Lib.hid (Clone_longs (some ⟨S, 0, none⟩) P P (bestL sz 0 P) wr (mapR_len _ _) (by omega) hown3.els)
        clear hsum hown3 HO
        go_wp2_with fail
        refine HCL.out.mono ?_
        clear HCL
        rintro e v3 ⟨A3, cap3, rfl, hb3, hown3⟩
        have HB3 := Lib.hid (HB.out.trans (hb3.mono hz))
        have HOS3 := Lib.hid (HOS.out.below hb3 (Nat.le_refl _))
        have HO3 := Lib.hid (hown3.weaken (show S + 1 ≤ wr.heap.size by omega))
        clear hb3 hown3 HB HOS hz hlt'
        go_wp2_with fail
        go_loopw [55, 11] (fun s55 s11 w3 => ∃ (h : Nat) (A4 : Option Addr) (cap : Nat), h ≤ H - 1 ∧ s55 = .int .i64 h ∧ s11 = .slice A4 P cap ∧ Below w.heap.size w w3 ∧ Own w3 S 2 1 icell (some ⟨S, 0, none⟩) P (bestL sz 0 P) ∧ Own w3 (S + 1) 2 1 icell A4 cap (bestL sz h P)) (fun s55 _ _ => H - (intOf s55).toNat)
        case atStart => exact ⟨0, A3, cap3, by omega, rfl, rfl, HB3.out, HOS3.out, HO3.out⟩
        case round =>
          clear HB3 HOS3 HO3 hlt ha1 haP
          rename World => w3
          obtain ⟨h, A4, cap, hhH, rfl, rfl, hb, hos, hob⟩ := hrel
          have hlb : (bestL sz h P).length = P := mapR_len _ _
          obtain ⟨g4, rfl, hg4, hg4'⟩ := hob.form_ (by rw [hlb]; omega)
          have hz := hb.size
          have HB := Lib.hid hb
          have HOS := Lib.hid hos
          have HOB := Lib.hid hob
          have HLB := Lib.hid hlb
          by_cases hlt : h < H - 1
          · have HCL := Lib.hid (Clone_longs (some ⟨g4, 0, none⟩) P cap (bestL sz h P) w3 hlb (by omega) hob.els)
            clear hb hos hob hlb
            go_wp2_with fail
            refine HCL.out.mono ?_
            clear HCL
            rintro e v4 ⟨A5, cap5, rfl, hb4, hon⟩
            obtain ⟨g5, rfl, hg5, hg5'⟩ := hon.form_ (by rw [HLB.out]; omega)
            have HB4 := Lib.hid (HB.out.trans (hb4.mono hz))
            have HOS4 := Lib.hid (HOS.out.below hb4 (Nat.le_refl _))
            have HOB4 := Lib.hid (HOB.out.below hb4 (Nat.le_refl _))
            rw [← nextL_start] at hon
            have HON4 := Lib.hid hon
            clear hb4 hon HB HOS HOB
            obtain ⟨D, hD⟩ : ∃ D, D = w3.heap.size := ⟨_, rfl⟩
            rw [← hD] at hg4' hg5 HON4
            have hwg : w.heap.size ≤ g5 := by omega
            clear hD hz hg5'
            go_wp2_with fail
            go_loopw [61] (fun s61 w5 => ∃ a : Nat, a ≤ P ∧ s61 = .int .i64 a ∧ Below w.heap.size w w5 ∧ Own w5 S 2 1 icell (some ⟨S, 0, none⟩) P (bestL sz 0 P) ∧ Own w5 (S + 1) 2 1 icell (some ⟨g4, 0, none⟩) cap (bestL sz h P) ∧ Own w5 D 2 1 icell (some ⟨g5, 0, none⟩) cap5 (nextL sz h P a)) (fun s61 _ => P - (intOf s61).toNat)
            case atStart => exact ⟨0, by omega, rfl, HB4.out, HOS4.out, HOB4.out, HON4.out⟩
            case round =>
              clear HB4 HOS4 HOB4 HON4
              rename World => w5
              obtain ⟨a, haP, rfl, hb, hos, hob, hon⟩ := hrel
              have HB := Lib.hid hb
              have HOS := Lib.hid hos
              have HOB := Lib.hid hob
              by_cases hlt2 : a < P
              · have hst : (nextL sz h P a).set a (bestW sz h a) = nextL sz h P a := by
                  unfold nextL
                  rw [mapR_set]
                  refine mapR_congr fun i _ => ?_
                  by_cases e : i = a
                  · subst e; rw [if_pos rfl, if_neg (by omega)]
                  · rw [if_neg e]
                rw [← hst] at hon
                have HON := Lib.hid hon
                clear hb hos hob hon hst
                go_wp2_with fail
                go_loopw [14] (fun s14 w6 => ∃ (s : Nat) (x : Int), s14 = .int .i64 s ∧ s &&& a = s ∧ dn (fun s => max (sumW sz s sz.length) (bestW sz h (a ^^^ s))) a s x = bestW sz (h + 1) a ∧ Below w.heap.size w w6 ∧ Own w6 S 2 1 icell (some ⟨S, 0, none⟩) P (bestL sz 0 P) ∧ Own w6 (S + 1) 2 1 icell (some ⟨g4, 0, none⟩) cap (bestL sz h P) ∧ Own w6 D 2 1 icell (some ⟨g5, 0, none⟩) cap5 ((nextL sz h P a).set a x)) (fun s14 _ => (intOf s14).toNat)
                case atStart => exact ⟨a, bestW sz h a, rfl, Nat.and_self a, (bestW_s sz h a).symm, HB.out, HOS.out, HOB.out, HON.out⟩
                case round =>
                  clear HB HOS HOB HON
                  rename World => w6
                  obtain ⟨s, x, rfl, hsa, hdn, hb, hos, hob, hon⟩ := hrel
                  have hsle := sub_le hsa
                  have hz := hb.size
                  have HB := Lib.hid hb
                  have HOS := Lib.hid hos
                  have HOB := Lib.hid hob
                  have HDN := Lib.hid hdn
                  by_cases hs0 : 0 < s
                  · have hxl := xor_le hsa
                    obtain ⟨_, e1, _, _, c1, _⟩ := hos.cell1 (f := fun x => .int .i64 x) (k := s) (by rw [show (bestL sz 0 P).length = P from mapR_len _ _]; omega)
                    obtain ⟨_, e2, _, _, c2, _⟩ := hob.cell1 (f := fun x => .int .i64 x) (k := nXor a s) (by rw [HLB.out]; omega)
                    have hal : a < ((nextL sz h P a).set a x).length := by rw [List.length_set, show (nextL sz h P a).length = P from mapR_len _ _]; exact hlt2
                    obtain ⟨_, e3, _, hg5'', c3, f3⟩ := hon.cell1 (f := fun x => .int .i64 x) (k := a) hal
                    have hp := fun y : Int => hon.put1 (f := fun x => .int .i64 x) (k := a) (x := y) hal
                    simp only [List.set_set] at hp
                    rw [List.getElem_set_self] at c3
                    obtain rfl : S = _ := by simpa using e1
                    obtain rfl : g4 = _ := by simpa using e2
                    obtain rfl : g5 = _ := by simpa using e3
                    have d1 : (bestL sz 0 P)[s]'(by rw [show (bestL sz 0 P).length = P from mapR_len _ _]; omega) = sumW sz s sz.length := by unfold bestL; rw [mapR_get]; rfl
                    have d2 : (bestL sz h P)[nXor a s]'(by rw [HLB.out]; omega) = bestW sz h (a ^^^ s) := by unfold bestL; rw [mapR_get]; rfl
                    rw [d1] at c1
                    rw [d2] at c2
                    have hdn2 := dn_s (fun s => max (sumW sz s sz.length) (bestW sz h (a ^^^ s))) a s x hs0
                    have HD2 := Lib.hid (hdn2.symm.trans hdn)
                    have q1 := n_but a s (by omega) hsa
                    have q2 := n_and (s - 1) a (by omega) (by omega)
                    rw [Int.natCast_sub (by omega), show ((1 : Nat) : Int) = 1 from rfl] at q2
                    have HSA2 : Hid (nAnd (s - 1) a &&& a = nAnd (s - 1) a) := Lib.hid (sub_sub a s)
                    have hslt : nAnd (s - 1) a < s := sub_lt hs0
                    obtain ⟨u, hu⟩ : ∃ u, u = sumW sz s sz.length := ⟨_, rfl⟩
                    obtain ⟨v, hv⟩ : ∃ v, v = bestW sz h (a ^^^ s) := ⟨_, rfl⟩
                    rw [← hu] at c1
                    rw [← hv] at c2
                    have HF : Hid (max (sumW sz s sz.length) (bestW sz h (a ^^^ s)) = max u v) := Lib.hid (by rw [hu, hv])
                    have hmin : (if (if u < v then v else u) < x then (if u < v then v else u) else x) = min x (max u v) := by
                      (repeat' split) <;> omega
                    have HMIN := Lib.hid hmin
                    clear hmin
                    have HPU := Lib.hid hp
                    have HFS := Lib.hid (fun y : Int => hos.far (p := ⟨g5, a, none⟩) (show blkOf (some ⟨S, 0, none⟩) ≠ some g5 by simp [blkOf]; omega) (.int .i64 y))
                    have HFB := Lib.hid (fun y : Int => hob.far (p := ⟨g5, a, none⟩) (show blkOf (some ⟨g4, 0, none⟩) ≠ some g5 by simp [blkOf]; omega) (.int .i64 y))
                    clear hb hos hob hon hdn hdn2 e1 e2 e3 hp d1 d2 hu hv hal
                    go_wp2_with fail
                    go_region
                    all_goals
                      go_wp2_with fail
                      go_roundw
                      case rel => exact ⟨nAnd (s - 1) a, if (if u < v then v else u) < x then (if u < v then v else u) else x, rfl, HSA2.out, by rw [HMIN.out, ← HF.out]; exact HD2.out, (HB.out.setCell (p := ⟨g5, a, none⟩) hwg _).drew, (HFS.out _).drew, (HFB.out _).drew, (HPU.out _).drew⟩
                      case measure => simp [intOf]; omega
                  · obtain rfl : s = 0 := by omega
                    have hxx : x = bestW sz (h + 1) a := by rw [← hdn]; rfl
                    rw [hxx, nextL_set] at hon
                    have HON := Lib.hid hon
                    clear hb hos hob hon hdn hxx
                    go_wp2_with fail
                    go_roundw
                    case rel => exact ⟨a + 1, by omega, by go_num, HB.out, HOS.out, HOB.out, HON.out⟩
                    case measure => simp [intOf]; omega
              · obtain haP' : a = P := by omega
                rw [haP', nextL_done] at hon
                have HON := Lib.hid (hon.weaken (show S + 1 ≤ D by omega))
                clear hb hos hob hon haP'
                go_wp2_with fail
                go_roundw
                case rel => exact ⟨h + 1, _, _, by omega, by go_num, rfl, HB.out, HOS.out, HON.out⟩
                case measure => simp [intOf]; omega
          · obtain ⟨_, e2, _, _, c2, _⟩ := hob.cell1 (f := fun x => .int .i64 x) (k := P - 1) (by rw [hlb]; omega)
            obtain rfl : g4 = _ := by simpa using e2
            have d2 : (bestL sz h P)[P - 1]'(by rw [HLB.out]; omega) = bestW sz h (P - 1) := by unfold bestL; rw [mapR_get]
            rw [d2] at c2
            obtain ⟨x, hx⟩ : ∃ x, x = bestW sz h (P - 1) := ⟨_, rfl⟩
            rw [← hx] at c2
            have HX : Hid (x = bestW sz (H - 1) (2 ^ n - 1)) := by
              show x = _
              have hPP := HP.out
              unfold pw at hPP
              rw [hx, hPP, show h = H - 1 by omega]
            clear hb hos hob hlb e2 d2 hx
            go_wp2_with fail
            refine bodyPost_ret (v := .tuple #[.int .i64 x, .int .i64 0]) (by simp [results, Try.results15, go_sem]) rfl ?_
            refine ⟨x, by rw [HZ.out], HB.out, fun h => absurd HZ.out h, fun H' hh _ => ?_⟩
            obtain rfl : H = H' := by omega
            exact HX.out
  · have h1 : (splitCheck sz hands != 0) = true := by simpa using h0
    have H0 := Lib.hid h0
    obtain ⟨x, hx⟩ : ∃ x, x = splitCheck sz hands := ⟨_, rfl⟩
    rw [← hx] at h1 ⊢
    have HX := Lib.hid hx
    clear hl h0 hx
    go_wp2_with fail
    refine bodyPost_ret (v := .tuple #[.int .i64 0, .int .i64 x]) (by simp [results, Try.results15, go_sem]) rfl ?_
    exact ⟨0, by rw [HX.out], HB1.out, fun _ => rfl, fun _ _ h => absurd h H0.out⟩
end Go.Proofs.Ytiglpcodahkhnaa
