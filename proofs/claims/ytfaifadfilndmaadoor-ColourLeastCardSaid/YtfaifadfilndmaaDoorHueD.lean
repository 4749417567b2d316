/- The first colouring by so many colours: the reference's search. Conditions: the edges read as a list. -/
import Derived.Test.YtfaifadfilndmaaDoorHueC
import Derived.Test.YtfaifadfilndmaaDoorNearR
import Derived.Test.YtfaifadfilndmaaDoorSnoc
import Derived.Test.YtfaifadfilndmaaDoorPushFull
import Derived.Test.YtfaifadfilndmaaDoorGoOn
namespace Go.Proofs.YtfaifadfilndmaaDoor
open Go.RowKit Go.Shelf
attribute [local go_sem] Oper.semAt_some

def PnRes (r : Option (List Nat)) (R : Option Addr) (kk : Nat) (b : Bool) (w : World) : Prop :=
  match r with
  | some u => b = true ∧ kk = u.length ∧ Els w w.heap.size 1 icell R (intsOf u)
  | none => b = false
def stepP (es : List Ed) (k f : Nat) (l : List Nat) (c : Nat) : Option (List Nat) := if okC es l c then paintF es k f (l ++ [c]) else none
theorem range_all_succ (p : Nat → Bool) (n : Nat) : (List.range (n + 1)).all p = ((List.range n).all p && p n) := by
  rw [List.range_succ, List.all_append]
  simp

set_option maxRecDepth 100000 in
set_option maxHeartbeats 8000000 in
theorem ref_paint (N : Nat) (A : Option Addr) (n c : Nat) (es : List Ed) (k : Nat) (hk : k ≤ 20) (hl : es.length = n) (hg : GoodG N es) : ∀ (f : Nat) (l : List Nat) (L : Option Addr) (m cl : Nat) (w : World), l.length = m → m + f = N →
    Els w w.heap.size 3 Ed.cells A es → Els w w.heap.size 1 icell L (intsOf l) →
    Calls Tryd.prog 68 #[.agg #[.int .i64 N, .slice A n c], .int .i64 k, .slice L m cl] w fun e w' => ∃ (R : Option Addr) (kk cr : Nat) (b : Bool), e = .returned (.tuple #[.slice R kk cr, .bool b]) ∧ Below w.heap.size w w' ∧ PnRes (paintF es k f l) R kk b w' := by
  have hN := hg.n10
  have hn := hg.m45
  rw [hl] at hn
  have HL := Lib.hid hl
  clear hl hg
  intro f
  induction f with
  | zero =>
    intro l L m cl w hlm hmf hre hrl
    obtain rfl : m = N := by omega
    have hb0 : Below w.heap.size w (w.alloc (.cells #[.int .i64 m, .slice A n c] 24)) := (Below.refl _ w).alloc (Nat.le_refl _) _
    have hk0 : Blk (w.alloc (.cells #[.int .i64 m, .slice A n c] 24)) w.heap.size 24 #[.int .i64 m, .slice A n c] := Blk.new w _ _
    have HR := Lib.hid ((hrl.below hb0).more hb0.size)
    have HB := Lib.hid hb0
    have d0 := hk0.cell 0
    have hne : ((m : Int) == (m : Int)) = true := by simp
    have HM := Lib.hid hlm
    clear hrl hre hlm hmf hk0 hb0
    go_enter Tryd.func68, Tryd.ntmps68
    go_wp2_with fail
    refine bodyPost_ret (v := .tuple #[.slice L m cl, .bool true]) (by simp [results, Tryd.results68, go_sem]) rfl ?_
    exact ⟨L, m, cl, true, rfl, HB.out, rfl, HM.out.symm, HR.out⟩
  | succ f ih =>
    intro l L m cl w hlm hmf hre hrl
    have HIH := Lib.hid ih
    have HM := Lib.hid hlm
    have HRE := Lib.hid hre
    have HRL := Lib.hid hrl
    obtain ⟨S, hS⟩ : ∃ S, S = w.heap.size := ⟨_, rfl⟩
    obtain ⟨W1, hW1⟩ : ∃ W1, W1 = w.alloc (.cells #[.int .i64 N, .slice A n c] 24) := ⟨_, rfl⟩
    have hb1 : Below S w W1 := by rw [hW1, hS]; exact (Below.refl _ w).alloc (Nat.le_refl _) _
    have hk1 : Blk W1 S 24 #[.int .i64 N, .slice A n c] := by rw [hW1, hS]; exact Blk.new w _ _
    have hmN : ((m : Int) == (N : Int)) = false := by simp; omega
    have hmN2 : ¬ m = N := by omega
    have hmk : decide (m = N) = false := decide_eq_false hmN2
    have e0 := hk1.cell 0
    have HB1 := Lib.hid hb1
    have HK1 := Lib.hid hk1
    have HS := Lib.hid hS
    have HF : Hid (paintF es k (f + 1) l = (List.range k).findSome? (stepP es k f l)) := Lib.hid rfl
    rw [← hS] at hre hrl
    have HRE := Lib.hid hre
    have HRL := Lib.hid hrl
    rw [hW1] at e0
    have HW1 := Lib.hid hW1
    clear ih hlm hre hrl hb1 hk1 hW1
    go_enter Tryd.func68, Tryd.ntmps68
    go_wp2_with fail
    rw [← hS, ← HW1.out]
    clear e0 HW1 hS
    go_loopw [8] (fun v wr => ∃ q : Nat, q ≤ k ∧ v = .int .i64 q ∧ Below S w wr ∧ Blk wr S 24 #[.int .i64 N, .slice A n c] ∧ (List.range q).findSome? (stepP es k f l) = none) (fun v _ => k - (intOf v).toNat)
    case atStart => exact ⟨0, by omega, rfl, HB1.out, HK1.out, rfl⟩
    case round =>
      clear HB1 HK1
      rename World => wr
      obtain ⟨q, hq, rfl, hb, hkb, hno⟩ := hrel
      have HB := Lib.hid hb
      have HK := Lib.hid hkb
      have HNO := Lib.hid hno
      have hSlt := hkb.lt
      have d0 := hkb.cell 0
      have d1 := hkb.cell 1
      clear hno
      by_cases hlt : q < k
      · clear d0 d1
        go_wp2_with fail
        go_loopw [9, 10] (fun b v wi => ∃ j : Nat, j ≤ m ∧ v = .int .i64 j ∧ b = .bool ((List.range j).all fun j => l.getD j 0 != q || !adj es j l.length) ∧ Below S w wi ∧ Blk wi S 24 #[.int .i64 N, .slice A n c]) (fun _ v _ => m - (intOf v).toNat)
        case atStart => exact ⟨0, by omega, rfl, rfl, HB.out, HK.out⟩
        case round =>
          clear HB HK hb hkb
          rename World => wi
          obtain ⟨j, hj, rfl, rfl, hb, hkb⟩ := hrel
          have HB := Lib.hid hb
          have HK := Lib.hid hkb
          have d0 := hkb.cell 0
          have d1 := hkb.cell 1
          have hSlt := hkb.lt
          have hz : S ≤ wi.heap.size := by have := hb.size; rw [← HS.out] at this; exact this
          obtain ⟨bo, hbo⟩ : ∃ b, b = (List.range j).all fun j => l.getD j 0 != q || !adj es j l.length := ⟨_, rfl⟩
          rw [← hbo]
          have HBO := Lib.hid hbo
          by_cases hjm : j < m
          · have hji : (j : Int) < (m : Int) := by omega
            have hil : j < (intsOf l).length := by rw [intsOf, List.length_map, HM.out]; exact hjm
            have hNE := Lib.hid (ref_Near N j m A n c es wi HL.out hn ((HRE.out.below hb).more (by omega)))
            obtain ⟨b2, off2, rfl, _, g2⟩ := (HRL.out.below hb).at1 hil
            obtain ⟨z, hzz⟩ : ∃ z, z = l.getD j 0 := ⟨_, rfl⟩
            have hgl : (intsOf l)[j] = ((z : Nat) : Int) := by
              rw [hzz, List.getD_eq_getElem?_getD, List.getElem?_eq_getElem (show j < l.length by rw [HM.out]; exact hjm)]
              simp [intsOf]
            rw [hgl] at g2
            obtain ⟨bt, hbt⟩ : ∃ bt, bt = adj es j m := ⟨_, rfl⟩
            rw [← hbt] at hNE
            have HST : Hid ((List.range (j + 1)).all (fun j => l.getD j 0 != q || !adj es j l.length) = (bo && (z != q || !bt))) := Lib.hid (by rw [range_all_succ, ← hbo, ← hzz, HM.out, ← hbt])
            clear hgl hzz hbt hbo hil hb hkb
            cases bo with
            | false =>
              go_wp2_with fail
              go_roundw
              case rel => exact ⟨j + 1, by omega, by go_num, by rw [HST.out]; rfl, HB.out, HK.out⟩
              case measure => simp [intOf]; omega
            | true =>
              by_cases hzq : z = q
              · have hz1 : ((z : Int) != (q : Int)) = false := by simp; omega
                have hz2 : decide (z = q) = true := decide_eq_true hzq
                have hz3 : (z != q) = false := by simp [hzq]
                clear hzq
                go_wp2_with fail
                refine hNE.out.mono ?_
                clear hNE
                rintro e w3 ⟨rfl, hb3⟩
                have HB3 := Lib.hid (HB.out.trans (hb3.mono hz))
                have HK3 := Lib.hid (HK.out.below hb3 hSlt)
                clear hb3
                go_wp2_with fail
                go_roundw
                case rel => exact ⟨j + 1, by omega, by go_num, by rw [HST.out, hz3]; simp, HB3.out, HK3.out⟩
                case measure => simp [intOf]; omega
              · have hz1 : ((z : Int) != (q : Int)) = true := by simp; omega
                have hz2 : decide (z = q) = false := decide_eq_false hzq
                have hz3 : (z != q) = true := by simp [hzq]
                clear hzq
                go_wp2_with fail
                go_roundw
                case rel => exact ⟨j + 1, by omega, by go_num, by rw [HST.out, hz3]; rfl, HB.out, HK.out⟩
                case measure => simp [intOf]; omega
          · have hjm' : j = m := by omega
            have HOK : Hid (bo = okC es l q) := Lib.hid (by rw [hbo, hjm', okC, HM.out])
            clear hbo HBO hjm'
            cases bo with
            | false =>
              go_wp2_with fail
              go_roundw
              case rel => exact ⟨q + 1, by omega, by go_num, HB.out, HK.out, range_none HNO.out (by unfold stepP; rw [← HOK.out]; rfl)⟩
              case measure => simp [intOf]; omega
            | true =>
              have HST : Hid (stepP es k f l q = paintF es k f (l ++ [q])) := Lib.hid (by unfold stepP; rw [← HOK.out]; rfl)
              clear HOK hb hkb
              have HKW := Lib.hid (fun (v : World) (hv : Below (S + 1) wi v) => (⟨(HK.out.below hv (Nat.lt_succ_self S)).cell 0, (HK.out.below hv (Nat.lt_succ_self S)).cell 1⟩ : v.cell? ⟨S, 0, none⟩ = _ ∧ v.cell? ⟨S, 1, none⟩ = _))
              obtain ⟨u0, hu0⟩ : ∃ u0, u0 = wi.drew := ⟨_, rfl⟩
              have hb0 : Below (S + 1) wi u0 := by rw [hu0]; exact (Below.refl _ wi).drew
              obtain ⟨D, hD⟩ : ∃ D, D = u0.heap.size := ⟨_, rfl⟩
              have hSD : S + 1 ≤ D := by rw [hD]; exact Nat.le_trans hSlt hb0.size
              have HRL0 := Lib.hid ((HRL.out.below HB.out).below (hb0.mono (Nat.le_succ S)))
              have HRE0 := Lib.hid ((HRE.out.below HB.out).below (hb0.mono (Nat.le_succ S)))
              have HLI : Hid ((intsOf l).length = m) := Lib.hid (by rw [intsOf, List.length_map]; exact HM.out)
              have HB0 := Lib.hid hb0
              have HD := Lib.hid hD
              have HU0 := Lib.hid hu0
              have hC0 : Hid (∀ v, Below D u0 v → Below (S + 1) wi v) := Lib.hid (fun v hv => HB0.out.trans (hv.mono hSD))
              have hDD := Lib.hid (Below.refl D u0)
              clear hb0 hD hu0 d0 d1
              go_wp2_with fail
              refine region_plain 99 14 (fun w' => Below (S + 1) wi w') (by kernel_rfl) rfl ?_
              rw [← HU0.out]
              refine anyC_reads (by kernel_rfl) [0, 1, 3, 5] ?opg ?ohg 10 _ _ _ (by kernel_rfl) ?okg
              case ohg => (simp only [List.filterMap_cons, List.filterMap_nil, List.getElem?_toArray, List.getElem?_cons_zero, List.getElem?_cons_succ]; try rfl)
              repeat (
                refine readC_step (v := ?_) rfl (fun w' hw' => ?_) ?_
                rotate_left
                focus (obtain ⟨p0, p1⟩ := HKW.out w' hw'; go_simp; try with_reducible rfl)
                go_simp)
              refine readC_nil ?_
              refine anyC_two (i := 2) (j := 6) (by kernel_rfl) rfl rfl rfl rfl (.inr (hC0.out _ hDD.out)) ?_ ?_
              · go_simp
                obtain ⟨u1, hu1⟩ : ∃ u, u = u0.alloc (.cells #[] 3) := ⟨_, rfl⟩
                obtain ⟨gE, hgE⟩ : ∃ g, g = u0.heap.size := ⟨_, rfl⟩
                have hgD : D ≤ gE := by rw [hgE, HD.out]; exact hDD.out.size
                have HOE : Hid (Own u1 D 3 1 icell (some ⟨gE, 0, none⟩) 0 ([] : List Int)) := Lib.hid (by rw [hu1]; exact (Own.empty_at hgE.symm 3 1 icell (fun _ => rfl)).weaken hgD)
                have HBL1 : Hid (Below D u0 u1) := Lib.hid (by rw [hu1]; exact hDD.out.alloc (by rw [← hgE]; exact hgD) _)
                rw [← hu1, ← hgE]
                clear hu1 hgE
                refine anyC_two (i := 4) (j := 6) (by kernel_rfl) rfl rfl rfl rfl (.inr (hC0.out _ HBL1.out)) ?_ ?_
                · refine wp_append_els _ _ 31 rfl D 1 3 (.int .i64 0) 8 Tryd.underlying31 (by kernel_rfl) rfl (by omega) icell _ (some ⟨gE, 0, none⟩) 0 0 [] rfl rfl HOE.out _ _ _ (intsOf l) HLI.out rfl S (HRL0.out.below (HBL1.out.mono (by omega))) (one_flat (fun a u hu => by simp at hu; rw [hu]; rfl) _) (by unfold maxLen; omega) (by omega) (by rw [HD.out]; exact HBL1.out.size) ?_
                  intro A2 cap2 u2 hown2 hgrow2 hloc2
                  have HBL2 : Hid (Below D u0 u2) := Lib.hid (HBL1.out.grown hgrow2 (by rw [HD.out]; exact HBL1.out.size) (fun g hg => by
                    have : gE = g := by simpa [blkOf] using hg
                    omega))
                  have HOA2 : Hid (Own u2 D 3 1 icell A2 cap2 ([] ++ intsOf l)) := Lib.hid hown2
                  clear hown2 hgrow2 hloc2
                  go_simp
                  refine anyC_one (i := 6) (by kernel_rfl) rfl rfl (.inr (hC0.out _ HBL2.out)) ?_
                  go_simp
                  obtain ⟨u3, hu3⟩ : ∃ u, u = u2.alloc (.cells #[.int .i64 q] 3) := ⟨_, rfl⟩
                  obtain ⟨gK, hgKe⟩ : ∃ g, g = u2.heap.size := ⟨_, rfl⟩
                  have hgKD : D ≤ gK := by rw [hgKe, HD.out]; exact HBL2.out.size
                  have HEK3 : Hid (Blk u3 gK 3 #[.int .i64 (q : Int)]) := Lib.hid (by rw [hu3, hgKe]; exact Blk.new _ _ _)
                  have hgKlt : gK < u3.heap.size := by rw [hu3, size_alloc', hgKe]; exact Nat.lt_succ_self _
                  have HBL3 : Hid (Below D u0 u3) := Lib.hid (by rw [hu3]; exact HBL2.out.alloc (by rw [← hgKe]; exact hgKD) _)
                  have HOA3 : Hid (Own u3 D 3 1 icell A2 cap2 ([] ++ intsOf l)) := Lib.hid (by rw [hu3]; exact HOA2.out.alloc _)
                  rw [← hu3, ← hgKe]
                  clear hu3 hgKe
                  refine anyC_one (i := 7) (by kernel_rfl) rfl rfl (.inr (hC0.out _ HBL3.out)) ?_
                  refine wp_append_els _ _ 31 rfl D 1 3 (.int .i64 0) 8 Tryd.underlying31 (by kernel_rfl) rfl (by omega) icell _ A2 m cap2 ([] ++ intsOf l) (by rw [List.nil_append, HLI.out]) rfl HOA3.out _ 1 1 [(q : Int)] rfl rfl _ (els_of_blk HEK3.out 1 icell (fun _ => rfl) [(q : Int)] rfl) (by simp [Value.oneCell']) (by unfold maxLen; omega) (by omega) (by rw [HD.out]; exact HBL3.out.size) ?_
                  intro A3 cap3 w6 hown3 hgrow3 hloc3
                  have hb6 : Below D u0 w6 := HBL3.out.grown hgrow3 (by rw [HD.out]; exact HBL3.out.size) (fun g hg => (HOA3.out.lt g hg).1)
                  have he6 : [] ++ intsOf l ++ [(q : Int)] = intsOf (l ++ [q]) := by simp [intsOf]
                  rw [he6] at hown3
                  have hbw6 : Below (S + 1) wi w6 := hC0.out _ hb6
                  have HBW6 := Lib.hid hbw6
                  have hbS6 : Below S w w6 := HB.out.trans (hbw6.mono (Nat.le_succ S))
                  have HBS6 := Lib.hid hbS6
                  have HCALL := Lib.hid (HIH.out (l ++ [q]) A3 (m + 1) cap3 w6 (by rw [List.length_append, HM.out]; rfl) (by omega) ((HRE.out.below hbS6).more (by have := hbS6.size; rw [← HS.out] at this; exact this)) hown3.els)
                  have HK6 := Lib.hid (HK.out.below hbw6 (Nat.lt_succ_self S))
                  have hS6 : S ≤ w6.heap.size := by have := hbS6.size; rw [← HS.out] at this; exact this
                  clear hown3 hgrow3 hloc3 hb6 he6 hbw6 hbS6
                  go_simp
                  refine anyC_one (i := 8) (by kernel_rfl) rfl rfl (.inr HBW6.out) ?_
                  go_simp
                  try rw [show 0 + m + 1 = m + 1 by omega]
                  refine HCALL.out.mono ?_
                  clear HCALL
                  rintro e w7 ⟨R, kk, cr, bb, rfl, hb7, hres⟩
                  have hbw7 : Below (S + 1) wi w7 := HBW6.out.trans (hb7.mono (by have := HK6.out.lt; omega))
                  have HBW7 := Lib.hid hbw7
                  have HB7 := Lib.hid (HBS6.out.trans (hb7.mono hS6))
                  have HK7 := Lib.hid (HK6.out.below hb7 HK6.out.lt)
                  have HRES := Lib.hid hres
                  clear hb7 hbw7 hres
                  go_simp
                  refine anyC_reads (by kernel_rfl) [9, 10, 11, 12, 13] ?op1 ?oh1 0 _ _ _ (by kernel_rfl) ?ok1
                  case oh1 => (simp only [List.filterMap_cons, List.filterMap_nil, List.getElem?_toArray, List.getElem?_cons_zero, List.getElem?_cons_succ]; try rfl)
                  repeat (
                    refine readC_step (v := ?_) rfl (fun w' hw' => ?_) ?_
                    rotate_left
                    focus (clear hw'; go_simp; try with_reducible rfl)
                    go_simp)
                  refine readC_nil ?_
                  refine anyC_end (by kernel_rfl) (.inr HBW7.out) ?_
                  cases hrow : paintF es k f (l ++ [q]) with
                  | none =>
                    have hres := HRES.out
                    rw [hrow] at hres
                    have hg : bb = false := hres
                    subst hg
                    have HROW := Lib.hid hrow
                    clear hrow hres HRES
                    go_wp2_with fail
                    go_roundw
                    case rel => exact ⟨q + 1, by omega, by go_num, HB7.out, HK7.out, range_none HNO.out (by rw [HST.out]; exact HROW.out)⟩
                    case measure => simp [intOf]; omega
                  | some u =>
                    have hres := HRES.out
                    rw [hrow] at hres
                    obtain ⟨rfl, hkk, he7⟩ := hres
                    have HE7 := Lib.hid he7
                    have HKK := Lib.hid hkk
                    have HALL := Lib.hid (range_some hlt HNO.out (HST.out.trans hrow))
                    clear hrow he7 hkk HRES
                    go_wp2_with fail
                    refine bodyPost_ret (v := .tuple #[.slice R kk cr, .bool true]) (by simp [results, Tryd.results68, go_sem]) rfl ?_
                    refine ⟨R, kk, cr, true, rfl, by rw [← HS.out]; exact HB7.out, ?_⟩
                    rw [HF.out, HALL.out]
                    exact ⟨rfl, HKK.out, HE7.out⟩
                · go_simp
                  obtain ⟨u2, hu2⟩ : ∃ u, u = u1.alloc (.cells #[.int .i64 q] 3) := ⟨_, rfl⟩
                  obtain ⟨gK, hgKe⟩ : ∃ g, g = u1.heap.size := ⟨_, rfl⟩
                  have hgKD : D ≤ gK := by rw [hgKe, HD.out]; exact HBL1.out.size
                  have HEK2 : Hid (Blk u2 gK 3 #[.int .i64 (q : Int)]) := Lib.hid (by rw [hu2, hgKe]; exact Blk.new _ _ _)
                  have hgKlt : gK < u2.heap.size := by rw [hu2, size_alloc', hgKe]; exact Nat.lt_succ_self _
                  have HBL2 : Hid (Below D u0 u2) := Lib.hid (by rw [hu2]; exact HBL1.out.alloc (by rw [← hgKe]; exact hgKD) _)
                  have hgKE : gE < gK := by rw [hgKe]; exact (own_lt HOE.out).2
                  have HOE2 : Hid (Own u2 D 3 1 icell (some ⟨gE, 0, none⟩) 0 ([] : List Int)) := Lib.hid (by rw [hu2]; exact HOE.out.alloc _)
                  rw [← hu2, ← hgKe]
                  clear hu2 hgKe
                  refine anyC_one (i := 4) (by kernel_rfl) rfl rfl (.inr (hC0.out _ HBL2.out)) ?_
                  refine wp_append_els _ _ 31 rfl D 1 3 (.int .i64 0) 8 Tryd.underlying31 (by kernel_rfl) rfl (by omega) icell _ (some ⟨gE, 0, none⟩) 0 0 [] rfl rfl HOE2.out _ _ _ (intsOf l) HLI.out rfl S (HRL0.out.below (HBL2.out.mono (by omega))) (one_flat (fun a u hu => by simp at hu; rw [hu]; rfl) _) (by unfold maxLen; omega) (by omega) (by rw [HD.out]; exact HBL2.out.size) ?_
                  intro A2 cap2 u3 hown2 hgrow2 hloc2
                  have HBL3 : Hid (Below D u0 u3) := Lib.hid (HBL2.out.grown hgrow2 (by rw [HD.out]; exact HBL2.out.size) (fun g hg => by
                    have : gE = g := by simpa [blkOf] using hg
                    omega))
                  have HOA3 : Hid (Own u3 D 3 1 icell A2 cap2 ([] ++ intsOf l)) := Lib.hid hown2
                  have HEK3 : Hid (Blk u3 gK 3 #[.int .i64 (q : Int)]) := Lib.hid (HEK2.out.grown hgrow2 (fun he => by
                    have : gK = gE := by simpa [blkOf] using he
                    omega))
                  clear hown2 hgrow2 hloc2
                  go_simp
                  refine anyC_one (i := 7) (by kernel_rfl) rfl rfl (.inr (hC0.out _ HBL3.out)) ?_
                  refine wp_append_els _ _ 31 rfl D 1 3 (.int .i64 0) 8 Tryd.underlying31 (by kernel_rfl) rfl (by omega) icell _ A2 m cap2 ([] ++ intsOf l) (by rw [List.nil_append, HLI.out]) rfl HOA3.out _ 1 1 [(q : Int)] rfl rfl _ (els_of_blk HEK3.out 1 icell (fun _ => rfl) [(q : Int)] rfl) (by simp [Value.oneCell']) (by unfold maxLen; omega) (by omega) (by rw [HD.out]; exact HBL3.out.size) ?_
                  intro A3 cap3 w6 hown3 hgrow3 hloc3
                  have hb6 : Below D u0 w6 := HBL3.out.grown hgrow3 (by rw [HD.out]; exact HBL3.out.size) (fun g hg => (HOA3.out.lt g hg).1)
                  have he6 : [] ++ intsOf l ++ [(q : Int)] = intsOf (l ++ [q]) := by simp [intsOf]
                  rw [he6] at hown3
                  have hbw6 : Below (S + 1) wi w6 := hC0.out _ hb6
                  have HBW6 := Lib.hid hbw6
                  have hbS6 : Below S w w6 := HB.out.trans (hbw6.mono (Nat.le_succ S))
                  have HBS6 := Lib.hid hbS6
                  have HCALL := Lib.hid (HIH.out (l ++ [q]) A3 (m + 1) cap3 w6 (by rw [List.length_append, HM.out]; rfl) (by omega) ((HRE.out.below hbS6).more (by have := hbS6.size; rw [← HS.out] at this; exact this)) hown3.els)
                  have HK6 := Lib.hid (HK.out.below hbw6 (Nat.lt_succ_self S))
                  have hS6 : S ≤ w6.heap.size := by have := hbS6.size; rw [← HS.out] at this; exact this
                  clear hown3 hgrow3 hloc3 hb6 he6 hbw6 hbS6
                  go_simp
                  refine anyC_one (i := 8) (by kernel_rfl) rfl rfl (.inr HBW6.out) ?_
                  go_simp
                  try rw [show 0 + m + 1 = m + 1 by omega]
                  refine HCALL.out.mono ?_
                  clear HCALL
                  rintro e w7 ⟨R, kk, cr, bb, rfl, hb7, hres⟩
                  have hbw7 : Below (S + 1) wi w7 := HBW6.out.trans (hb7.mono (by have := HK6.out.lt; omega))
                  have HBW7 := Lib.hid hbw7
                  have HB7 := Lib.hid (HBS6.out.trans (hb7.mono hS6))
                  have HK7 := Lib.hid (HK6.out.below hb7 HK6.out.lt)
                  have HRES := Lib.hid hres
                  clear hb7 hbw7 hres
                  go_simp
                  refine anyC_reads (by kernel_rfl) [9, 10, 11, 12, 13] ?op2 ?oh2 0 _ _ _ (by kernel_rfl) ?ok2
                  case oh2 => (simp only [List.filterMap_cons, List.filterMap_nil, List.getElem?_toArray, List.getElem?_cons_zero, List.getElem?_cons_succ]; try rfl)
                  repeat (
                    refine readC_step (v := ?_) rfl (fun w' hw' => ?_) ?_
                    rotate_left
                    focus (clear hw'; go_simp; try with_reducible rfl)
                    go_simp)
                  refine readC_nil ?_
                  refine anyC_end (by kernel_rfl) (.inr HBW7.out) ?_
                  cases hrow : paintF es k f (l ++ [q]) with
                  | none =>
                    have hres := HRES.out
                    rw [hrow] at hres
                    have hg : bb = false := hres
                    subst hg
                    have HROW := Lib.hid hrow
                    clear hrow hres HRES
                    go_wp2_with fail
                    go_roundw
                    case rel => exact ⟨q + 1, by omega, by go_num, HB7.out, HK7.out, range_none HNO.out (by rw [HST.out]; exact HROW.out)⟩
                    case measure => simp [intOf]; omega
                  | some u =>
                    have hres := HRES.out
                    rw [hrow] at hres
                    obtain ⟨rfl, hkk, he7⟩ := hres
                    have HE7 := Lib.hid he7
                    have HKK := Lib.hid hkk
                    have HALL := Lib.hid (range_some hlt HNO.out (HST.out.trans hrow))
                    clear hrow he7 hkk HRES
                    go_wp2_with fail
                    refine bodyPost_ret (v := .tuple #[.slice R kk cr, .bool true]) (by simp [results, Tryd.results68, go_sem]) rfl ?_
                    refine ⟨R, kk, cr, true, rfl, by rw [← HS.out]; exact HB7.out, ?_⟩
                    rw [HF.out, HALL.out]
                    exact ⟨rfl, HKK.out, HE7.out⟩
              · go_simp
                obtain ⟨u1, hu1⟩ : ∃ u, u = u0.alloc (.cells #[.int .i64 q] 3) := ⟨_, rfl⟩
                obtain ⟨gK, hgKe⟩ : ∃ g, g = u0.heap.size := ⟨_, rfl⟩
                have hgKD : D ≤ gK := by rw [hgKe, HD.out]; exact hDD.out.size
                have HEK1 : Hid (Blk u1 gK 3 #[.int .i64 (q : Int)]) := Lib.hid (by rw [hu1, hgKe]; exact Blk.new _ _ _)
                have hgKlt : gK < u1.heap.size := by rw [hu1, size_alloc', hgKe]; exact Nat.lt_succ_self _
                have HBL1 : Hid (Below D u0 u1) := Lib.hid (by rw [hu1]; exact hDD.out.alloc (by rw [← hgKe]; exact hgKD) _)
                rw [← hu1, ← hgKe]
                clear hu1 hgKe
                refine anyC_one (i := 2) (by kernel_rfl) rfl rfl (.inr (hC0.out _ HBL1.out)) ?_
                go_simp
                obtain ⟨u2, hu2⟩ : ∃ u, u = u1.alloc (.cells #[] 3) := ⟨_, rfl⟩
                obtain ⟨gE, hgE⟩ : ∃ g, g = u1.heap.size := ⟨_, rfl⟩
                have hgD : D ≤ gE := by rw [hgE, HD.out]; exact HBL1.out.size
                have HOE : Hid (Own u2 D 3 1 icell (some ⟨gE, 0, none⟩) 0 ([] : List Int)) := Lib.hid (by rw [hu2]; exact (Own.empty_at hgE.symm 3 1 icell (fun _ => rfl)).weaken hgD)
                have HBL2 : Hid (Below D u0 u2) := Lib.hid (by rw [hu2]; exact HBL1.out.alloc (by rw [← hgE]; exact hgD) _)
                have hgK : gK < gE := by rw [hgE]; exact hgKlt
                have HEK2 : Hid (Blk u2 gK 3 #[.int .i64 (q : Int)]) := Lib.hid (by rw [hu2]; exact HEK1.out.alloc _)
                rw [← hu2, ← hgE]
                clear hu2 hgE
                refine anyC_one (i := 4) (by kernel_rfl) rfl rfl (.inr (hC0.out _ HBL2.out)) ?_
                refine wp_append_els _ _ 31 rfl D 1 3 (.int .i64 0) 8 Tryd.underlying31 (by kernel_rfl) rfl (by omega) icell _ (some ⟨gE, 0, none⟩) 0 0 [] rfl rfl HOE.out _ _ _ (intsOf l) HLI.out rfl S (HRL0.out.below (HBL2.out.mono (by omega))) (one_flat (fun a u hu => by simp at hu; rw [hu]; rfl) _) (by unfold maxLen; omega) (by omega) (by rw [HD.out]; exact HBL2.out.size) ?_
                intro A2 cap2 u3 hown2 hgrow2 hloc2
                have HBL3 : Hid (Below D u0 u3) := Lib.hid (HBL2.out.grown hgrow2 (by rw [HD.out]; exact HBL2.out.size) (fun g hg => by
                  have : gE = g := by simpa [blkOf] using hg
                  omega))
                have HOA3 : Hid (Own u3 D 3 1 icell A2 cap2 ([] ++ intsOf l)) := Lib.hid hown2
                have HEK3 : Hid (Blk u3 gK 3 #[.int .i64 (q : Int)]) := Lib.hid (HEK2.out.grown hgrow2 (fun he => by
                  have : gK = gE := by simpa [blkOf] using he
                  omega))
                clear hown2 hgrow2 hloc2
                go_simp
                refine anyC_one (i := 7) (by kernel_rfl) rfl rfl (.inr (hC0.out _ HBL3.out)) ?_
                refine wp_append_els _ _ 31 rfl D 1 3 (.int .i64 0) 8 Tryd.underlying31 (by kernel_rfl) rfl (by omega) icell _ A2 m cap2 ([] ++ intsOf l) (by rw [List.nil_append, HLI.out]) rfl HOA3.out _ 1 1 [(q : Int)] rfl rfl _ (els_of_blk HEK3.out 1 icell (fun _ => rfl) [(q : Int)] rfl) (by simp [Value.oneCell']) (by unfold maxLen; omega) (by omega) (by rw [HD.out]; exact HBL3.out.size) ?_
                intro A3 cap3 w6 hown3 hgrow3 hloc3
                have hb6 : Below D u0 w6 := HBL3.out.grown hgrow3 (by rw [HD.out]; exact HBL3.out.size) (fun g hg => (HOA3.out.lt g hg).1)
                have he6 : [] ++ intsOf l ++ [(q : Int)] = intsOf (l ++ [q]) := by simp [intsOf]
                rw [he6] at hown3
                have hbw6 : Below (S + 1) wi w6 := hC0.out _ hb6
                have HBW6 := Lib.hid hbw6
                have hbS6 : Below S w w6 := HB.out.trans (hbw6.mono (Nat.le_succ S))
                have HBS6 := Lib.hid hbS6
                have HCALL := Lib.hid (HIH.out (l ++ [q]) A3 (m + 1) cap3 w6 (by rw [List.length_append, HM.out]; rfl) (by omega) ((HRE.out.below hbS6).more (by have := hbS6.size; rw [← HS.out] at this; exact this)) hown3.els)
                have HK6 := Lib.hid (HK.out.below hbw6 (Nat.lt_succ_self S))
                have hS6 : S ≤ w6.heap.size := by have := hbS6.size; rw [← HS.out] at this; exact this
                clear hown3 hgrow3 hloc3 hb6 he6 hbw6 hbS6
                go_simp
                refine anyC_one (i := 8) (by kernel_rfl) rfl rfl (.inr HBW6.out) ?_
                go_simp
                try rw [show 0 + m + 1 = m + 1 by omega]
                refine HCALL.out.mono ?_
                clear HCALL
                rintro e w7 ⟨R, kk, cr, bb, rfl, hb7, hres⟩
                have hbw7 : Below (S + 1) wi w7 := HBW6.out.trans (hb7.mono (by have := HK6.out.lt; omega))
                have HBW7 := Lib.hid hbw7
                have HB7 := Lib.hid (HBS6.out.trans (hb7.mono hS6))
                have HK7 := Lib.hid (HK6.out.below hb7 HK6.out.lt)
                have HRES := Lib.hid hres
                clear hb7 hbw7 hres
                go_simp
                refine anyC_reads (by kernel_rfl) [9, 10, 11, 12, 13] ?op3 ?oh3 0 _ _ _ (by kernel_rfl) ?ok3
                case oh3 => (simp only [List.filterMap_cons, List.filterMap_nil, List.getElem?_toArray, List.getElem?_cons_zero, List.getElem?_cons_succ]; try rfl)
                repeat (
                  refine readC_step (v := ?_) rfl (fun w' hw' => ?_) ?_
                  rotate_left
                  focus (clear hw'; go_simp; try with_reducible rfl)
                  go_simp)
                refine readC_nil ?_
                refine anyC_end (by kernel_rfl) (.inr HBW7.out) ?_
                cases hrow : paintF es k f (l ++ [q]) with
                | none =>
                  have hres := HRES.out
                  rw [hrow] at hres
                  have hg : bb = false := hres
                  subst hg
                  have HROW := Lib.hid hrow
                  clear hrow hres HRES
                  go_wp2_with fail
                  go_roundw
                  case rel => exact ⟨q + 1, by omega, by go_num, HB7.out, HK7.out, range_none HNO.out (by rw [HST.out]; exact HROW.out)⟩
                  case measure => simp [intOf]; omega
                | some u =>
                  have hres := HRES.out
                  rw [hrow] at hres
                  obtain ⟨rfl, hkk, he7⟩ := hres
                  have HE7 := Lib.hid he7
                  have HKK := Lib.hid hkk
                  have HALL := Lib.hid (range_some hlt HNO.out (HST.out.trans hrow))
                  clear hrow he7 hkk HRES
                  go_wp2_with fail
                  refine bodyPost_ret (v := .tuple #[.slice R kk cr, .bool true]) (by simp [results, Tryd.results68, go_sem]) rfl ?_
                  refine ⟨R, kk, cr, true, rfl, by rw [← HS.out]; exact HB7.out, ?_⟩
                  rw [HF.out, HALL.out]
                  exact ⟨rfl, HKK.out, HE7.out⟩
      · clear hb hkb
        go_wp2_with fail
        refine bodyPost_ret (v := .tuple #[.slice none 0 0, .bool false]) (by simp [results, Tryd.results68, go_sem]) rfl ?_
        have hqk : q = k := by omega
        refine ⟨none, 0, 0, false, rfl, by rw [← HS.out]; exact HB.out, ?_⟩
        have h := HNO.out
        rw [hqk] at h
        rw [HF.out, h]
        rfl
end Go.Proofs.YtfaifadfilndmaaDoor
