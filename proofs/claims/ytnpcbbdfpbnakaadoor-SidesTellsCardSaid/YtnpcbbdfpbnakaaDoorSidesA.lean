/- Two sides: the program's walk. Conditions: the edges read as a list; the table. -/
import Derived.Test.YtnpcbbdfpbnakaaDoorDistB
import Derived.Test.YtnpcbbdfpbnakaaDoorIdxR
import Derived.Test.YtnpcbbdfpbnakaaDoorSidesP
import Derived.Test.YtnpcbbdfpbnakaaDoorExt
import Derived.Deep.RegionLaw
import Derived.BigQuiet
namespace Go.Proofs.YtnpcbbdfpbnakaaDoor
open Go.RowKit

theorem ent_Sides1 : Ent Tryd.prog 49 := ent_of Tryd.func49 (by kernel_rfl) rfl
theorem ent_Sides2 : Ent Tryd.prog 51 := ent_of Tryd.func51 (by kernel_rfl) rfl
theorem Sides1_calls (g N c i S : Nat) (x : Int) (w : World) (hi : i < N) (hN : N ≤ 10) (hb : Blk w S 3 #[.int .i64 i]) (hx : w.cell? ⟨g, i, none⟩ = some (.int .i64 x)) :
    Calls Tryd.prog 49 #[.slice (some ⟨g, 0, none⟩) N c, .pointer (some ⟨S, 0, none⟩)] w fun e w' => e = .returned (.bool (decide (0 ≤ x))) ∧ w = w' := by
  have c0 := hb.cell 0
  clear hb
  go_enter Tryd.func49, Tryd.ntmps49
  go_wp2_with fail
  go_ret
  exact ⟨rfl, rfl⟩
set_option maxRecDepth 100000 in
set_option maxHeartbeats 1000000 in
theorem Sides2_calls (a b : Nat) (z : Int) (S n c : Nat) (A : Option Addr) (L : List Int) (w : World) (ha : a < n) (hb : b < n) (hL : L.length = n) (hn : n ≤ 10) (hk : Blk w S 32 #[.slice A n c]) (hr : Els w w.heap.size 1 icell A L) :
    Calls Tryd.prog 51 #[.agg #[.int .i64 a, .int .i64 b, .int .i64 z], .pointer (some ⟨S, 0, none⟩)] w fun e w' => e = .returned (.bool (L.getD a 0 == L.getD b 0)) ∧ Below w.heap.size w w' := by
  obtain ⟨b1, off1, rfl, hlt, g0⟩ := hr.at1 (k := a) (by rw [hL]; exact ha)
  obtain ⟨b2, off2, he, _, g1⟩ := hr.at1 (k := b) (by rw [hL]; exact hb)
  obtain ⟨rfl, rfl⟩ : b1 = b2 ∧ off1 = off2 := by simpa using he
  rw [← getD_at L a (by rw [hL]; exact ha) 0] at g0
  rw [← getD_at L b (by rw [hL]; exact hb) 0] at g1
  obtain ⟨x, hx⟩ : ∃ x, x = L.getD a 0 := ⟨_, rfl⟩
  obtain ⟨y, hy⟩ : ∃ y, y = L.getD b 0 := ⟨_, rfl⟩
  rw [← hx] at g0
  rw [← hy] at g1
  rw [← hx, ← hy]
  have hbx := (Below.refl w.heap.size w).alloc (Nat.le_refl _) (.cells #[.int .i64 a, .int .i64 b, .int .i64 z] 78)
  have hnew := Blk.new w 78 #[.int .i64 a, .int .i64 b, .int .i64 z]
  have e0 := hnew.cell 0
  have e1 := hnew.cell 1
  have k0 := (hk.alloc (.cells #[.int .i64 a, .int .i64 b, .int .i64 z] 78)).cell 0
  have f0 := (hbx.cell (p := ⟨b1, off1 + a, none⟩) hlt).trans g0
  have f1 := (hbx.cell (p := ⟨b1, off1 + b, none⟩) hlt).trans g1
  have HBX := Lib.hid hbx
  clear hr he hx hy hk hbx hnew g0 g1 hL
  go_enter Tryd.func51, Tryd.ntmps51
  go_wp2_with fail
  go_quiet (fail)
  go_wp2_with fail
  go_ret
  exact ⟨ret_bool (by by_cases h : x = y <;> simp [h]), below_drewN HBX.out _⟩
/-- The rows as the callee reads them; what a row answers. -/
def rowA (N : Nat) (p : Nat × Nat) : Option Addr × Nat × Nat := (some ⟨p.1, 0, none⟩, N, p.2)
def posA (w : World) (i : Nat) (a : Option Addr × Nat × Nat) : Bool := match a.1 with
  | some p => (match w.cell? ⟨p.block, i, none⟩ with
    | some (.int _ v) => decide (0 ≤ v)
    | _ => false)
  | none => false
def SidesRes (N : Int) (l : List Ed) (w w' : World) (e : Ending) : Prop :=
  ∃ (A' : Option Addr) (k cap : Nat) (er : Int), e = .returned (.tuple #[.slice A' k cap, .int .i64 er]) ∧ Below w.heap.size w w' ∧
      (graphCheck N l ≠ 0 → er = graphCheck N l ∧ k = 0) ∧ (graphCheck N l = 0 → ∃ (m : Nat) (L : List Int), N = m ∧ L.length = m ∧ SidesL l L ∧ (clash l L = true → er = 5 ∧ k = 0) ∧ (clash l L = false → er = 0 ∧ k = m ∧ Els w' w'.heap.size 1 icell A' L))

set_option maxRecDepth 100000 in
set_option maxHeartbeats 2000000 in
theorem sides_Sides (N : Int) (A : Option Addr) (n c : Nat) (l : List Ed) (w : World) (hl : l.length = n) (hn : n ≤ maxLen) (hr : Els w w.heap.size 3 Ed.cells A l) (htab : TabOk w) :
    Calls Tryd.prog 17 #[.agg #[.int .i64 N, .slice A n c]] w fun e w' => SidesRes N l w w' e := by
  have h0w : 0 < w.heap.size := Nat.lt_of_le_of_lt (Nat.zero_le _) htab.1
  have hb0 := (Below.refl w.heap.size w).alloc (Nat.le_refl _) (.cells #[.int .i64 N, .slice A n c] 31)
  have hB0 := Blk.new w 31 #[.int .i64 N, .slice A n c]
  have HW := Lib.hid (graph_Dist N A n c l (w.alloc (.cells #[.int .i64 N, .slice A n c] 31)) hl hn ((hr.alloc (Nat.le_refl _) _).more (by rw [size_alloc']; omega)) (htab.below hb0 h0w))
  have HL := Lib.hid hl
  have HR := Lib.hid hr
  have HB0 := Lib.hid hb0
  have HK0 := Lib.hid hB0
  have c0 := hB0.cell 0
  have c1 := hB0.cell 1
  clear hr hb0 hB0 hl htab
  go_enter Tryd.func17, Tryd.ntmps17
  go_wp2_with fail
  refine HW.out.mono ?_
  clear HW
  rintro e v1 ⟨A4, k4, c4, rfl, hb1, hbad, hgood⟩
  have hk1 := HK0.out.below hb1 (by rw [size_alloc']; omega)
  have hb1' := HB0.out.trans (hb1.mono (by rw [size_alloc']; omega))
  have hz1 := hb1'.size
  have hlt1 := hk1.lt
  have HB1 := Lib.hid hb1'
  have HK1 := Lib.hid hk1
  have HGOOD := Lib.hid hgood
  have HBAD := Lib.hid hbad
  clear c0 c1 hb1 hb1' hgood hbad
  have c0 := hk1.cell 0
  have c1 := hk1.cell 1
  clear hk1
  by_cases h0 : graphCheck N l = 0
  · obtain ⟨m, P, M, rfl, rfl, hP, hmat, hdi⟩ := HGOOD.out h0
    obtain ⟨m', hm', hg⟩ := graph_good h0
    obtain rfl : k4 = m' := by omega
    have hm := hg.n10
    have HG := Lib.hid hg
    have HZ := Lib.hid h0
    have HP := Lib.hid hP
    have HMAT := Lib.hid hmat
    have HDI := Lib.hid hdi
    rw [h0]
    clear h0 hg hm' hP hmat hdi HGOOD HBAD
    obtain ⟨T, hT⟩ : ∃ T, T = v1.heap.size := ⟨_, rfl⟩
    obtain ⟨V, hV⟩ : ∃ V, V = v1.alloc (.cells #[.slice none 0 0] 32) := ⟨_, rfl⟩
    have hbV : Below T v1 V := by rw [hV, hT]; exact (Below.refl _ _).alloc (Nat.le_refl _) _
    have hkV : Blk V T 32 #[.slice none 0 0] := by rw [hV, hT]; exact Blk.new _ _ _
    have hgV : Blk V w.heap.size 31 #[.int .i64 k4, .slice A n c] := by rw [hV]; exact HK1.out.alloc _
    have e0 := hgV.cell 0
    have e1 := hgV.cell 1
    rw [hV] at e0 e1
    have HBV := Lib.hid hbV
    have HKV := Lib.hid hkV
    have HT := Lib.hid hT
    clear hbV hkV hgV
    go_wp2_with fail
    rw [← hV, ← hT]
    have hwT : w.heap.size < T := by omega
    clear e0 e1 c0 c1 hV hT
    go_loopw [19] (fun s19 wr => ∃ (k : Nat) (A2 : Option Addr) (cap : Nat) (L : List Int), k ≤ k4 ∧ s19 = .int .i64 k ∧ L.length = k ∧ SidesL l L ∧ Below T v1 wr ∧ Blk wr T 32 #[.slice A2 k cap] ∧ Own wr (T + 1) 3 1 icell A2 cap L) (fun s19 _ => k4 - (intOf s19).toNat)
    case atStart => exact ⟨0, none, 0, [], by omega, rfl, rfl, SidesL.nil _, HBV.out, HKV.out, Own.nil _ _ _ (fun _ => rfl)⟩
    case round =>
      clear HBV HKV
      rename World => wr
      obtain ⟨k, A2, cap, L, hk, rfl, hLk, hsl, hb, hkt, ho⟩ := hrel
      have hTr := hkt.lt
      have HB := Lib.hid hb
      have HKT := Lib.hid hkt
      have HO := Lib.hid ho
      have HLK := Lib.hid hLk
      have HSL := Lib.hid hsl
      clear hLk hsl ho
      by_cases hlt : k < k4
      · obtain ⟨B7, hB7⟩ : ∃ B7, B7 = wr.heap.size := ⟨_, rfl⟩
        obtain ⟨V2, hV2⟩ : ∃ V2, V2 = wr.alloc (.cells #[.int .i64 k] 3) := ⟨_, rfl⟩
        have hbV : Below B7 wr V2 := by rw [hV2, hB7]; exact (Below.refl _ _).alloc (Nat.le_refl _) _
        have hiV : Blk V2 B7 3 #[.int .i64 k] := by rw [hV2, hB7]; exact Blk.new _ _ _
        have hb1V : Below T v1 V2 := hb.trans (hbV.mono (by omega))
        have hzV := hiV.lt
        have hmV : Mat V2 _ k4 A4 c4 P M := HMAT.out.below (by rw [← HT.out]; exact hb1V)
        have hels : Els V2 V2.heap.size 1 (fun a : Option Addr × Nat × Nat => [.slice a.1 a.2.1 a.2.2]) A4 (P.map (rowA k4)) := hmV.out.els.map_ (rowA k4) (fun _ _ => rfl)
        have HIF := Lib.hid (IndexFunc_rows 49 ent_Sides1 #[.pointer (some ⟨B7, 0, none⟩)] (posA V2 k) A4 k4 c4 (P.map (rowA k4)) V2 (by rw [List.length_map]; exact HP.out) (by unfold maxLen; omega) hels
          (fun a wx ha hbx => by
            obtain ⟨p, hp, rfl⟩ := List.mem_map.1 ha
            obtain ⟨q, hq, rfl⟩ := List.getElem_of_mem hp
            obtain ⟨_, _, _, _, _, _, _, h7, h8⟩ := hmV.at_ (i := q) hq
            rw [← pAt_at hq]
            obtain ⟨h8, _⟩ := h8 k hlt
            have hxx := (hbx.cell (p := ⟨(pAt P q).1, k, none⟩) h7).trans h8
            have hpos : posA V2 k (rowA k4 (pAt P q)) = decide (0 ≤ M q k) := by simp [posA, rowA, h8]
            rw [hpos]
            exact (Sides1_calls (pAt P q).1 k4 (pAt P q).2 k B7 (M q k) wx hlt hm (hiV.below hbx hzV) hxx).mono fun e w' ⟨he, hw⟩ => ⟨he, by subst hw; exact Below.refl _ _⟩))
        have hidx : ∃ p : Nat, idxF (posA V2 k) (P.map (rowA k4)) = p ∧ p < k4 ∧ IsPart l k p := by
          have hpos : ∀ q (hq : q < (P.map (rowA k4)).length), posA V2 k (P.map (rowA k4))[q] = decide (0 ≤ M q k) := fun q hq => by
            rw [List.length_map] at hq
            obtain ⟨_, _, _, _, _, _, _, _, h8⟩ := hmV.at_ (i := q) hq
            obtain ⟨h8, _⟩ := h8 k hlt
            rw [List.getElem_map, ← pAt_at hq]
            simp [posA, rowA, h8]
          have hex : ∀ n', ∀ p, p ≤ n' → p < k4 → Rch (Adj l) k p → ∃ p0, p0 < k4 ∧ IsPart l k p0 := by
            intro n'
            induction n' with
            | zero => intro p h1 h2 h3; exact ⟨p, h2, h3, fun j hj => by omega⟩
            | succ n' ih =>
              intro p h1 h2 h3
              by_cases hlow : ∃ j, j < p ∧ Rch (Adj l) k j
              · obtain ⟨j, h4, h5⟩ := hlow
                exact ih j (by omega) (by omega) h5
              · exact ⟨p, h2, h3, fun j hj hr => hlow ⟨j, hj, hr⟩⟩
          obtain ⟨p0, hp0, hip⟩ := hex k k (Nat.le_refl _) hlt ⟨0, .start⟩
          refine ⟨p0, ?_, hp0, hip⟩
          have hpl : p0 < (P.map (rowA k4)).length := by rw [List.length_map, HP.out]; exact hp0
          refine idxF_at hpl ?_ ?_
          · rw [List.any_eq_false]
            intro a ha
            obtain ⟨q, hq, rfl⟩ := List.getElem_of_mem ha
            rw [List.length_take] at hq
            rw [List.getElem_take, hpos q (by omega)]
            have hno := hip.2 q (by omega)
            have := (HDI.out q k (by omega) hlt).pos
            simp only [decide_eq_true_eq]
            intro h
            exact hno (rch_sym (this.1 h))
          · rw [hpos p0 hpl]
            have := (HDI.out p0 k hp0 hlt).pos
            simp only [decide_eq_true_eq]
            exact this.2 (rch_sym hip.1)
        obtain ⟨p, hpi, hpk, hip⟩ := hidx
        rw [hpi] at HIF
        have hdp := HDI.out p k hpk hlt
        obtain ⟨x, hx⟩ : ∃ x, x = M p k := ⟨_, rfl⟩
        have HSI : Hid (SideIs l L.length (x.tmod 2)) := Lib.hid (by rw [HLK.out]; exact ⟨p, x, hip, by rw [hx]; exact hdp, rfl⟩)
        have HX := Lib.hid hx
        have HV2b := Lib.hid hbV
        have HI2 := Lib.hid hiV
        have HKT2 := Lib.hid (hkt.below hbV (by omega))
        have HO2 := Lib.hid (HO.out.below hbV (by omega))
        have HB2 := Lib.hid hb1V
        have HM2 := Lib.hid hmV
        clear hbV hiV hb1V hmV hels hpi hip hdp hb hkt
        go_wp2_with fail
        rw [← hV2, ← hB7]
        refine HIF.out.mono ?_
        have hB7T : T < B7 := by rw [hB7]; exact hTr
        clear HIF hV2 hB7
        rintro e w3 ⟨rfl, hb3⟩
        have hB73 : B7 < w3.heap.size := by have := hb3.size; omega
        have HI3 := Lib.hid (HI2.out.below hb3 hzV)
        have HKT3 := Lib.hid (HKT2.out.below hb3 (by omega))
        have HO3 := Lib.hid (HO2.out.below hb3 (Nat.le_refl _))
        have HB3 := Lib.hid (HB2.out.trans (hb3.mono (by omega)))
        have HM3 := Lib.hid (HM2.out.below hb3)
        obtain ⟨g, rfl, _, _, _, q1, _, _, q2⟩ := HM3.out.at_ (i := p) (by rw [HP.out]; exact hpk)
        obtain ⟨q2, _⟩ := q2 k hlt
        obtain ⟨pp, hpp⟩ : ∃ pp, pp = pAt P p := ⟨_, rfl⟩
        rw [← hpp] at q1 q2
        rw [← HX.out] at q2
        have c7 := HI3.out.cell 0
        have cT := HKT3.out.cell 0
        have fT := HKT3.out.frozen 0
        have cTa := fun o => Wex.cell (.alloc o (.refl (v := w3))) HKT3.out 0 rfl
        have hz3 := HKT3.out.lt
        clear hb3 HKT HO HB HKT2 HO2 HB2 HM2 HV2b HI2 hpp hx
        go_wp2_with fail
        go_region_law ((
          refine step_append_els (by rfl) (.tmp 25) (.tmp 34) 32 (by rfl) (T + 1) 1 3 (.int .i64 0) 8 Tryd.underlying32 (by kernel_rfl) (by rfl) (by omega) icell _ A2 k cap L HLK.out (by rfl) (Wex.own (v := w3) (by repeat (first | with_reducible exact Wex.refl | with_reducible apply Wex.alloc | with_reducible apply Wex.drew | with_reducible apply Wex.drewN)) HO3.out) _ 1 1 [(x.tmod 2 : Int)] (by rfl) (by rfl) _ (els_of_blk (t := 3) (cs := #[.int .i64 (x.tmod 2)]) (by repeat (first | (with_reducible refine Blk.new_at ?_; first | with_reducible rfl | (simp; done)) | with_reducible apply Blk.alloc | with_reducible apply Blk.drew | with_reducible apply Blk.drewN)) 1 icell (fun _ => rfl) [(x.tmod 2 : Int)] rfl) (by simp [Value.oneCell']) (by unfold maxLen; omega) (by omega) (Nat.le_trans (show T + 1 ≤ w3.heap.size by omega) (Wex.size (v := w3) (by repeat (first | with_reducible exact Wex.refl | with_reducible apply Wex.alloc | with_reducible apply Wex.drew | with_reducible apply Wex.drewN)))) ?_
          intro A3 cap3 w4 hown4 hgrow4 hloc4
          have hne4 : some T ≠ blkOf A2 := fun h => by have := (HO3.out.lt _ h.symm).1; omega
          have hk4 := (Wex.blk (v := w3) (by repeat (first | with_reducible exact Wex.refl | with_reducible apply Wex.alloc | with_reducible apply Wex.drew | with_reducible apply Wex.drewN)) HKT3.out).grown hgrow4 hne4
          have d0 := hk4.cell 0
          have d1 := hk4.frozen 0
          have HK4 := Lib.hid hk4
          have HB4 := Lib.hid ((Wex.bel (v := w3) (by repeat (first | with_reducible exact Wex.refl | with_reducible apply Wex.alloc | with_reducible apply Wex.drew | with_reducible apply Wex.drewN)) HB3.out (by omega)).grown hgrow4 (Nat.le_trans (show T ≤ w3.heap.size by omega) (Wex.size (v := w3) (by repeat (first | with_reducible exact Wex.refl | with_reducible apply Wex.alloc | with_reducible apply Wex.drew | with_reducible apply Wex.drewN)))) (fun g hg => by have := (HO3.out.lt g hg).1; omega))
          have HO4 := Lib.hid hown4
          clear hown4 hgrow4 hloc4 hne4 hk4))
        all_goals
          go_wp2_with fail
          go_roundw
          case rel => exact ⟨k + 1, A3, cap3, L ++ [(x.tmod 2 : Int)], by omega, by go_num, by rw [List.length_append, HLK.out]; rfl, HSL.out.snoc HSI.out, HB4.out.setCell (p := ⟨T, 0, none⟩) (Nat.le_refl _) _, HK4.out.put 0 _, HO4.out.low (show T < T + 1 by omega) _⟩
          case measure => simp [intOf]; omega
      · obtain rfl : k = k4 := by omega
        have hgr := (HK1.out.below (show Below v1.heap.size v1 wr by rw [← HT.out]; exact hb) (by omega))
        have e1 := hgr.cell 1
        have hrw := (HR.out.below (HB1.out.trans (hb.mono (by omega))))
        have HCF := Lib.hid (ContainsFunc_edges 51 ent_Sides2 #[.pointer (some ⟨T, 0, none⟩)] (flatE L) A n c l wr HL.out hn (hrw.more (by omega))
          (fun a wx ha hbx => by
            have hga := HG.out.ed a ha
            obtain ⟨i, hi⟩ := Int.eq_ofNat_of_zero_le hga.a0
            obtain ⟨j, hj⟩ := Int.eq_ofNat_of_zero_le hga.b0
            have h1 := hga.a1
            have h2 := hga.b1
            have he : flatE L a = (L.getD i 0 == L.getD j 0) := by unfold flatE; rw [hi, hj]; rfl
            rw [he, hi, hj]
            exact (Sides2_calls i j a.w T k cap A2 L wx (by omega) (by omega) HLK.out hm (HKT.out.below hbx hTr) ((HO.out.below hbx (Nat.le_refl _)).els)).mono fun e w' ⟨h1, h2⟩ => ⟨h1, h2.mono hbx.size⟩))
        have HCL : Hid (l.any (flatE L) = clash l L) := Lib.hid rfl
        rw [HCL.out] at HCF
        obtain ⟨cl, hcl⟩ : ∃ cl, cl = clash l L := ⟨_, rfl⟩
        have HC2 := Lib.hid hcl
        rw [← hcl] at HCF
        clear hcl hgr hrw
        go_wp2_with fail
        refine HCF.out.mono ?_
        clear HCF
        rintro e w3 ⟨rfl, hb3⟩
        have HB3 := Lib.hid (HB1.out.trans ((HB.out.mono (by omega)).trans (hb3.mono (by omega))))
        have hk3 := HKT.out.below hb3 hTr
        have cT := hk3.cell 0
        have HO3 := Lib.hid (HO.out.below hb3 (Nat.le_refl _))
        clear hb3 hk3 e1
        cases cl with
        | true =>
          go_wp2_with fail
          refine bodyPost_ret (v := .tuple #[.slice none 0 0, .int .i64 5]) (by simp [results, Tryd.results17, go_sem]) rfl ?_
          refine ⟨none, 0, 0, 5, rfl, HB3.out, fun h => absurd HZ.out h, fun _ => ⟨k, L, rfl, HLK.out, HSL.out, fun _ => ⟨rfl, rfl⟩, ?_⟩⟩
          intro h
          have := HC2.out.trans h
          cases this
        | false =>
          go_wp2_with fail
          refine bodyPost_ret (v := .tuple #[.slice A2 k cap, .int .i64 0]) (by simp [results, Tryd.results17, go_sem]) rfl ?_
          refine ⟨A2, k, cap, 0, rfl, HB3.out, fun h => absurd HZ.out h, fun _ => ⟨k, L, rfl, HLK.out, HSL.out, ?_, fun _ => ⟨rfl, rfl, HO3.out.els⟩⟩⟩
          intro h
          have := HC2.out.trans h
          cases this
  · have h1 : (graphCheck N l != 0) = true := by simpa using h0
    have H0 := Lib.hid h0
    obtain ⟨x, hx⟩ : ∃ x, x = graphCheck N l := ⟨_, rfl⟩
    rw [← hx] at h1 ⊢
    have HX := Lib.hid hx
    clear h0 hx
    go_wp2_with fail
    refine bodyPost_ret (v := .tuple #[.slice none 0 0, .int .i64 x]) (by simp [results, Tryd.results17, go_sem]) rfl ?_
    exact ⟨none, 0, 0, x, rfl, HB1.out, fun _ => ⟨HX.out, rfl⟩, fun h => absurd h H0.out⟩
end Go.Proofs.YtnpcbbdfpbnakaaDoor
