/- May a map be: the reference's walk. Conditions: the edges and the rounds read as lists. -/
import Derived.Test.YtlflnfelhndohaaDoorMapsHoles25
import Derived.Test.YtlflnfelhndohaaDoorMapsHoles38
namespace Go.Proofs.YtlflnfelhndohaaDoor
open Go.RowKit Go.Shelf

set_option maxRecDepth 100000 in
set_option maxHeartbeats 2000000 in
theorem ref_MapCheck (N : Int) (A RA : Option Addr) (n c m rc : Nat) (l : List Ed) (rows : List (Sls Int)) (w : World) (hl : l.length = n) (hn : n ≤ maxLen) (hc : n ≤ c) (hr : Els w w.heap.size 3 Ed.cells A l) (hm : rows.length = m)
    (hR : Els w w.heap.size 1 (fun s : Sls Int => [s.val]) RA rows) (hrow : ∀ s ∈ rows, Els w w.heap.size 1 icell s.A s.l ∧ s.l.length ≤ 17592186044415 ∧ s.l.length ≤ s.c) :
    Calls Tryd.prog 13 #[.agg #[.int .i64 N, .slice A n c], .slice RA m rc] w fun e w' => e = .returned (.int .i64 (mapCode N l (rows.map Sls.l))) ∧ Below w.heap.size w w' := by
  have hb0 := (Below.refl w.heap.size w).alloc (Nat.le_refl _) (.cells #[.int .i64 N, .slice A n c] 24)
  have hB0 := Blk.new w 24 #[.int .i64 N, .slice A n c]
  have HW := Lib.hid (ref_GraphCheck N A n c l (w.alloc (.cells #[.int .i64 N, .slice A n c] 24)) hl hn hc ((hr.alloc (Nat.le_refl _) _).more (by rw [size_alloc']; omega)))
  obtain ⟨G, hG⟩ : ∃ G, G = w.heap.size := ⟨_, rfl⟩
  have HGG := Lib.hid hG
  have HL := Lib.hid hl
  have HR := Lib.hid hr
  have HRR := Lib.hid hR
  have HRW := Lib.hid hrow
  have HM := Lib.hid hm
  have HB0 := Lib.hid hb0
  have HK0 := Lib.hid hB0
  have c0 := hB0.cell 0
  have c1 := hB0.cell 1
  have hRl : (rows.map Sls.l).length = m := by rw [List.length_map, hm]
  have HRL := Lib.hid hRl
  clear hr hb0 hB0 hl hR hrow hm hRl hG
  go_enter Tryd.func13, Tryd.ntmps13
  go_wp2_with fail
  refine HW.out.mono ?_
  clear HW
  rintro e v1 ⟨rfl, hb1⟩
  have hk1 := HK0.out.below hb1 (by rw [size_alloc']; omega)
  have hb1' := HB0.out.trans (hb1.mono (by rw [size_alloc']; omega))
  have HB1 := Lib.hid hb1'
  have HK1 := Lib.hid hk1
  have hlt1 := hk1.lt
  clear c0 c1 hb1 hb1' HK0 HB0
  have c0 := hk1.cell 0
  have c1 := hk1.cell 1
  clear hk1
  by_cases h0 : graphCheck N l = 0
  · by_cases hmN : (m : Int) = N
    · obtain ⟨m', rfl, hg⟩ := graph_good h0
      obtain rfl : m = m' := by omega
      have hm10 := hg.n10
      have hn45 : n ≤ 45 := by have := hg.m45; rw [HL.out] at this; exact this
      have hne : ((m : Int) != (m : Int)) = false := by simp
      have hne2 : ((m : Int) == (m : Int)) = true := by simp
      have HG := Lib.hid hg
      have HC := Lib.hid (map_rows h0 HRL.out)
      rw [h0]
      clear h0 hg hmN
      go_wp2_with fail
      rw [← HGG.out] at c0 c1 HK1 hlt1 ⊢
      clear c0 c1
      go_loopw [22] (fun s22 wr => ∃ i : Nat, i ≤ m ∧ s22 = .int .i64 i ∧ Below w.heap.size w wr ∧ Blk wr G 24 #[.int .i64 m, .slice A n c] ∧ (List.range i).any (fun i => !rowOk m l i ((rows.map Sls.l).getD i [])) = false) (fun s22 _ => m - (intOf s22).toNat)
      case atStart => exact ⟨0, Nat.zero_le _, rfl, HB1.out, HK1.out, rfl⟩
      case round =>
        clear HB1 HK1 hlt1
        rename World => wr
        obtain ⟨i, hi, rfl, hbw, hk, hany⟩ := hrel
        have hzw := hbw.size
        have HBW := Lib.hid hbw
        have HA := Lib.hid hany
        have HK := Lib.hid hk
        have g0 := hk.cell 0
        have g1 := hk.cell 1
        by_cases hlt : i < m
        · have hir : i < rows.length := by rw [HM.out]; exact hlt
          obtain ⟨br, orr, rfl, _, r0⟩ := (HRR.out.below hbw).at1 (f := fun s : Sls Int => s.val) hir
          obtain ⟨hel, hsz, hcp⟩ := HRW.out rows[i] (List.getElem_mem hir)
          have HS1 := Lib.hid (any_range_succ (fun i => !rowOk m l i ((rows.map Sls.l).getD i [])) i)
          have HS2 : Hid ((!rowOk m l i ((rows.map Sls.l).getD i [])) = true → (List.range m).any (fun i => !rowOk m l i ((rows.map Sls.l).getD i [])) = true) := Lib.hid fun h => any_range_of (p := fun i => !rowOk m l i ((rows.map Sls.l).getD i [])) hlt h
          have hok : rowOk m l i ((rows.map Sls.l).getD i []) = rowOkR l i rows[i].l := by rw [rows_at hir]; exact row_same HG.out hlt _
          obtain ⟨⟨SA, sc, sl⟩, hs⟩ : ∃ s, s = rows[i] := ⟨_, rfl⟩
          rw [← hs] at r0 hel hsz hcp hok
          simp only [Sls.val] at r0 hel hsz hcp hok
          obtain ⟨sn, hsn⟩ : ∃ sn, sn = sl.length := ⟨_, rfl⟩
          rw [← hsn] at r0 hsz hcp
          have HOK := Lib.hid hok
          have HSN := Lib.hid hsn.symm
          have HEL := Lib.hid hel
          have HDG := Lib.hid (ref_Degree m i A n c l wr HL.out hn45 ((HR.out.below hbw).more hzw))
          have hdl := deg_le l i
          obtain ⟨d, hd⟩ : ∃ d, d = deg l i := ⟨_, rfl⟩
          rw [← hd] at HDG hdl
          have HD := Lib.hid hd
          clear hbw hany hir hel hs hsn hok hk hd
          go_wp2_with fail
          refine HDG.out.mono ?_
          clear HDG g0 g1 r0
          rintro e v3 ⟨rfl, hb3⟩
          have hb3' := HBW.out.trans (hb3.mono hzw)
          have hk3 := HK.out.below hb3 HK.out.lt
          have HB3 := Lib.hid hb3'
          have HK3 := Lib.hid hk3
          clear hb3 hb3' hk3
          by_cases hsd : sn = d
          · have hb1 : ((sn : Int) != (d : Int)) = false := by simp [hsd]
            have hb2 : ((sn : Int) == (d : Int)) = true := by simp [hsd]
            have HSD := Lib.hid hsd
            clear hsd
            go_wp2_with fail
            go_loopw [35] (fun s35 w4 => ∃ k : Nat, k ≤ sn ∧ s35 = .int .i64 k ∧ Below w.heap.size w w4 ∧ Blk w4 G 24 #[.int .i64 m, .slice A n c] ∧ (List.range k).any (rowBadR l i sl) = false) (fun s35 _ => sn - (intOf s35).toNat)
            case atStart => exact ⟨0, Nat.zero_le _, rfl, HB3.out, HK3.out, rfl⟩
            case round =>
              clear HB3 HK3 HBW HK
              rename World => w4
              obtain ⟨k, hk, rfl, hb, hkk, hbad⟩ := hrel
              have hz4 := hb.size
              have HB4 := Lib.hid hb
              have HK4 := Lib.hid hkk
              have HBD := Lib.hid hbad
              by_cases hlt2 : k < sn
              · have hkl : k < sl.length := by rw [HSN.out]; exact hlt2
                have hel4 := HEL.out.below hb
                obtain ⟨b, off, rfl, _, x0⟩ := hel4.at1 (f := fun x : Int => .int .i64 x) hkl
                have hx : rowBadR l i sl k = (hasB (sl.take k) sl[k] || !adjI l i sl[k]) := by unfold rowBadR; rw [getD_at sl k hkl]
                obtain ⟨x, hxe⟩ : ∃ x, x = sl[k] := ⟨_, rfl⟩
                rw [← hxe] at x0 hx
                have HX := Lib.hid hx
                have HP := Lib.hid (any_range_succ (rowBadR l i sl) k)
                have HPO : Hid (rowBadR l i sl k = true → (List.range sn).any (rowBadR l i sl) = true) := Lib.hid fun h => any_range_of (p := rowBadR l i sl) hlt2 h
                have HHA := Lib.hid (Has_any (some ⟨b, off, none⟩) k sc (sl.take k) x w4.heap.size w4 (by rw [List.length_take, HSN.out]; omega) (by unfold maxLen; omega) ((hel4.pre k).more hz4))
                have HNR := Lib.hid (ref_NearI m i x A n c l w4 HL.out hn45 ((HR.out.below hb).more hz4))
                have g0 := hkk.cell 0
                have g1 := hkk.cell 1
                have hk0 : 0 ≤ (k : Int) := by omega
                have hks : (k : Int) ≤ (sn : Int) := by omega
                have hksc : (k : Int) ≤ (sc : Int) := by omega
                clear hb hbad hkk hel4 hx hxe hkl
                cases hh : hasB (sl.take k) x with
                | true =>
                  rw [hh] at HHA
                  have hbd : rowBadR l i sl k = true := by rw [HX.out, hh]; rfl
                  have hres : rowOk m l i ((rows.map Sls.l).getD i []) = false := by
                    rw [HOK.out]
                    unfold rowOkR
                    rw [HSN.out, HPO.out hbd]
                    simp
                  have hres2 : mapCode m l (rows.map Sls.l) = 3 := by rw [HC.out, HS2.out (by rw [hres]; rfl)]; rfl
                  have HRES := Lib.hid hres2
                  clear hh hbd hres hres2
                  go_wp2_with fail
                  refine HHA.out.mono ?_
                  rintro e w' ⟨rfl, rfl⟩
                  go_wp2_with fail
                  go_ret
                  exact ⟨by rw [HRES.out]; rfl, HB4.out⟩
                | false =>
                  rw [hh] at HHA
                  cases ha : adjI l i x with
                  | true =>
                    rw [ha] at HNR
                    have hbd : rowBadR l i sl k = false := by rw [HX.out, hh, ha]; rfl
                    have hnew : (List.range (k + 1)).any (rowBadR l i sl) = false := by rw [HP.out, HBD.out, hbd]; rfl
                    have HNEW := Lib.hid hnew
                    clear hh ha hbd hnew
                    go_wp2_with fail
                    refine HHA.out.mono ?_
                    rintro e w' ⟨rfl, rfl⟩
                    go_wp2_with fail
                    refine HNR.out.mono ?_
                    rintro e w5 ⟨rfl, hb5⟩
                    have HB5 := Lib.hid (HB4.out.trans (hb5.mono hz4))
                    have HK5 := Lib.hid (HK4.out.below hb5 HK4.out.lt)
                    clear hb5
                    go_wp2_with fail
                    go_roundw
                    case rel => exact ⟨k + 1, by omega, by go_num, HB5.out, HK5.out, HNEW.out⟩
                    case measure => simp [intOf]; omega
                  | false =>
                    rw [ha] at HNR
                    have hbd : rowBadR l i sl k = true := by rw [HX.out, hh, ha]; rfl
                    have hres : rowOk m l i ((rows.map Sls.l).getD i []) = false := by
                      rw [HOK.out]
                      unfold rowOkR
                      rw [HSN.out, HPO.out hbd]
                      simp
                    have hres2 : mapCode m l (rows.map Sls.l) = 3 := by rw [HC.out, HS2.out (by rw [hres]; rfl)]; rfl
                    have HRES := Lib.hid hres2
                    clear hh ha hbd hres hres2
                    go_wp2_with fail
                    refine HHA.out.mono ?_
                    rintro e w' ⟨rfl, rfl⟩
                    go_wp2_with fail
                    refine HNR.out.mono ?_
                    rintro e w5 ⟨rfl, hb5⟩
                    have HB5 := Lib.hid (HB4.out.trans (hb5.mono hz4))
                    clear hb5
                    go_wp2_with fail
                    go_ret
                    exact ⟨by rw [HRES.out]; rfl, HB5.out⟩
              · obtain rfl : sn = k := by omega
                have hres : rowOk m l i ((rows.map Sls.l).getD i []) = true := by
                  rw [HOK.out]
                  unfold rowOkR
                  rw [HSN.out, HBD.out, HSD.out, HD.out]
                  simp
                have hnew : (List.range (i + 1)).any (fun i => !rowOk m l i ((rows.map Sls.l).getD i [])) = false := by rw [HS1.out, HA.out, hres]; rfl
                have HNEW := Lib.hid hnew
                clear hres hnew hb hkk hbad HS2
                go_wp2_with fail
                go_roundw
                case rel => exact ⟨i + 1, by omega, by go_num, HB4.out, HK4.out, HNEW.out⟩
                case measure => simp [intOf]; omega
          · have hb1 : ((sn : Int) != (d : Int)) = true := by simp; omega
            have hb2 : ((sn : Int) == (d : Int)) = false := by simp; omega
            have hres : rowOk m l i ((rows.map Sls.l).getD i []) = false := by
              rw [HOK.out]
              unfold rowOkR
              rw [HSN.out, ← HD.out, decide_eq_false (by omega)]
              rfl
            have hres2 : mapCode m l (rows.map Sls.l) = 3 := by rw [HC.out, HS2.out (by rw [hres]; rfl)]; rfl
            have HRES := Lib.hid hres2
            clear hsd hres hres2
            go_wp2_with fail
            go_ret
            exact ⟨by rw [HRES.out]; rfl, HB3.out⟩
        · obtain rfl : m = i := by omega
          have hres : mapCode m l (rows.map Sls.l) = 0 := by rw [HC.out, HA.out]; rfl
          have HRES := Lib.hid hres
          clear hres hany hbw hk
          go_wp2_with fail
          go_ret
          exact ⟨by rw [HRES.out]; rfl, HBW.out⟩
    · have HRES := Lib.hid (map_long h0 (by rw [HRL.out]; exact hmN))
      have hne : ((m : Int) != N) = true := by simp [hmN]
      have hne2 : ((m : Int) == N) = false := by simp [hmN]
      rw [h0]
      clear h0 hmN
      go_wp2_with fail
      go_ret
      exact ⟨by rw [HRES.out]; rfl, HB1.out⟩
  · have h1 : (graphCheck N l != 0) = true := by simpa using h0
    have HRES := Lib.hid (map_bad (R := rows.map Sls.l) h0)
    obtain ⟨x, hx⟩ : ∃ x, x = graphCheck N l := ⟨_, rfl⟩
    rw [← hx] at h1 HRES ⊢
    clear h0 hx
    go_wp2_with fail
    go_ret
    exact ⟨by rw [HRES.out]; rfl, HB1.out⟩
end Go.Proofs.YtlflnfelhndohaaDoor

/- Two operations of a drawn region ready at once. Conditions: none. -/
namespace Go.Proofs.YtlflnfelhndohaaDoor
open Go.RowKit Go.Shelf
section
variable {P : Program} {md : Region.Mode} {ops : Array Oper} {z : Nat} {C : World → Prop} {Q : Act → World → Prop}
theorem anyD_two {i j : Nat} {oi oj : Oper} {fuel : Nat} {listed : Array Bool} {a : Act} {w : World} (hr : Region.ready md ops listed = [i, j]) (hi : ops[i]? = some oi) (hj : ops[j]? = some oj) (hwi : Region.wanted oi (yielded ops a.tmps) = true) (hwj : Region.wanted oj (yielded ops a.tmps) = true) (hC : listed.getD z false = true ∨ C w)
    (h1 : oi.wp P a w (anyC P md ops z C Q fuel (listed.setIfInBounds i true)) noP) (h2 : oj.wp P a w (anyC P md ops z C Q fuel (listed.setIfInBounds j true)) noP) : anyC P md ops z C Q (fuel + 1) listed a w :=
  ⟨hC, fun h0 => (by rw [hr] at h0; cases h0), fun k hk => by
    rw [hr] at hk
    simp only [List.mem_cons, List.not_mem_nil, or_false] at hk
    rcases hk with rfl | rfl
    · exact ⟨oi, hi, .inl ⟨hwi, h1⟩⟩
    · exact ⟨oj, hj, .inl ⟨hwj, h2⟩⟩⟩
end
end Go.Proofs.YtlflnfelhndohaaDoor
