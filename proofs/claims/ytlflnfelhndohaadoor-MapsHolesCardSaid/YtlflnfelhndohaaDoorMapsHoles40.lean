/- The faces of a map: the program's count. Conditions: the map may be; its rounds read as lists. -/
import Derived.Test.YtlflnfelhndohaaDoorMapsHoles39
namespace Go.Proofs.YtlflnfelhndohaaDoor
open Go.RowKit Go.Shelf

set_option maxRecDepth 100000 in
set_option maxHeartbeats 2000000 in
theorem maps_faces (N rc : Nat) (RA : Option Addr) (rows : List (Sls Int)) (w : World) (hg : MapG N (rows.map Sls.l))
    (hR : Els w w.heap.size 1 (fun s : Sls Int => [s.val]) RA rows) (hrow : ∀ s ∈ rows, Els w w.heap.size 1 icell s.A s.l) :
    Calls Tryd.prog 37 #[.slice RA N rc] w fun e w' => e = .returned (.int .i64 ((facesD N (rows.map Sls.l) N).2 : Int)) ∧ Below w.heap.size w w' := by
  obtain ⟨R, hRe⟩ : ∃ R, R = rows.map Sls.l := ⟨_, rfl⟩
  have hlen := hg.len
  rw [List.length_map] at hlen
  have hn10 := hg.n10
  have HNX := Lib.hid (fun (d : Dart) (v : World) (hv : Below w.heap.size w v) (hd : Good2 N R d) => by
    have := maps_next N rc RA rows d v hg (hRe ▸ hd) ((hR.below hv).more hv.size) (fun s hs => ((hrow s hs).below hv).more hv.size)
    rwa [← hRe] at this)
  have HRAT : Hid (∀ i (h : i < rows.length), rowI R (i : Int) = rows[i].l) := Lib.hid fun i h => by
    rw [hRe, rowI_at (by rw [Int.toNat_natCast]; exact h)]
    simp only [Int.toNat_natCast]
  rw [← hRe] at hg ⊢
  have HG := Lib.hid hg
  have HRR := Lib.hid hR
  have HRW := Lib.hid hrow
  have HLN := Lib.hid hlen
  have hb0 := (Below.refl w.heap.size w).alloc (Nat.le_refl _) (.map #[] 0)
  have hm0 : MapB (w.alloc (.map #[] 0)) w.heap.size dartV ([] : List (Dart × Value)) := MapB.made w
  obtain ⟨r, hr⟩ : ∃ r, r = w.heap.size := ⟨_, rfl⟩
  rw [← hr] at hm0
  have HR0 := Lib.hid hr
  have HB0 := Lib.hid hb0
  have HM0 := Lib.hid hm0
  have HS0 : Hid (facesD N R 0 = ([], 0)) := Lib.hid rfl
  have hmk : ∀ W : World, (Instr.makeMap 77 none).run Tryd.prog W = .ok (.map (some W.heap.size)) (W.alloc (.map #[] 0)) := fun W => by rw [run_makeMap]
  clear hg hR hrow hlen hRe hb0 hm0 hr
  go_enter Tryd.func37, Tryd.ntmps37
  go_wp2_with fail
  rw [← HR0.out]
  go_loopw [13, 4] (fun s13 s4 wr => ∃ (i : Nat) (L : List (Dart × Value)), i ≤ N ∧ s13 = .int .i64 i ∧ s4 = .int .i64 ((facesD N R i).2 : Nat) ∧ Below w.heap.size w wr ∧ MapB wr r dartV L ∧ SeenD (facesD N R i).1 L) (fun s13 _ _ => N - (intOf s13).toNat)
  case atStart => exact ⟨0, [], Nat.zero_le _, rfl, rfl, HB0.out, HM0.out, SeenD.nil⟩
  case round =>
    clear HB0 HM0 HS0
    rename World => wr
    obtain ⟨i, L, hi, rfl, rfl, hb, hm, hsd⟩ := hrel
    have hfs := faces_seen HG.out i hi
    by_cases hlt : i < N
    · have hir : i < rows.length := by rw [HLN.out]; exact hlt
      obtain ⟨br, orr, rfl, _, r0⟩ := (HRR.out.below hb).at1 (f := fun s : Sls Int => s.val) hir
      have hel := HRW.out rows[i] (List.getElem_mem hir)
      have hri := HRAT.out i hir
      obtain ⟨⟨SA, sc, sl⟩, hs⟩ : ∃ s, s = rows[i] := ⟨_, rfl⟩
      rw [← hs] at r0 hel hri
      simp only [Sls.val] at r0 hel hri
      obtain ⟨sn, hsn⟩ : ∃ sn, sn = sl.length := ⟨_, rfl⟩
      have hsz := HG.out.sz (i : Int)
      rw [hri, ← hsn] at hsz
      rw [← hsn] at r0
      have HEL := Lib.hid hel
      have HRI := Lib.hid hri
      have HSN := Lib.hid hsn.symm
      have HFS := Lib.hid hfs.1
      have hfn := hfs.2
      obtain ⟨st, hst⟩ : ∃ st, st = facesD N R i := ⟨_, rfl⟩
      rw [← hst] at hfn HFS hsd ⊢
      have HB := Lib.hid hb
      have HM := Lib.hid hm
      have HSD := Lib.hid hsd
      have HNXT : Hid (facesD N R (i + 1) = rowD N R i st sn) := Lib.hid (by rw [facesD, ← hst, hri, ← hsn])
      have hst0 : startD R i st = (st.1, st.2 + if sn = 0 then 1 else 0) := by unfold startD; rw [hri, ← hsn]
      clear hb hm hsd hir hel hri hs hsn hfs hst
      obtain ⟨n1, hn1⟩ : ∃ n1, n1 = st.2 + if sn = 0 then 1 else 0 := ⟨_, rfl⟩
      rw [← hn1] at hst0
      have hn1b : n1 ≤ 500 := by rw [hn1]; split <;> omega
      have HST0 := Lib.hid (show rowD N R i st 0 = (st.1, n1) from hst0)
      have hrest : ∀ (K : Prop), K → K := fun _ h => h
      clear hst0
      by_cases hs0 : sn = 0
      · have hn1e : n1 = st.2 + 1 := by rw [hn1, if_pos hs0]
        have h0b : ((sn : Int) == 0) = true := by simp [hs0]
        have HN1 := Lib.hid hn1e
        have hz0 : ¬ (0 : Int) < (sn : Int) := by omega
        have HS0 := Lib.hid hs0
        clear hn1 hn1e hs0
        go_wp2_with fail
        go_loopw [25, 4] (fun s25 s4 w2 => s25 = .int .i64 0 ∧ s4 = .int .i64 ((st.2 : Int) + 1) ∧ wr = w2) (fun _ _ _ => 0)
        case atStart => exact ⟨rfl, rfl, rfl⟩
        case round =>
          rename World => w2
          obtain ⟨rfl, rfl, rfl⟩ := hrel
          go_wp2_with fail
          go_roundw
          case rel => exact ⟨i + 1, L, by omega, by go_num, by rw [HNXT.out, HS0.out, HST0.out, HN1.out]; rfl, HB.out, HM.out, by rw [HNXT.out, HS0.out, HST0.out]; exact HSD.out⟩
          case measure => simp [intOf]; omega
      · have hn1e : n1 = st.2 := by rw [hn1, if_neg hs0]; rfl
        have h0b : ((sn : Int) == 0) = false := by simp [hs0]
        have HN1 := Lib.hid hn1e
        clear hn1 hn1e
        go_wp2_with fail
        rw [← HN1.out]
        go_loopw [25, 4] (fun s25 s4 w2 => ∃ (k : Nat) (L : List (Dart × Value)), k ≤ sn ∧ s25 = .int .i64 k ∧ s4 = .int .i64 ((rowD N R i st k).2 : Nat) ∧ Below w.heap.size w w2 ∧ MapB w2 r dartV L ∧ SeenD (rowD N R i st k).1 L) (fun s25 _ _ => sn - (intOf s25).toNat)
        case atStart => exact ⟨0, L, Nat.zero_le _, rfl, by rw [HST0.out], HB.out, HM.out, by rw [HST0.out]; exact HSD.out⟩
        case round =>
          clear HB HM HSD HST0
          rename World => w2
          obtain ⟨k, L, hk, rfl, rfl, hb, hm, hsd⟩ := hrel
          have hrl : (rowI R (i : Int)).length = sn := by rw [HRI.out, HSN.out]
          have hrs := row_seen HG.out hlt HFS.out k (by rw [hrl]; exact hk)
          by_cases hlt2 : k < sn
          · have hkl : k < sl.length := by rw [HSN.out]; exact hlt2
            obtain ⟨bs, os, rfl, _, x0⟩ := (HEL.out.below hb).at1 (f := fun x : Int => .int .i64 x) hkl
            have hdg := dart_good HG.out hlt (k := k) (by rw [hrl]; exact hlt2)
            have hxe : (rowI R (i : Int)).getD k 0 = sl[k] := by rw [HRI.out, getD_at sl k hkl]
            rw [hxe] at hdg
            obtain ⟨b, hbe⟩ : ∃ b, b = sl[k] := ⟨_, rfl⟩
            rw [← hbe] at x0 hdg
            obtain ⟨sk, hsk⟩ : ∃ sk, sk = rowD N R i st k := ⟨_, rfl⟩
            have hstep : rowD N R i st (k + 1) = stepD N R sk ((i : Int), b) := by rw [rowD, ← hsk, hxe, ← hbe]
            rw [← hsk] at hsd hrs ⊢
            have hskn : sk.2 ≤ 1000 := by have := hrs.2; omega
            have hb3 := hb.alloc hb.size (.cells #[.int .i64 i, .int .i64 b] 79)
            have hm3 := hm.alloc (.cells #[.int .i64 i, .int .i64 b] 79)
            have ht3 := Blk.new w2 79 #[.int .i64 i, .int .i64 b]
            have t0 := ht3.cell 0
            have t1 := ht3.cell 1
            have hlook := run_look (P := Tryd.prog) keyL_dart Tryd.underlying77 (z := .int .i64 0) (fun u => by kernel_rfl) hm3 ((i : Int), b) false
            rw [hsd] at hlook
            have HSTEP := Lib.hid hstep
            have HSD2 := Lib.hid hsd
            have HRS := Lib.hid hrs.1
            have HDG := Lib.hid hdg
            have HB3 := Lib.hid hb3
            have HM3 := Lib.hid hm3
            have HT3 := Lib.hid ht3
            have HBSZ := hb.size
            clear hb hm hsd hkl hdg hxe hbe hsk hstep hrs hb3 hm3 ht3 hrl
            simp only [dartV] at hlook
            by_cases hin : ((i : Int), b) ∈ sk.1
            · have hst2 : stepD N R sk ((i : Int), b) = sk := by unfold stepD; rw [if_pos hin]
              have HST2 := Lib.hid hst2
              rw [if_pos hin] at hlook
              simp only [Bool.false_eq_true, if_false, Option.getD_some] at hlook
              clear hin hst2
              go_wp2_with fail
              go_roundw
              case rel => exact ⟨k + 1, L, by omega, by go_num, by rw [HSTEP.out, HST2.out], HB3.out, HM3.out, by rw [HSTEP.out, HST2.out]; exact HSD2.out⟩
              case measure => simp [intOf]; omega
            · have hst2 : stepD N R sk ((i : Int), b) = (followD R (N * N + 1 - sk.1.length) sk.1 ((i : Int), b), sk.2 + 1) := by unfold stepD; rw [if_neg hin]
              have HST2 := Lib.hid hst2
              rw [if_neg hin] at hlook
              simp only [Bool.false_eq_true, if_false, Option.getD_none] at hlook
              have HFO := Lib.hid (FolI.start (N := N) (R := R) HRS.out HDG.out)
              clear hin hst2
              go_wp2_with fail
              clear hlook
              obtain ⟨T, hT⟩ : ∃ T, T = w2.heap.size := ⟨_, rfl⟩
              rw [← hT] at HT3 ⊢
              clear t0 t1
              obtain ⟨w3, hw3⟩ : ∃ w3, w3 = w2.alloc (.cells #[.int .i64 i, .int .i64 b] 79) := ⟨_, rfl⟩
              rw [← hw3] at HB3 HM3 HT3 ⊢
              have hbT : w.heap.size ≤ T := by rw [hT]; exact HBSZ
              clear hw3 hT
              go_loopg [] (N * N + 1 - sk.1.length) (fun f w4 => ∃ (seen : List Dart) (d : Dart) (L : List (Dart × Value)), FolI N R sk.1 ((i : Int), b) f seen d ∧ Below w.heap.size w w4 ∧ Blk w4 T 79 #[.int .i64 d.1, .int .i64 d.2] ∧ MapB w4 r dartV L ∧ SeenD seen L)
              case atStart => exact ⟨_, _, L, HFO.out, HB3.out, HT3.out, HM3.out, HSD2.out⟩
              case round =>
                clear HFO HB3 HT3 HM3 HSD2
                rename World => w4
                obtain ⟨f, rfl⟩ : ∃ f, f = gk := ⟨_, rfl⟩
                obtain ⟨seen, ⟨da, db⟩, L, hfo, hb, ht, hm, hsd⟩ := hrel
                simp only at ht
                have t0 := ht.cell 0
                have t1 := ht.cell 1
                have hlook := run_look (P := Tryd.prog) keyL_dart Tryd.underlying77 (z := .int .i64 0) (fun u => by kernel_rfl) hm (da, db) false
                rw [hsd] at hlook
                simp only [dartV] at hlook
                have HFO := Lib.hid hfo
                have HB4 := Lib.hid hb
                have HSD4 := Lib.hid hsd
                by_cases hin : (da, db) ∈ seen
                · have hres := hfo.done hin
                  rw [if_pos hin] at hlook
                  simp only [Bool.false_eq_true, if_false, Option.getD_some] at hlook
                  have HRES := Lib.hid hres
                  have HM4 := Lib.hid hm
                  clear hin hres hfo hb ht hm hsd
                  go_wp2_with fail
                  go_roundw
                  case rel => exact ⟨k + 1, L, by omega, by go_num, by rw [HSTEP.out, HST2.out]; simp, HB4.out, HM4.out, by rw [HSTEP.out, HST2.out, HRES.out]; exact HSD4.out⟩
                  case measure => simp [intOf]; omega
                · have hnx := hfo.next HG.out hin
                  have hgd := hfo.gd
                  have hpos := hfo.pos
                  have hrT := hm.ne_blk ht
                  rw [if_neg hin] at hlook
                  simp only [Bool.false_eq_true, if_false, Option.getD_none] at hlook
                  obtain ⟨W2, st2, L1, hent, hM3, hget, hgrow2, hsz2, hst⟩ := run_entry (P := Tryd.prog) keyL_dart Tryd.underlying77 (z := .int .i64 0) (fun u => by kernel_rfl) hm.drew (da, db)
                  obtain ⟨W3, hst3, hM4, hgrow3, hsz3⟩ := hst W2 (.int .i64 1) rfl
                  have hlookD := run_look (P := Tryd.prog) keyL_dart Tryd.underlying77 (z := .int .i64 0) (fun u => by kernel_rfl) hm.drew (da, db) false
                  have hlook2 := run_look (P := Tryd.prog) keyL_dart Tryd.underlying77 (z := .int .i64 0) (fun u => by kernel_rfl) hM3 (da, db) false
                  rw [hget] at hlook2
                  rw [hsd, if_neg hin] at hent hlookD hlook2
                  simp only [Bool.false_eq_true, if_false, Option.getD_none, Option.getD_some, dartV] at hent hlookD hlook2
                  have ht2 := ht.drew.grown hgrow2 (by simp; omega)
                  have ht3 := ht2.grown hgrow3 (by simp; omega)
                  have hb2 := hb.drew.grown hgrow2 (by have := hb.size; exact this) (fun q hq => by cases hq; rw [HR0.out]; exact Nat.le_refl _)
                  have hb3 := hb2.grown hgrow3 hb2.size (fun q hq => by cases hq; rw [HR0.out]; exact Nat.le_refl _)
                  have u0 := ht2.cell 0
                  have u1 := ht2.cell 1
                  have v0 := ht3.cell 0
                  have v1 := ht3.cell 1
                  have HNXT3 := Lib.hid (HNX.out (da, db) W3 hb3 hgd)
                  have HNX2 := Lib.hid hnx
                  have HPOS := Lib.hid hpos
                  have HT3 := Lib.hid ht3
                  have HB3 := Lib.hid hb3
                  have HM4 := Lib.hid hM4
                  have HSD5 := Lib.hid (hsd.put (da, db))
                  have HLT := Lib.hid hm.lt
                  have HRT := Lib.hid hrT
                  have HIN := Lib.hid hin
                  clear hin hfo hb ht hm hsd hnx hgd hpos hM3 hget hst hM4 hgrow2 hgrow3 hsz2 hsz3 ht2 ht3 hb2 hb3 hrT
                  obtain ⟨⟨na, nb⟩, hnn⟩ : ∃ p, p = nextD R (da, db) := ⟨_, rfl⟩
                  rw [← hnn] at HNXT3 HNX2
                  simp only [dartV] at HNXT3
                  clear hnn
                  go_wp2_with fail
                  go_region
                  go_wp2_with fail
                  refine HNXT3.out.mono ?_
                  clear HNXT3 v0 v1
                  rintro e w5 ⟨rfl, hb5⟩
                  have ht5 := HT3.out.below hb5 HT3.out.lt
                  have hm5 := HM4.out.below hb5 HM4.out.lt
                  have hb5' := HB3.out.trans (hb5.mono HB3.out.size)
                  have y0 := ht5.cell 0
                  have y1 := ht5.cell 1
                  have z0 := ht5.frozen 0
                  have z1 := ht5.frozen 1
                  have HT6 : Hid (Blk ((w5.setCell ⟨T, 0, none⟩ (.int .i64 na)).setCell ⟨T, 1, none⟩ (.int .i64 nb)) T 79 #[.int .i64 na, .int .i64 nb]) := Lib.hid ((ht5.put 0 _).put 1 _)
                  have HM6 : Hid (MapB ((w5.setCell ⟨T, 0, none⟩ (.int .i64 na)).setCell ⟨T, 1, none⟩ (.int .i64 nb)) r dartV (putK L (da, db) (.int .i64 1))) := Lib.hid ((hm5.setCell _ _).setCell _ _)
                  have HB6 : Hid (Below w.heap.size w ((w5.setCell ⟨T, 0, none⟩ (.int .i64 na)).setCell ⟨T, 1, none⟩ (.int .i64 nb))) := Lib.hid ((hb5'.setCell (p := ⟨T, 0, none⟩) hbT _).setCell (p := ⟨T, 1, none⟩) hbT _)
                  clear hb5 ht5 hm5 hb5'
                  go_wp2_with fail
                  go_roundg (f - 1)
                  case measure => have := HPOS.out; omega
                  case rel => exact ⟨_, _, _, HNX2.out, HB6.out, HT6.out, HM6.out, HSD5.out⟩
          · obtain rfl : sn = k := by omega
            have HB2 := Lib.hid hb
            have HM2 := Lib.hid hm
            have HSD2 := Lib.hid hsd
            clear hb hm hsd hrs hrl
            go_wp2_with fail
            go_roundw
            case rel => exact ⟨i + 1, L, by omega, by go_num, by rw [HNXT.out], HB2.out, HM2.out, by rw [HNXT.out]; exact HSD2.out⟩
            case measure => simp [intOf]; omega
    · obtain rfl : N = i := by omega
      go_wp2_with fail
      go_ret
      exact ⟨rfl, hb⟩
end Go.Proofs.YtlflnfelhndohaaDoor
