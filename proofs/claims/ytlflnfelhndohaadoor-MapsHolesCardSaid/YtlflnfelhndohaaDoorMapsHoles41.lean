/- The faces of a map: the reference's count. Conditions: the map may be; its rounds read as lists. -/
import Derived.Test.YtlflnfelhndohaaDoorMapsHoles40
namespace Go.Proofs.YtlflnfelhndohaaDoor
open Go.RowKit Go.Shelf

/-- What the row of faces tells. -/
structure ArrD (N : Nat) (seen : List Dart) (arr : List Int) : Prop where
  len : arr.length = N * N
  at_ : ∀ d : Dart, 0 ≤ d.1 ∧ d.1 < N ∧ 0 ≤ d.2 ∧ d.2 < N → (arr.getD (d.1.toNat * N + d.2.toNat) 0 ≠ 0 ↔ d ∈ seen)
theorem ArrD.nil (N : Nat) : ArrD N [] (List.replicate (N * N) 0) := by
  refine ⟨List.length_replicate .., fun d hd => ?_⟩
  rw [getD_at _ _ (by rw [List.length_replicate]; exact grid_lt hd), List.getElem_replicate]
  simp
theorem ArrD.put {N : Nat} {seen : List Dart} {arr : List Int} (h : ArrD N seen arr) {d : Dart} (hd : 0 ≤ d.1 ∧ d.1 < N ∧ 0 ≤ d.2 ∧ d.2 < N) {v : Int} (hv : v ≠ 0) : ArrD N (seen ++ [d]) (arr.set (d.1.toNat * N + d.2.toNat) v) := by
  refine ⟨by rw [List.length_set]; exact h.len, fun x hx => ?_⟩
  have hl1 : x.1.toNat * N + x.2.toNat < arr.length := by rw [h.len]; exact grid_lt hx
  rw [getD_at _ _ (by rw [List.length_set]; exact hl1), List.getElem_set]
  by_cases e : d.1.toNat * N + d.2.toNat = x.1.toNat * N + x.2.toNat
  · rw [if_pos e]
    have := grid_inj hd hx e
    have hxd : x = d := Prod.ext this.1.symm this.2.symm
    simp [hxd, hv]
  · rw [if_neg e, ← getD_at arr _ hl1 0, h.at_ x hx]
    have hne : x ≠ d := fun h => e (by rw [h])
    simp [hne]
set_option maxRecDepth 100000 in
set_option maxHeartbeats 4000000 in
theorem ref_Faces (N n c rc : Nat) (A RA : Option Addr) (rows : List (Sls Int)) (w : World) (hg : MapG N (rows.map Sls.l))
    (hR : Els w w.heap.size 1 (fun s : Sls Int => [s.val]) RA rows) (hrow : ∀ s ∈ rows, Els w w.heap.size 1 icell s.A s.l) :
    Calls Tryd.prog 15 #[.agg #[.int .i64 N, .slice A n c], .slice RA N rc] w fun e w' => e = .returned (.int .i64 ((facesD N (rows.map Sls.l) N).2 : Int)) ∧ Below w.heap.size w w' := by
  obtain ⟨R, hRe⟩ : ∃ R, R = rows.map Sls.l := ⟨_, rfl⟩
  have hlen := hg.len
  rw [List.length_map] at hlen
  have hn10 := hg.n10
  have HRAT : Hid (∀ i (h : i < rows.length), rowI R (i : Int) = rows[i].l) := Lib.hid fun i h => by
    rw [hRe, rowI_at (by rw [Int.toNat_natCast]; exact h)]
    simp only [Int.toNat_natCast]
  rw [← hRe] at hg ⊢
  have HG := Lib.hid hg
  have HRR := Lib.hid hR
  have HRW := Lib.hid hrow
  have HLN := Lib.hid hlen
  obtain ⟨q, hq⟩ : ∃ q, q = N * N := ⟨_, rfl⟩
  have hq100 : q ≤ 100 := by rw [hq]; exact Nat.mul_le_mul hn10 hn10
  have hwq : IntKind.i64.wrap ((N : Int) * (N : Int)) = (q : Int) := by
    rw [hq, Int.natCast_mul]
    refine IntWalk.i64_in _ ?_
    have : (N : Int) * N ≤ 10 * 10 := Int.mul_le_mul (by omega) (by omega) (by omega) (by omega)
    have : 0 ≤ (N : Int) * N := Int.mul_nonneg (by omega) (by omega)
    omega
  have HQ := Lib.hid hq
  have hb0 := (Below.refl w.heap.size w).alloc (Nat.le_refl _) (.cells #[.int .i64 N, .slice A n c] 24)
  have hk0 := Blk.new w 24 #[.int .i64 N, .slice A n c]
  have c0 := hk0.cell 0
  have HB0 := Lib.hid hb0
  have HS0 : Hid (facesD N R 0 = ([], 0)) := Lib.hid rfl
  clear hg hR hrow hlen hRe hb0 hk0 hq
  go_enter Tryd.func15, Tryd.ntmps15
  go_wp2_with (at_make; go_loud (refine wpList_make1 rfl _ _ _ rfl w.heap.size 3 8 (fun x : Int => .int .i64 x) 0 Tryd.underlying25 (by kernel_rfl) rfl _ .i64 .i64 q rfl rfl (by omega) (by unfold maxLen; omega) (by rw [size_alloc']; exact Nat.le_succ _) ?_; intro v1 hown1 hgrow1))
  obtain ⟨S, hS⟩ : ∃ S, S = w.heap.size := ⟨_, rfl⟩
  have hbV := HB0.out.grown hgrow1 HB0.out.size (fun g hg => by cases hg)
  rw [size_alloc', ← hS] at hown1
  rw [← hS] at hbV ⊢
  have HS := Lib.hid hS
  have HOW : Hid (Own v1 S 3 1 icell (some ⟨S + 1, 0, none⟩) q (List.replicate q 0)) := Lib.hid hown1
  have HBV := Lib.hid hbV
  have HAR : Hid (ArrD N [] (List.replicate q 0)) := Lib.hid (by rw [HQ.out]; exact ArrD.nil N)
  clear hS hbV hown1 hgrow1 c0 HB0
  go_loopw [8, 7] (fun s8 s7 wr => ∃ (i : Nat) (arr : List Int), i ≤ N ∧ s8 = .int .i64 i ∧ s7 = .int .i64 ((facesD N R i).2 : Nat) ∧ Below S w wr ∧ Own wr S 3 1 icell (some ⟨S + 1, 0, none⟩) q arr ∧ ArrD N (facesD N R i).1 arr) (fun s8 _ _ => N - (intOf s8).toNat)
  case atStart => exact ⟨0, _, Nat.zero_le _, rfl, rfl, HBV.out, HOW.out, HAR.out⟩
  case round =>
    clear HBV HOW HAR HS0
    rename World => wr
    obtain ⟨i, arr, hi, rfl, rfl, hb, ho, har⟩ := hrel
    have hfs := faces_seen HG.out i hi
    by_cases hlt : i < N
    · have hir : i < rows.length := by rw [HLN.out]; exact hlt
      obtain ⟨br, orr, rfl, _, r0⟩ := (HRR.out.below (by rw [← HS.out]; exact hb)).at1 (f := fun s : Sls Int => s.val) hir
      have hel := HRW.out rows[i] (List.getElem_mem hir)
      have hri := HRAT.out i hir
      obtain ⟨⟨SA, sc, sl⟩, hs⟩ : ∃ s, s = rows[i] := ⟨_, rfl⟩
      rw [← hs] at r0 hel hri
      simp only [Sls.val] at r0 hel hri
      obtain ⟨sn, hsn⟩ : ∃ sn, sn = sl.length := ⟨_, rfl⟩
      have hsz := HG.out.sz (i : Int)
      rw [hri, ← hsn] at hsz
      rw [← hsn] at r0
      have HEL := Lib.hid hel
      have HRI := Lib.hid hri
      have HSN := Lib.hid hsn.symm
      have HFS := Lib.hid hfs.1
      have hfn := hfs.2
      obtain ⟨st, hst⟩ : ∃ st, st = facesD N R i := ⟨_, rfl⟩
      rw [← hst] at hfn HFS har ⊢
      have HB := Lib.hid hb
      have HO := Lib.hid ho
      have HAR := Lib.hid har
      have HNXT : Hid (facesD N R (i + 1) = rowD N R i st sn) := Lib.hid (by rw [facesD, ← hst, hri, ← hsn])
      have hst0 : startD R i st = (st.1, st.2 + if sn = 0 then 1 else 0) := by unfold startD; rw [hri, ← hsn]
      have hii : (i : Int) < (N : Int) := by omega
      clear hb ho har hir hel hri hs hsn hfs hst
      obtain ⟨n1, hn1⟩ : ∃ n1, n1 = st.2 + if sn = 0 then 1 else 0 := ⟨_, rfl⟩
      rw [← hn1] at hst0
      have hn1b : n1 ≤ 500 := by rw [hn1]; split <;> omega
      have HST0 := Lib.hid (show rowD N R i st 0 = (st.1, n1) from hst0)
      clear hst0
      by_cases hs0 : sn = 0
      · have hn1e : n1 = st.2 + 1 := by rw [hn1, if_pos hs0]
        have h0b : ((sn : Int) == 0) = true := by simp [hs0]
        have HN1 := Lib.hid hn1e
        have hz0 : ¬ (0 : Int) < (sn : Int) := by omega
        have HS0 := Lib.hid hs0
        clear hn1 hn1e hs0
        go_wp2_with fail
        go_loopw [38, 7] (fun s38 s7 w2 => s38 = .int .i64 0 ∧ s7 = .int .i64 ((st.2 : Int) + 1) ∧ wr = w2) (fun _ _ _ => 0)
        case atStart => exact ⟨rfl, rfl, rfl⟩
        case round =>
          rename World => w2
          obtain ⟨rfl, rfl, rfl⟩ := hrel
          go_wp2_with fail
          go_roundw
          case rel => exact ⟨i + 1, arr, by omega, by go_num, by rw [HNXT.out, HS0.out, HST0.out, HN1.out]; rfl, HB.out, HO.out, by rw [HNXT.out, HS0.out, HST0.out]; exact HAR.out⟩
          case measure => simp [intOf]; omega
      · have hn1e : n1 = st.2 := by rw [hn1, if_neg hs0]; rfl
        have h0b : ((sn : Int) == 0) = false := by simp [hs0]
        have HN1 := Lib.hid hn1e
        clear hn1 hn1e
        go_wp2_with fail
        rw [← HN1.out]
        go_loopw [38, 7] (fun s38 s7 w2 => ∃ (k : Nat) (arr : List Int), k ≤ sn ∧ s38 = .int .i64 k ∧ s7 = .int .i64 ((rowD N R i st k).2 : Nat) ∧ Below S w w2 ∧ Own w2 S 3 1 icell (some ⟨S + 1, 0, none⟩) q arr ∧ ArrD N (rowD N R i st k).1 arr) (fun s38 _ _ => sn - (intOf s38).toNat)
        case atStart => exact ⟨0, arr, Nat.zero_le _, rfl, by rw [HST0.out], HB.out, HO.out, by rw [HST0.out]; exact HAR.out⟩
        case round =>
          clear HB HO HAR HST0
          rename World => w2
          obtain ⟨k, arr, hk, rfl, rfl, hb, ho, har⟩ := hrel
          have hrl : (rowI R (i : Int)).length = sn := by rw [HRI.out, HSN.out]
          have hrs := row_seen HG.out hlt HFS.out k (by rw [hrl]; exact hk)
          by_cases hlt2 : k < sn
          · have hkl : k < sl.length := by rw [HSN.out]; exact hlt2
            obtain ⟨bs, os, rfl, _, x0⟩ := (HEL.out.below (by rw [← HS.out]; exact hb)).at1 (f := fun x : Int => .int .i64 x) hkl
            have hdg := dart_good HG.out hlt (k := k) (by rw [hrl]; exact hlt2)
            have hxe : (rowI R (i : Int)).getD k 0 = sl[k] := by rw [HRI.out, getD_at sl k hkl]
            rw [hxe] at hdg
            obtain ⟨b, hbe⟩ : ∃ b, b = sl[k] := ⟨_, rfl⟩
            rw [← hbe] at x0 hdg
            obtain ⟨sk, hsk⟩ : ∃ sk, sk = rowD N R i st k := ⟨_, rfl⟩
            have hstep : rowD N R i st (k + 1) = stepD N R sk ((i : Int), b) := by rw [rowD, ← hsk, hxe, ← hbe]
            rw [← hsk] at har hrs ⊢
            have hskn : sk.2 ≤ 1000 := by have := hrs.2; omega
            have hgr := good2_in HG.out hdg
            obtain ⟨bn, rfl⟩ := Int.eq_ofNat_of_zero_le hgr.2.2.1
            have hgl := grid_lt hgr
            simp only [Int.toNat_natCast] at hgl
            obtain ⟨p, hp⟩ : ∃ p, p = i * N := ⟨_, rfl⟩
            obtain ⟨j, hj⟩ : ∃ j, j = p + bn := ⟨_, rfl⟩
            rw [← hp, ← hj, ← HQ.out] at hgl
            have hja : j < arr.length := by rw [har.len, ← HQ.out]; exact hgl
            obtain ⟨g', hg', _, _, a0, _⟩ := ho.cell1 (f := fun x : Int => .int .i64 x) hja
            obtain rfl : S + 1 = g' := by simpa using hg'
            have hat := har.at_ ((i : Int), (bn : Int)) hgr
            simp only [Int.toNat_natCast] at hat
            rw [← hp, ← hj, getD_at arr j hja] at hat
            obtain ⟨v0, hv0⟩ : ∃ v0, v0 = arr[j] := ⟨_, rfl⟩
            rw [← hv0] at a0 hat
            have hw1 : IntKind.i64.wrap ((i : Int) * (N : Int)) = (p : Int) := by
              rw [hp, Int.natCast_mul]
              refine IntWalk.i64_in _ ?_
              have : (i : Int) * N ≤ 10 * 10 := Int.mul_le_mul (by omega) (by omega) (by omega) (by omega)
              have : 0 ≤ (i : Int) * N := Int.mul_nonneg (by omega) (by omega)
              omega
            have hw2 : IntKind.i64.wrap ((p : Int) + (bn : Int)) = (j : Int) := by rw [hj]; rw [IntWalk.i64_in _ (by omega)]; omega
            have hjq : (j : Int) < (q : Int) := by omega
            have HSTEP := Lib.hid hstep
            have HRS := Lib.hid hrs.1
            have HDG := Lib.hid hdg
            have HB3 := Lib.hid hb
            have HO3 := Lib.hid ho
            have HAR3 := Lib.hid har
            have HAT := Lib.hid hat
            have HFO := Lib.hid (FolI.start (N := N) (R := R) HRS.out HDG.out)
            clear hb ho har hkl hdg hxe hbe hsk hstep hrs hrl hgr hp hj hja hg' hv0 hat
            by_cases hv : v0 = 0
            · have hvb : (v0 == 0) = true := by simp [hv]
              have hnot : ((i : Int), (bn : Int)) ∉ sk.1 := fun h => HAT.out.2 h hv
              have hst2 : stepD N R sk ((i : Int), (bn : Int)) = (followD R (N * N + 1 - sk.1.length) sk.1 ((i : Int), (bn : Int)), sk.2 + 1) := by unfold stepD; rw [if_neg hnot]
              have HST2 := Lib.hid hst2
              have HVB := Lib.hid hvb
              clear hv hnot hst2
              go_wp2_with fail
              clear x0 a0 hvb hw1 hw2
              go_loopg [11, 12] (N * N + 1 - sk.1.length) (fun f s11 s12 w4 => ∃ (seen : List Dart) (an bm : Nat) (arr : List Int), s11 = .int .i64 an ∧ s12 = .int .i64 bm ∧ FolI N R sk.1 ((i : Int), (bn : Int)) f seen ((an : Int), (bm : Int)) ∧ Below S w w4 ∧ Own w4 S 3 1 icell (some ⟨S + 1, 0, none⟩) q arr ∧ ArrD N seen arr)
              case atStart => exact ⟨_, i, bn, arr, rfl, rfl, HFO.out, HB3.out, HO3.out, HAR3.out⟩
              case round =>
                clear HFO HB3 HO3 HAR3 HVB
                rename World => w4
                obtain ⟨f, rfl⟩ : ∃ f, f = gk := ⟨_, rfl⟩
                obtain ⟨seen, an, bm, arr, rfl, rfl, hfo, hb, ho, har⟩ := hrel
                have hgr := good2_in HG.out hfo.gd
                have hgl := grid_lt hgr
                simp only [Int.toNat_natCast] at hgl
                obtain ⟨p2, hp⟩ : ∃ p2, p2 = an * N := ⟨_, rfl⟩
                obtain ⟨j2, hj⟩ : ∃ j2, j2 = p2 + bm := ⟨_, rfl⟩
                rw [← hp, ← hj, ← HQ.out] at hgl
                have hja : j2 < arr.length := by rw [har.len, ← HQ.out]; exact hgl
                obtain ⟨g', hg', _, _, a0, fz0⟩ := ho.cell1 (f := fun x : Int => .int .i64 x) hja
                obtain rfl : S + 1 = g' := by simpa using hg'
                have hat := har.at_ ((an : Int), (bm : Int)) hgr
                simp only [Int.toNat_natCast] at hat
                rw [← hp, ← hj, getD_at arr j2 hja] at hat
                obtain ⟨v1, hv1⟩ : ∃ v1, v1 = arr[j2] := ⟨_, rfl⟩
                rw [← hv1] at a0 hat
                have hw1 : IntKind.i64.wrap ((an : Int) * (N : Int)) = (p2 : Int) := by
                  rw [hp, Int.natCast_mul]
                  refine IntWalk.i64_in _ ?_
                  have h1 := hgr.2.1
                  simp only at h1
                  have : (an : Int) * N ≤ 10 * 10 := Int.mul_le_mul (by omega) (by omega) (by omega) (by omega)
                  have : 0 ≤ (an : Int) * N := Int.mul_nonneg (by omega) (by omega)
                  omega
                have hw2 : IntKind.i64.wrap ((p2 : Int) + (bm : Int)) = (j2 : Int) := by rw [hj]; rw [IntWalk.i64_in _ (by omega)]; omega
                have hjq2 : (j2 : Int) < (q : Int) := by omega
                have HFO := Lib.hid hfo
                have HB4 := Lib.hid hb
                have HO4 := Lib.hid ho
                have HAR4 := Lib.hid har
                by_cases hv : v1 = 0
                · have hvb : (v1 == 0) = true := by simp [hv]
                  have hnot : ((an : Int), (bm : Int)) ∉ seen := fun h => hat.2 h hv
                  have hnx := hfo.next HG.out hnot
                  have hgd := hfo.gd
                  have hpos := hfo.pos
                  have hput := ho.put1 (k := j2) (x := (sk.2 : Int) + 1) hja
                  have harp := har.put (d := ((an : Int), (bm : Int))) hgr (v := (sk.2 : Int) + 1) (by omega)
                  simp only [Int.toNat_natCast] at harp
                  rw [← hp, ← hj] at harp
                  obtain ⟨_, hbmN, hmem⟩ := HG.out.ok (an : Int) (bm : Int) hgd.1 hgd.2.1 hgd.2.2
                  obtain ⟨t, ht, ht1, ht2, ht3⟩ := idxF_mem hmem
                  have hbm : bm < rows.length := by rw [HLN.out]; omega
                  have hrbm := HRAT.out bm hbm
                  have hb5 := hb.setCell (p := ⟨S + 1, j2, none⟩) (show S ≤ S + 1 by omega) (.int .i64 ((sk.2 : Int) + 1))
                  obtain ⟨w5, hw5⟩ : ∃ w5, w5 = w4.setCell ⟨S + 1, j2, none⟩ (.int .i64 ((sk.2 : Int) + 1)) := ⟨_, rfl⟩
                  rw [← hw5] at hb5 hput
                  obtain ⟨br', or', hbr', _, r1⟩ := (HRR.out.below (by rw [← HS.out]; exact hb5)).at1 (f := fun s : Sls Int => s.val) hbm
                  obtain ⟨rfl, rfl⟩ : br = br' ∧ orr = or' := by simpa using hbr'
                  have hel5 := (HRW.out rows[bm] (List.getElem_mem hbm)).below (show Below w.heap.size w w5 by rw [← HS.out]; exact hb5)
                  have hszb := HG.out.sz (bm : Int)
                  have hnxt : nextD R ((an : Int), (bm : Int)) = ((bm : Int), rows[bm].l.getD ((t + 1) % rows[bm].l.length) 0) := by
                    unfold nextD
                    simp only
                    rw [ht1, hrbm]
                    congr 2
                  rw [hrbm] at hszb
                  have ht' : t < rows[bm].l.length := by rw [← hrbm]; exact ht
                  have ht2' : rows[bm].l[t] = (an : Int) := by
                    have : rows[bm].l.getD t 0 = (rowI R (bm : Int)).getD t 0 := by rw [hrbm]
                    rw [getD_at _ t ht', getD_at _ t ht] at this
                    rw [this]; exact ht2
                  have ht3' : ∀ m, ∀ hm : m < t, rows[bm].l[m]'(by omega) ≠ (an : Int) := fun m hm => by
                    have h1 := ht3 m hm
                    have : rows[bm].l.getD m 0 = (rowI R (bm : Int)).getD m 0 := by rw [hrbm]
                    rw [getD_at _ m (by omega), getD_at _ m (by omega)] at this
                    rw [this]; exact h1
                  obtain ⟨⟨TA, tc, tl⟩, hts⟩ : ∃ s, s = rows[bm] := ⟨_, rfl⟩
                  rw [← hts] at r1 hel5 hszb hnxt
                  simp only [Sls.val] at r1 hel5 hszb hnxt
                  have ht4 : t < tl.length := by have := ht'; rw [← hts] at this; exact this
                  have ht5 : tl[t] = (an : Int) := by
                    have : tl.getD t 0 = rows[bm].l.getD t 0 := by rw [← hts]
                    rw [getD_at _ t ht4, getD_at _ t ht'] at this
                    rw [this]; exact ht2'
                  have ht6 : ∀ m, ∀ hm : m < t, tl[m]'(by omega) ≠ (an : Int) := fun m hm => by
                    have h1 := ht3' m hm
                    have : tl.getD m 0 = rows[bm].l.getD m 0 := by rw [← hts]
                    rw [getD_at _ m (by omega), getD_at _ m (by omega)] at this
                    rw [this]; exact h1
                  obtain ⟨tn, htn⟩ : ∃ tn, tn = tl.length := ⟨_, rfl⟩
                  rw [← htn] at r1 hszb hnxt
                  obtain ⟨k1, hk1e⟩ : ∃ k1, k1 = (t + 1) % tn := ⟨_, rfl⟩
                  rw [← hk1e] at hnxt
                  have hk1n : k1 < tn := by rw [hk1e]; exact Nat.mod_lt _ (by omega)
                  have hk1l : k1 < tl.length := by omega
                  have hr1 : ((t : Int) + 1).tmod (tn : Int) = (k1 : Int) := by
                    rw [Int.tmod_eq_emod_of_nonneg (by omega), hk1e, Int.natCast_emod]
                    rfl
                  rw [hnxt, getD_at tl k1 hk1l] at hnx
                  have hxg := (good2_in HG.out hnx.gd).2.2.1
                  obtain ⟨xn, hxn⟩ := Int.eq_ofNat_of_zero_le hxg
                  have hxn' : tl[k1] = (xn : Int) := hxn
                  rw [hxn'] at hnx
                  obtain ⟨b5, o5, rfl, _, x5⟩ := hel5.at1 (f := fun x : Int => .int .i64 x) hk1l
                  rw [hxn'] at x5
                  have hbmi : (bm : Int) < (N : Int) := hbmN
                  have htni : (t : Int) < (tn : Int) := by omega
                  have hwt : IntKind.i64.wrap ((t : Int) + 1) = (t : Int) + 1 := IntWalk.i64_in _ (by omega)
                  have hwk1 : IntKind.i64.wrap (k1 : Int) = (k1 : Int) := IntWalk.i64_in _ (by omega)
                  have htn0 : ¬ tn = 0 := by omega
                  have hk1i : (k1 : Int) < (tn : Int) := by omega
                  have HNX := Lib.hid hnx
                  have HPOS := Lib.hid hpos
                  have HB5 := Lib.hid hb5
                  have HO5 := Lib.hid hput
                  have HAR5 := Lib.hid harp
                  have HEL5 := Lib.hid hel5
                  have HT5 : Hid (∀ h : t < tl.length, tl[t] = (an : Int)) := Lib.hid fun _ => ht5
                  have HT6 : Hid (∀ m, ∀ hm : m < t, ∀ h : m < tl.length, tl[m] ≠ (an : Int)) := Lib.hid fun m hm _ => ht6 m hm
                  have HTN := Lib.hid htn.symm
                  have HW5 := Lib.hid hw5
                  have httn : t < tn := by omega
                  clear hv hnot hnx hgd hpos hput harp hmem ht ht1 ht2 ht3 hbm hrbm hb5 hbr' hel5 hnxt ht' ht2' ht3' hts ht4 ht5 ht6 hk1e hk1l hxg hxn hxn' hbmN hfo hb ho har hat hja hgr hgl hp hj hg' hv1 hw5 htn
                  go_wp2_with fail
                  rw [← HW5.out]
                  clear a0 fz0
                  go_loopw [13] (fun s13 w6 => ∃ m : Nat, m ≤ t ∧ s13 = .int .i64 m ∧ w5 = w6) (fun s13 _ => t - (intOf s13).toNat)
                  case atStart => exact ⟨0, Nat.zero_le _, rfl, rfl⟩
                  case round =>
                    rename World => w6
                    obtain ⟨m, hm, rfl, rfl⟩ := hrel
                    have hml : m < tl.length := by rw [HTN.out]; omega
                    obtain ⟨b6, o6, hb6, _, y6⟩ := HEL5.out.at1 (f := fun x : Int => .int .i64 x) hml
                    obtain ⟨rfl, rfl⟩ : b5 = b6 ∧ o5 = o6 := by simpa using hb6
                    have hmi : (m : Int) < (tn : Int) := by omega
                    by_cases hmt : m < t
                    · have hne := HT6.out m hmt hml
                      obtain ⟨y, hy⟩ : ∃ y, y = tl[m] := ⟨_, rfl⟩
                      rw [← hy] at y6 hne
                      have hnb : (y != (an : Int)) = true := by simp [hne]
                      have hnb2 : (y == (an : Int)) = false := by simp [hne]
                      clear hne hy hb6 hml
                      go_wp2_with fail
                      go_roundw
                      case rel => exact ⟨m + 1, by omega, by go_num, trivial⟩
                      case measure => simp [intOf]; omega
                    · obtain rfl : t = m := by omega
                      rw [HT5.out hml] at y6
                      clear hb6 hml
                      go_wp2_with fail
                      go_quiet (fail)
                      go_wp2_with fail
                      go_roundg (f - 1)
                      case measure => have := HPOS.out; omega
                      case rel => exact ⟨_, bm, xn, _, rfl, rfl, HNX.out, below_drewN HB5.out _, HO5.out.drewN _, HAR5.out⟩
                · have hvb : (v1 == 0) = false := by simp [hv]
                  have hin : ((an : Int), (bm : Int)) ∈ seen := hat.1 hv
                  have HRES := Lib.hid (hfo.done hin)
                  clear hv hin hat hfo hb ho har hja hgr hgl hp hj hg' hv1
                  go_wp2_with fail
                  go_roundw
                  case rel => exact ⟨k + 1, arr, by omega, by go_num, by rw [HSTEP.out, HST2.out]; simp, HB4.out, HO4.out, by rw [HSTEP.out, HST2.out, HRES.out]; exact HAR4.out⟩
                  case measure => simp [intOf]; omega
            · have hvb : (v0 == 0) = false := by simp [hv]
              have hyes : ((i : Int), (bn : Int)) ∈ sk.1 := HAT.out.1 hv
              have hst2 : stepD N R sk ((i : Int), (bn : Int)) = sk := by unfold stepD; rw [if_pos hyes]
              have HST2 := Lib.hid hst2
              clear hv hyes hst2
              go_wp2_with fail
              go_loopw [11, 12] (fun s11 s12 w4 => s11 = .int .i64 i ∧ s12 = .int .i64 bn ∧ w2 = w4) (fun _ _ _ => 0)
              case atStart => exact ⟨rfl, rfl, rfl⟩
              case round =>
                rename World => w4
                obtain ⟨rfl, rfl, rfl⟩ := hrel
                go_wp2_with fail
                go_roundw
                case rel => exact ⟨k + 1, arr, by omega, by go_num, by rw [HSTEP.out, HST2.out], HB3.out, HO3.out, by rw [HSTEP.out, HST2.out]; exact HAR3.out⟩
                case measure => simp [intOf]; omega
          · obtain rfl : sn = k := by omega
            have HB2 := Lib.hid hb
            have HO2 := Lib.hid ho
            have HAR2 := Lib.hid har
            clear hb ho har hrs hrl
            go_wp2_with fail
            go_roundw
            case rel => exact ⟨i + 1, arr, by omega, by go_num, by rw [HNXT.out], HB2.out, HO2.out, by rw [HNXT.out]; exact HAR2.out⟩
            case measure => simp [intOf]; omega
    · obtain rfl : N = i := by omega
      go_wp2_with fail
      go_ret
      exact ⟨rfl, by rw [← HS.out]; exact hb⟩
end Go.Proofs.YtlflnfelhndohaaDoor
