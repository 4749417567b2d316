/- The reference's least forest: its walk. Conditions: the edges read as a list and may be. -/
import Derived.Test.YtjkfogkpacmdlaaSpanR
import Derived.Test.YtjkfogkpacmdlaaDistA
namespace Go.Proofs.Ytjkfogkpacmdlaa
open Go.RowKit

/-- The edges ahead of one, of those looked at so far. -/
def filtL (l : List Ed) (n : Nat) (k : Int) (j : Nat) : List Ed := (((restL n 0).take j).filter fun y => aheadB l y k).map (edAt l)
theorem rest_take {n j : Nat} (h : j < n) : (restL n 0).take (j + 1) = (restL n 0).take j ++ [(j : Int)] := by
  rw [List.take_succ_eq_append_getElem (by rw [restL_len]; exact h), ← getD_at (restL n 0) j (by rw [restL_len]; exact h) 0, restL_getD h]
theorem filtL_succ (l : List Ed) {n j : Nat} (k : Int) (h : j < n) : filtL l n k (j + 1) = filtL l n k j ++ if aheadB l j k then [edAt l j] else [] := by
  unfold filtL
  rw [rest_take h, List.filter_append, List.map_append]
  congr 1
  by_cases hb : aheadB l j k = true
  · rw [if_pos hb]; simp [hb]
  · rw [if_neg hb]; simp [hb]
theorem filtL_all (l : List Ed) (n : Nat) (k : Int) : filtL l n k n = (aheadL l n k).map (edAt l) := by
  unfold filtL aheadL aheadB
  rw [List.take_of_length_le (by rw [restL_len]; exact Nat.le_refl _)]
theorem filtL_le (l : List Ed) (n : Nat) (k : Int) (j : Nat) : (filtL l n k j).length ≤ n := by
  unfold filtL
  rw [List.length_map]
  refine Nat.le_trans (List.length_filter_le _ _) ?_
  rw [List.length_take, restL_len]
  omega
theorem rest_map {l : List Ed} {n : Nat} (hn : l.length = n) : (restL n 0).map (edAt l) = l := by
  apply List.ext_getElem (by rw [List.length_map, restL_len, hn])
  intro i h1 h2
  rw [List.getElem_map, ← getD_at (restL n 0) i (by rw [restL_len]; omega) 0, restL_getD (by omega)]
  unfold edAt
  rw [Int.toNat_natCast, getD_at l i h2]
theorem filtL_good {m n : Nat} {l : List Ed} (hg : GoodG m l) (hn : l.length = n) (k : Int) : GoodG m (filtL l n k n) := by
  have hs : (filtL l n k n).Sublist l := by
    rw [filtL_all]
    have h1 : (aheadL l n k).Sublist (restL n 0) := List.filter_sublist
    have := h1.map (edAt l)
    rwa [rest_map hn] at this
  exact ⟨hg.n10, Nat.le_trans hs.length_le hg.m45, fun e he => hg.ed e (hs.subset he), hg.nd.sublist hs⟩
open Classical in
theorem leastL_succ (l : List Ed) {n k : Nat} (h : k < n) : leastL l n (k + 1) = leastL l n k ++ if linked l (aheadL l n k) k then [] else [(k : Int)] := by
  unfold leastL
  rw [rest_take h, List.filter_append]
  congr 1
  by_cases hb : linked l (aheadL l n k) k
  · rw [if_pos hb, List.filter_cons_of_neg (by simp [hb])]; rfl
  · rw [if_neg hb, List.filter_cons_of_pos (by simp [hb])]; rfl
theorem leastL_le (l : List Ed) (n k : Nat) : (leastL l n k).length ≤ n := by
  unfold leastL
  refine Nat.le_trans (List.length_filter_le _ _) ?_
  rw [List.length_take, restL_len]
  omega

/-- While the edges ahead of one are gathered. -/
def GatI (l : List Ed) (k S E m n n3 : Nat) (A : Option Addr) (c : Nat) (A3 : Option Addr) (cap3 : Nat) (L3 : List Int) (ea eb ew : Int) (w : World) (s7 : Value) (wr : World) : Prop :=
  ∃ (j : Nat) (A7 : Option Addr) (n7 cap7 : Nat), j ≤ n ∧ s7 = .int .i64 j ∧ (filtL l n k j).length = n7 ∧ Below S w wr ∧ E + 2 ≤ wr.heap.size ∧ Blk wr S 24 #[.int .i64 m, .slice A n c] ∧ Blk wr E 61 #[.int .i64 ea, .int .i64 eb, .int .i64 ew] ∧ Blk wr (E + 1) 24 #[.int .i64 m, .slice A7 n7 cap7] ∧ Own wr (S + 1) 3 1 icell A3 cap3 L3 ∧ Own wr (E + 2) 61 3 Ed.cells A7 cap7 (filtL l n k j)
set_option maxRecDepth 100000 in
set_option maxHeartbeats 4000000 in
theorem ref_Least (m : Nat) (A : Option Addr) (n c : Nat) (l : List Ed) (w : World) (hl : l.length = n) (hg : GoodG m l) (hr : Els w w.heap.size 3 Ed.cells A l) :
    Calls Try.prog 21 #[.agg #[.int .i64 m, .slice A n c]] w fun e w' => ∃ A' k cp', e = .returned (.slice A' k cp') ∧ (leastL l n n).length = k ∧ Below w.heap.size w w' ∧ Own w' w.heap.size 3 1 icell A' cp' (leastL l n n) := by
  obtain ⟨S, hS⟩ : ∃ S, S = w.heap.size := ⟨_, rfl⟩
  have hb0 := (Below.refl w.heap.size w).alloc (Nat.le_refl _) (.cells #[.int .i64 m, .slice A n c] 24)
  have hB0 := Blk.new w 24 #[.int .i64 m, .slice A n c]
  have hz0 : (w.alloc (.cells #[.int .i64 m, .slice A n c] 24)).heap.size = S + 1 := by rw [size_alloc', hS]
  obtain ⟨V, hV⟩ : ∃ V, V = w.alloc (.cells #[.int .i64 m, .slice A n c] 24) := ⟨_, rfl⟩
  rw [← hV] at hb0 hB0 hz0
  rw [← hS] at hb0 hB0 hr ⊢
  have hn45 : n ≤ 45 := by rw [← hl]; exact hg.m45
  have hm10 := hg.n10
  have HL := Lib.hid hl
  have HG := Lib.hid hg
  have HR := Lib.hid hr
  have HB0 := Lib.hid hb0
  have HK0 := Lib.hid hB0
  have HS := Lib.hid hS
  have HV := Lib.hid hV
  have HZ0 := Lib.hid hz0
  have c0 := hB0.cell 0
  have c1 := hB0.cell 1
  clear hr hb0 hB0 hl hS hV hz0 hg
  go_enter Try.func21, Try.ntmps21
  go_wp2_with fail
  rw [← HV.out, ← HS.out]
  clear c0 c1
  go_loopw [11, 3, 4, 5, 6, 7] (fun s11 s3 _ _ _ _ wr => ∃ (k : Nat) (A3 : Option Addr) (n3 cap3 : Nat), k ≤ n ∧ s11 = .int .i64 k ∧ s3 = .slice A3 n3 cap3 ∧ (leastL l n k).length = n3 ∧ Below S w wr ∧ S + 1 ≤ wr.heap.size ∧ Blk wr S 24 #[.int .i64 m, .slice A n c] ∧ Own wr (S + 1) 3 1 icell A3 cap3 (leastL l n k)) (fun s11 _ _ _ _ _ _ => n - (intOf s11).toNat)
  case atStart => exact ⟨0, none, 0, 0, Nat.zero_le _, rfl, rfl, by simp [leastL], HB0.out, by rw [HZ0.out]; exact Nat.le_refl _, HK0.out, by simpa [leastL] using Own.nil (f := icell) (c := 1) _ _ _ (fun _ => rfl)⟩
  case round =>
    clear HB0 HK0
    rename World => wr
    obtain ⟨k, A3, n3, cap3, hk, rfl, rfl, hn3, hb, hz, hblk, ho⟩ := hrel
    have hn345 : n3 ≤ 45 := by rw [← hn3]; exact Nat.le_trans (leastL_le l n k) hn45
    by_cases hkn : k < n
    · have hkl : k < l.length := by rw [HL.out]; exact hkn
      obtain ⟨bb, oo, hA, hbb, g0, g1, g2⟩ := (HR.out.below hb).at3 hkl
      obtain ⟨a, b, haN, hbN, hea, heb⟩ := good_edL HG.out (x := (k : Int)) (by omega) (by omega)
      have hei : edAt l (k : Int) = l[k] := by unfold edAt; rw [Int.toNat_natCast, getD_at l k hkl]
      rw [← hei, hea] at g0
      rw [← hei, heb] at g1
      rw [← hei] at g2
      obtain ⟨ew, hew⟩ : ∃ ew, ew = (edAt l (k : Int)).w := ⟨_, rfl⟩
      rw [← hew] at g2
      obtain ⟨E, hE⟩ : ∃ E, E = wr.heap.size := ⟨_, rfl⟩
      have c1 := hblk.cell 1
      have c0 := (hblk.alloc (.cells #[.int .i64 (a : Int), .int .i64 (b : Int), .int .i64 ew] 61)).cell 0
      have h3lt : ∀ g, blkOf A3 = some g → S + 1 ≤ g ∧ g < E := fun g hg => by have := ho.lt g hg; omega
      obtain ⟨W1, hW1⟩ : ∃ W1, W1 = wr.alloc (.cells #[.int .i64 (a : Int), .int .i64 (b : Int), .int .i64 ew] 61) := ⟨_, rfl⟩
      have hz1 : W1.heap.size = E + 1 := by rw [hW1, size_alloc', hE]
      have hbE : Blk W1 E 61 #[.int .i64 (a : Int), .int .i64 (b : Int), .int .i64 ew] := by rw [hW1, hE]; exact Blk.new _ _ _
      obtain ⟨W2, hW2⟩ : ∃ W2, W2 = W1.alloc (.cells #[.int .i64 (m : Int), .slice none 0 0] 24) := ⟨_, rfl⟩
      have hz2 : W2.heap.size = E + 2 := by rw [hW2, size_alloc', hz1]
      have hbG : Blk W2 (E + 1) 24 #[.int .i64 (m : Int), .slice none 0 0] := by rw [hW2, ← hz1]; exact Blk.new _ _ _
      have hST : GatI l k S E m n n3 A c A3 cap3 (leastL l n k) a b ew w (.int .i64 (0 : Nat)) W2 := by
        refine ⟨0, none, 0, 0, Nat.zero_le _, rfl, by simp [filtL], ?_, by omega, ?_, ?_, hbG, ?_, by simpa [filtL] using Own.nil (f := Ed.cells) (c := 3) _ _ _ (fun _ => rfl)⟩
        · rw [hW2]; refine Below.alloc ?_ (by omega) _
          rw [hW1]; exact hb.alloc (by omega) _
        · rw [hW2, hW1]; exact (hblk.alloc _).alloc _
        · rw [hW2]; exact hbE.alloc _
        · rw [hW2, hW1]; exact (ho.alloc _).alloc _
      have HST := Lib.hid hST
      have H3LT := Lib.hid h3lt
      have HSC := Lib.hid (leastL_succ l hkn)
      have HN3 := Lib.hid hn3
      have HEA := Lib.hid hea
      have HEB := Lib.hid heb
      have HW1 := Lib.hid hW1
      have HW2 := Lib.hid hW2
      have HZ1 := Lib.hid hz1
      have HE := Lib.hid hE
      have HA := Lib.hid hA
      have hSE : S + 1 ≤ E := by omega
      subst hA
      clear hb hz hblk ho hn3 hea heb hei hew hE h3lt hW1 hW2 hz1 hz2 hbE hbG hST
      go_wp2_with fail
      rw [← HW1.out]
      rw [← HW2.out, ← HE.out]
      clear g0 g1 g2 c0 c1
      go_loopw [7] (fun s7 w2 => GatI l k S E m n n3 (some ⟨bb, oo, none⟩) c A3 cap3 (leastL l n k) a b ew w s7 w2) (fun s7 _ => n - (intOf s7).toNat)
      case atStart => exact HST.out
      case round =>
        clear HST
        rename World => w2
        obtain ⟨j, A7, n7, cap7, hj, rfl, hn7, hb, hz, hbS, hbE, hbG, ho3, ho7⟩ := hrel
        have hn745 : n7 ≤ 45 := by rw [← hn7]; exact Nat.le_trans (filtL_le l n k j) hn45
        have s0 := hbS.cell 0
        have s1 := hbS.cell 1
        have HB := Lib.hid hb
        have HBS := Lib.hid hbS
        have HBE := Lib.hid hbE
        have HBG := Lib.hid hbG
        have HO3 := Lib.hid ho3
        have HO7 := Lib.hid ho7
        have HN7 := Lib.hid hn7
        by_cases hjn : j < n
        · have HAH := Lib.hid (ref_ahead l m j k (some ⟨bb, oo, none⟩) n c w2 HL.out hjn hkn ((HR.out.below hb).more (by omega)))
          have HFS := Lib.hid (filtL_succ l (k : Int) hjn)
          clear hb hbS hbE hbG ho3 ho7 hn7
          go_wp2_with fail
          refine HAH.out.mono ?_
          clear HAH
          rintro e w3 ⟨rfl, hb3⟩
          have hbS3 := HBS.out.below hb3 (by omega)
          have hbE3 := HBE.out.below hb3 (by omega)
          have hbG3 := HBG.out.below hb3 (by omega)
          have ho33 := HO3.out.below hb3 (Nat.le_refl _)
          have ho73 := HO7.out.below hb3 (Nat.le_refl _)
          have hbb3 := HB.out.trans (hb3.mono (by omega))
          have hz3 : E + 2 ≤ w3.heap.size := by have := hb3.size; omega
          have HB3 := Lib.hid hbb3
          have HBS3 := Lib.hid hbS3
          have HBE3 := Lib.hid hbE3
          have HBG3 := Lib.hid hbG3
          have HO33 := Lib.hid ho33
          have HO73 := Lib.hid ho73
          cases hah : aheadB l j k with
          | false =>
            rw [hah] at HFS
            have hfs : filtL l n k (j + 1) = filtL l n k j := by rw [HFS.out]; simp
            have HN : Hid (GatI l k S E m n n3 (some ⟨bb, oo, none⟩) c A3 cap3 (leastL l n k) a b ew w (.int .i64 ((j + 1 : Nat) : Int)) w3) := Lib.hid ⟨j + 1, A7, n7, cap7, by omega, rfl, by rw [hfs]; exact HN7.out, HB3.out, hz3, HBS3.out, HBE3.out, HBG3.out, HO33.out, by rw [hfs]; exact HO73.out⟩
            clear hah hfs hb3 hbS3 hbE3 hbG3 ho33 ho73 hbb3 s0 s1
            go_wp2_with fail
            go_roundw
            case rel => exact HN.out
            case measure => simp [intOf]; omega
          | true =>
            rw [hah] at HFS
            have hfs : filtL l n k (j + 1) = filtL l n k j ++ [edAt l j] := by rw [HFS.out]; simp
            have HFS2 := Lib.hid hfs
            have hjl : j < l.length := by rw [HL.out]; exact hjn
            obtain ⟨bb', oo', hA', hbb', f0, f1, f2⟩ := (HR.out.below hbb3).at3 hjl
            obtain ⟨rfl, rfl⟩ : bb = bb' ∧ oo = oo' := by simpa using hA'
            have hej : edAt l (j : Int) = l[j] := by unfold edAt; rw [Int.toNat_natCast, getD_at l j hjl]
            rw [← hej] at f0 f1 f2
            obtain ⟨⟨xa, xb, xw⟩, hxe⟩ : ∃ e, e = edAt l (j : Int) := ⟨_, rfl⟩
            rw [← hxe] at f0 f1 f2
            rw [← hxe] at HFS2
            simp only at f0 f1 f2
            have s30 := hbS3.cell 1
            have q1 := hbG3.cell 1
            have qf := hbG3.frozen 1
            have hC : ∀ V, Below (E + 2) w3 V → V.cell? ⟨E + 1, 1, none⟩ = some (.slice A7 n7 cap7) ∧ V.cell? ⟨S, 1, none⟩ = some (.slice (some ⟨bb, oo, none⟩) n c) ∧ V.cell? ⟨bb, oo + j * 3, none⟩ = some (.int .i64 xa) ∧ V.cell? ⟨bb, oo + j * 3 + 1, none⟩ = some (.int .i64 xb) ∧ V.cell? ⟨bb, oo + j * 3 + 2, none⟩ = some (.int .i64 xw) := fun V hV =>
              ⟨(HBG3.out.below hV (by omega)).cell 1, (HBS3.out.below hV (by omega)).cell 1, by rw [← f0]; exact hV.cell (p := ⟨bb, _, none⟩) (show bb < E + 2 by omega), by rw [← f1]; exact hV.cell (p := ⟨bb, _, none⟩) (show bb < E + 2 by omega), by rw [← f2]; exact hV.cell (p := ⟨bb, _, none⟩) (show bb < E + 2 by omega)⟩
            have HCC := Lib.hid hC
            clear hah hfs hb3 hbS3 hbE3 hbG3 ho33 ho73 hbb3 s0 s1 hA' hej hxe hC
            go_wp2_with fail
            refine region_plain 10 11 (fun V => V.cell? ⟨E + 1, 1, none⟩ = some (.slice A7 n7 cap7) ∧ V.cell? ⟨S, 1, none⟩ = some (.slice (some ⟨bb, oo, none⟩) n c) ∧ V.cell? ⟨bb, oo + j * 3, none⟩ = some (.int .i64 xa) ∧ V.cell? ⟨bb, oo + j * 3 + 1, none⟩ = some (.int .i64 xb) ∧ V.cell? ⟨bb, oo + j * 3 + 2, none⟩ = some (.int .i64 xw)) (by kernel_rfl) rfl ?_
            refine anyC_reads (by kernel_rfl) [0, 1, 2, 3, 4, 5, 6] ?opa ?oha 4 _ _ _ (by kernel_rfl) ?oka
            case oha => (simp only [List.filterMap_cons, List.filterMap_nil, List.getElem?_toArray, List.getElem?_cons_zero, List.getElem?_cons_succ]; try rfl)
            repeat (
              refine readC_step (v := ?_) rfl (fun w' hw' => ?_) ?_
              rotate_left
              focus (obtain ⟨q0, q1, q2, q3, q4⟩ := hw'; go_simp; try with_reducible rfl)
              go_simp)
            refine readC_nil ?_
            refine anyC_one (i := 7) (by kernel_rfl) rfl rfl (.inr (HCC.out _ ((Below.refl _ w3).drew))) ?_
            go_simp
            have hb5 : Below (E + 2) w3 (w3.alloc (.cells #[.int .i64 xa, .int .i64 xb, .int .i64 xw] 61)).drew := ((Below.refl (E + 2) w3).alloc hz3 _).drew
            have hlit : Blk (w3.alloc (.cells #[.int .i64 xa, .int .i64 xb, .int .i64 xw] 61)).drew w3.heap.size 61 #[.int .i64 xa, .int .i64 xb, .int .i64 xw] := Blk.new _ _ _
            have hz5 : E + 2 ≤ (w3.alloc (.cells #[.int .i64 xa, .int .i64 xb, .int .i64 xw] 61)).drew.heap.size := by
              show E + 2 ≤ (w3.alloc (.cells #[.int .i64 xa, .int .i64 xb, .int .i64 xw] 61)).heap.size
              rw [size_alloc']
              omega
            have ho75 : Own (w3.alloc (.cells #[.int .i64 xa, .int .i64 xb, .int .i64 xw] 61)).drew (E + 2) 61 3 Ed.cells A7 cap7 (filtL l n k j) := HO73.out.alloc _
            have ho35 : Own (w3.alloc (.cells #[.int .i64 xa, .int .i64 xb, .int .i64 xw] 61)).drew (S + 1) 3 1 icell A3 cap3 (leastL l n k) := HO33.out.alloc _
            obtain ⟨W5, hW5⟩ : ∃ W5, W5 = (w3.alloc (.cells #[.int .i64 xa, .int .i64 xb, .int .i64 xw] 61)).drew := ⟨_, rfl⟩
            rw [← hW5] at hb5 hlit hz5 ho75 ho35 ⊢
            clear hW5
            have HLIT := Lib.hid hlit
            refine anyC_one (i := 8) (by kernel_rfl) rfl rfl (.inr (HCC.out _ hb5)) ?_
            refine wp_append_els _ _ 22 rfl (E + 2) 3 61 (.agg #[.int .i64 0, .int .i64 0, .int .i64 0]) 24 Try.underlying22 (by kernel_rfl) rfl (by omega) Ed.cells _ A7 n7 cap7 _ HN7.out rfl ho75 _ 1 1 [⟨xa, xb, xw⟩] rfl rfl _ (els_of_blk HLIT.out 3 Ed.cells (fun _ => rfl) [⟨xa, xb, xw⟩] rfl) (by simp [Value.oneCell']) (by unfold maxLen; omega) (by omega) hz5 ?_
            intro A8 cap8 w8 hown8 hgrow8 hloc8
            have hb8 : Below (E + 2) w3 w8 := hb5.grown hgrow8 (by omega) (fun g hg => (ho75.lt g hg).1)
            have ho38 := ho35.kept hgrow8 (by
              rcases hA3 : blkOf A3 with _ | g
              · exact .inl rfl
              · right
                intro e
                have h1 := (H3LT.out g hA3).2
                have h2 := (ho75.lt g e.symm).1
                omega)
            have hz8 : E + 2 ≤ w8.heap.size := by have := hb8.size; omega
            have hS8 := HBS3.out.below hb8 (by omega)
            have hE8 := HBE3.out.below hb8 (by omega)
            have hG8 := HBG3.out.below hb8 (by omega)
            have q8 := hG8.cell 1
            have f8 := hG8.frozen 1
            have HN : Hid (GatI l k S E m n n3 (some ⟨bb, oo, none⟩) c A3 cap3 (leastL l n k) a b ew w (.int .i64 ((j + 1 : Nat) : Int)) (w8.setCell ⟨E + 1, 1, none⟩ (.slice A8 (n7 + 1) cap8))) := Lib.hid ⟨j + 1, A8, n7 + 1, cap8, by omega, rfl, by rw [HFS2.out, List.length_append, HN7.out]; rfl, (HB3.out.trans (hb8.mono (by omega))).setCell (p := ⟨E + 1, 1, none⟩) (show S ≤ E + 1 by omega) _, by rw [World.size_setCell]; exact hz8, hS8.far (p := ⟨E + 1, 1, none⟩) (show S ≠ E + 1 by omega) _, hE8.far (p := ⟨E + 1, 1, none⟩) (show E ≠ E + 1 by omega) _, hG8.put 1 _, ho38.far (p := ⟨E + 1, 1, none⟩) (fun e => by
                have h1 : E + 1 < E := (H3LT.out _ e).2
                omega) _, by rw [HFS2.out]; exact hown8.low (p := ⟨E + 1, 1, none⟩) (show E + 1 < E + 2 by omega) _⟩
            refine anyC_one (i := 9) (by kernel_rfl) rfl rfl (.inr (HCC.out _ hb8)) ?_
            go_simp
            refine anyC_one (i := 10) (by kernel_rfl) rfl rfl (.inr (HCC.out _ hb8)) ?_
            go_simp
            refine anyC_end (by kernel_rfl) (.inl (by kernel_rfl)) ?_
            clear hb5 hlit hz5 ho75 ho35 hown8 hgrow8 hloc8 hb8 ho38 hz8 hS8 hE8 hG8 q8 f8
            go_wp2_with fail
            go_roundw
            case rel => exact HN.out
            case measure => simp [intOf]; omega
        · obtain rfl : j = n := by omega
          have hd : ∀ V, Below w2.heap.size w2 V → V.cell? ⟨E + 1, 0, none⟩ = some (.int .i64 m) ∧ V.cell? ⟨E + 1, 1, none⟩ = some (.slice A7 n7 cap7) ∧ V.cell? ⟨E, 0, none⟩ = some (.int .i64 a) ∧ V.cell? ⟨E, 1, none⟩ = some (.int .i64 b) := fun V hV =>
            ⟨(HBG.out.below hV (by omega)).cell 0, (HBG.out.below hV (by omega)).cell 1, (HBE.out.below hV (by omega)).cell 0, (HBE.out.below hV (by omega)).cell 1⟩
          have HDD := Lib.hid hd
          have HDI := Lib.hid (ref_Dist m A7 n7 cap7 (filtL l j k j) w2.drew hn7 (filtL_good HG.out HL.out k) ho7.els.drew)
          have hlk : linked l (aheadL l j k) k ↔ Rch (Adj (filtL l j k j)) a b := by
            unfold linked
            rw [filtL_all, HEA.out, HEB.out, Int.toNat_natCast, Int.toNat_natCast]
          have HLK := Lib.hid hlk
          clear hb hbS hbE hbG ho3 ho7 hn7 hd hlk
          go_wp2_with fail
          clear s0 s1
          refine region_plain 99 11 (fun V => V.cell? ⟨E + 1, 0, none⟩ = some (.int .i64 m) ∧ V.cell? ⟨E + 1, 1, none⟩ = some (.slice A7 n7 cap7) ∧ V.cell? ⟨E, 0, none⟩ = some (.int .i64 a) ∧ V.cell? ⟨E, 1, none⟩ = some (.int .i64 b)) (by kernel_rfl) rfl ?_
          refine anyC_reads (by kernel_rfl) [0, 2, 3, 6, 7] ?opb ?ohb 6 _ _ _ (by kernel_rfl) ?okb
          case ohb => (simp only [List.filterMap_cons, List.filterMap_nil, List.getElem?_toArray, List.getElem?_cons_zero, List.getElem?_cons_succ]; try rfl)
          repeat (
            refine readC_step (v := ?_) rfl (fun w' hw' => ?_) ?_
            rotate_left
            focus (obtain ⟨q0, q1, q2, q3⟩ := hw'; go_simp; try with_reducible rfl)
            go_simp)
          refine readC_nil ?_
          refine anyC_one (i := 1) (by kernel_rfl) rfl rfl (.inr (HDD.out _ (Below.refl _ w2).drew)) ?_
          go_simp
          refine HDI.out.mono ?_
          clear HDI
          rintro e w4 ⟨A2, c2, P, M, rfl, hb4, hP, hmat, hdist⟩
          have hdd := hdist a b haN hbN
          obtain ⟨g, rfl, _, hgs, _, e1, _, hps, hcc⟩ := hmat.at_ (i := a) (by omega)
          obtain ⟨e2, _⟩ := hcc b hbN
          have hb24 : Below w2.heap.size w2 w4 := (Below.refl _ w2).drew.trans hb4
          have hpos : 0 ≤ M a b ↔ linked l (aheadL l j k) k := hdd.pos.trans HLK.out.symm
          have ho4 := HO3.out.below hb24 (Nat.le_refl _)
          have hS4 := HBS.out.below hb24 (by omega)
          have hbb4 := HB.out.trans (hb24.mono (by omega))
          have hz4 : S + 1 ≤ w4.heap.size := by have := hb24.size; omega
          have HPOS := Lib.hid hpos
          have HO4 := Lib.hid ho4
          have HS4 := Lib.hid hS4
          have HBB4 := Lib.hid hbb4
          obtain ⟨d, hde⟩ : ∃ d, d = M a b := ⟨_, rfl⟩
          rw [← hde] at e2 HPOS
          have hC4 := HDD.out _ hb24
          obtain ⟨pa, hpa⟩ : ∃ pa, pa = (pAt P a).1 := ⟨_, rfl⟩
          obtain ⟨pb, hpb⟩ : ∃ pb, pb = (pAt P a).2 := ⟨_, rfl⟩
          rw [← hpa] at e1 e2
          rw [← hpb] at e1
          clear hb4 hP hmat hdist hdd hcc hb24 hpos ho4 hS4 hbb4 hde hpa hpb hgs hps
          go_simp
          refine anyC_one (i := 4) (by kernel_rfl) rfl rfl (.inr hC4) ?_
          go_simp
          refine anyC_one (i := 5) (by kernel_rfl) rfl rfl (.inr hC4) ?_
          go_simp
          refine anyC_one (i := 8) (by kernel_rfl) rfl rfl (.inr hC4) ?_
          go_simp
          refine anyC_one (i := 9) (by kernel_rfl) rfl rfl (.inr hC4) ?_
          go_simp
          refine anyC_one (i := 10) (by kernel_rfl) rfl rfl (.inr hC4) ?_
          go_simp
          refine anyC_end (by kernel_rfl) (.inr hC4) ?_
          clear hC4 e1 e2
          by_cases hneg : d < 0
          · have hlf : leastL l j (k + 1) = leastL l j k ++ [(k : Int)] := by rw [HSC.out, if_neg (fun h => by have := HPOS.out.2 h; omega)]
            have HLF := Lib.hid hlf
            clear hlf
            go_wp2_with (at_builtin; (
              refine wpList_push rfl _ _ _ rfl (S + 1) 1 3 (.int .i64 0) 8 Try.underlying30 (by kernel_rfl) rfl (by omega) icell w4 #[.int .i64 k] A3 n3 cap3 _ HN3.out rfl HO4.out 1 [(k : Int)] rfl rfl _ rfl rfl (by simp [Value.oneCell']) (by unfold maxLen; omega) (by omega) hz4 ?_
              intro A9 cap9 w9 hown9 hgrow9 hloc9))
            have hb9 := ((Below.refl (S + 1) w4).alloc hz4 _).grown hgrow9 (by rw [size_alloc']; omega) (fun g hg => (HO4.out.lt g hg).1)
            have hz9 : S + 1 ≤ w9.heap.size := by have := hb9.size; omega
            have HS9 := Lib.hid (HS4.out.below hb9 (by omega))
            have HB9 := Lib.hid (HBB4.out.trans (hb9.mono (by omega)))
            rw [← HLF.out] at hown9
            have HO9 := Lib.hid hown9
            have HL9 : Hid ((leastL l j (k + 1)).length = n3 + 1) := Lib.hid (by rw [HLF.out, List.length_append, HN3.out]; rfl)
            clear hb9 hown9 hgrow9 hloc9
            go_roundw
            case rel => exact ⟨k + 1, A9, n3 + 1, cap9, by omega, by go_num, rfl, HL9.out, HB9.out, hz9, HS9.out, HO9.out⟩
            case measure => simp [intOf]; omega
          · have hlf : leastL l j (k + 1) = leastL l j k := by rw [HSC.out, if_pos (HPOS.out.1 (by omega)), List.append_nil]
            have HLF := Lib.hid hlf
            clear hlf
            go_wp2_with fail
            go_roundw
            case rel => exact ⟨k + 1, A3, n3, cap3, by omega, by go_num, rfl, by rw [HLF.out]; exact HN3.out, HBB4.out, hz4, HS4.out, by rw [HLF.out]; exact HO4.out⟩
            case measure => simp [intOf]; omega
    · have hkn' : k = n := by omega
      subst hkn'
      have HN3 := Lib.hid hn3
      have HB := Lib.hid hb
      have HO := Lib.hid (ho.weaken (show S ≤ S + 1 by omega))
      clear hb hz hblk ho hn3
      go_wp2_with fail
      go_ret
      exact ⟨A3, n3, cap3, rfl, HN3.out, HB.out, HO.out⟩
end Go.Proofs.Ytjkfogkpacmdlaa
