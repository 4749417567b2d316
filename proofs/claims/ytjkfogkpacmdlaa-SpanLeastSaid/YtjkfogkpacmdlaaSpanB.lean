/- span.Least: the program's walk. Conditions: the edges read as a list. -/
import Derived.Test.YtjkfogkpacmdlaaSpanA
import Derived.Test.YtjkfogkpacmdlaaGraphA
import Derived.Test.YtjkfogkpacmdlaaNearP
namespace Go.Proofs.Ytjkfogkpacmdlaa
open Go.RowKit

/-- While the edges are gone through in order. -/
def KruI (l : List Ed) (u : List Int) (m n S Y B2 B3 : Nat) (A1 : Option Addr) (cap1 : Nat) (A2 : Option Addr) (cap2 : Nat) (N : Int) (AG : Option Addr) (c : Nat) (w : World) (s35 s6 : Value) (wr : World) : Prop :=
  ∃ (k : Nat) (A6 : Option Addr) (n6 cap6 : Nat) (up : List Int) (rt : Nat → Nat), k ≤ n ∧ s35 = .int .i64 k ∧ s6 = .slice A6 n6 cap6 ∧ (takenL l [] (u.take k)).length = n6 ∧ Below S w wr ∧ B3 ≤ wr.heap.size ∧ Blk wr S 24 #[.int .i64 N, .slice AG n c] ∧ Own wr Y 3 1 icell A1 cap1 u ∧ Own wr B2 3 1 icell A2 cap2 up ∧ Own wr B3 3 1 icell A6 cap6 (takenL l [] (u.take k)) ∧ UF m up rt ∧ Lnk m ((u.take k).map (edAt l)) rt
set_option maxRecDepth 100000 in
set_option maxHeartbeats 4000000 in
theorem span_Least (N : Int) (A : Option Addr) (n c : Nat) (l : List Ed) (w : World) (hl : l.length = n) (hn : n ≤ maxLen) (hr : Els w w.heap.size 3 Ed.cells A l) :
    Calls Try.prog 18 #[.agg #[.int .i64 N, .slice A n c]] w fun e w' => ∃ A' k cp', e = .returned (.tuple #[.slice A' k cp', .int .i64 (graphCheck N l)]) ∧ Below w.heap.size w w' ∧ (graphCheck N l ≠ 0 → k = 0) ∧ (graphCheck N l = 0 → (leastL l n n).length = k ∧ Own w' w.heap.size 3 1 icell A' cp' (leastL l n n)) := by
  obtain ⟨S, hS⟩ : ∃ S, S = w.heap.size := ⟨_, rfl⟩
  have hb0 := (Below.refl w.heap.size w).alloc (Nat.le_refl _) (.cells #[.int .i64 N, .slice A n c] 24)
  have hB0 := Blk.new w 24 #[.int .i64 N, .slice A n c]
  have HW := Lib.hid (graph_Check N A n c l (w.alloc (.cells #[.int .i64 N, .slice A n c] 24)) hl hn ((hr.alloc (Nat.le_refl _) _).more (by rw [size_alloc']; omega)))
  have hz0 : (w.alloc (.cells #[.int .i64 N, .slice A n c] 24)).heap.size = S + 1 := by rw [size_alloc', hS]
  obtain ⟨V, hV⟩ : ∃ V, V = w.alloc (.cells #[.int .i64 N, .slice A n c] 24) := ⟨_, rfl⟩
  rw [← hV] at hb0 hB0 HW hz0
  rw [← hS] at hb0 hB0 hr ⊢
  have HL := Lib.hid hl
  have HR := Lib.hid hr
  have HB0 := Lib.hid hb0
  have HK0 := Lib.hid hB0
  have HS := Lib.hid hS
  have HV := Lib.hid hV
  have HZ0 := Lib.hid hz0
  have c0 := hB0.cell 0
  have c1 := hB0.cell 1
  clear hr hb0 hB0 hl hS hV hz0
  go_enter Try.func18, Try.ntmps18
  go_wp2_with fail
  rw [← HV.out, ← HS.out]
  refine HW.out.mono ?_
  clear HW
  rintro e v1 ⟨rfl, hb1⟩
  have hk1 := HK0.out.below hb1 (by rw [HZ0.out]; omega)
  have hb1' := HB0.out.trans (hb1.mono (by rw [HZ0.out]; omega))
  have hz1 : S + 1 ≤ v1.heap.size := by have := hb1.size; rw [HZ0.out] at this; exact this
  have HB1 := Lib.hid hb1'
  have HK1 := Lib.hid hk1
  clear c0 c1 hb1 hb1'
  have c0 := hk1.cell 0
  have c1 := hk1.cell 1
  clear hk1
  by_cases h0 : graphCheck N l = 0
  · obtain ⟨m, rfl, hg⟩ := graph_good h0
    have HZ := Lib.hid h0
    have HG := Lib.hid hg
    have hm := hg.n10
    have hn45 : n ≤ 45 := by have := hg.m45; rw [HL.out] at this; exact this
    rw [h0]
    clear h0 hg
    obtain ⟨Y, hY⟩ : ∃ Y, Y = v1.heap.size := ⟨_, rfl⟩
    have HY := Lib.hid hY
    have hSY : S + 1 ≤ Y := by omega
    have HBY : Hid (Below Y v1 v1) := Lib.hid (Below.refl _ _)
    clear hY hz1
    go_wp2_with fail
    clear c0 c1
    go_loopw [19, 7, 5] (fun s19 _ s5 wr => ∃ (k : Nat) (A1 : Option Addr) (cap : Nat), k ≤ n ∧ s19 = .int .i64 k ∧ s5 = .slice A1 k cap ∧ Below Y v1 wr ∧ Own wr Y 3 1 icell A1 cap ((List.range k).map fun q : Nat => (q : Int))) (fun s19 _ _ _ => n - (intOf s19).toNat)
    case atStart => exact ⟨0, none, 0, Nat.zero_le _, rfl, rfl, HBY.out, Own.nil _ _ _ (fun _ => rfl)⟩
    case round =>
      clear HBY
      rename World => wr
      obtain ⟨k, A1, cap, hk, rfl, rfl, hb, ho⟩ := hrel
      have hYr : Y ≤ wr.heap.size := by have := hb.size; rw [← HY.out] at this; exact this
      by_cases hkm : k < n
      · have hsn : ((List.range k).map fun q : Nat => (q : Int)) ++ [(k : Int)] = (List.range (k + 1)).map fun q : Nat => (q : Int) := by rw [List.range_succ, List.map_append]; rfl
        have hll : ((List.range k).map fun q : Nat => (q : Int)).length = k := by simp
        have HO := Lib.hid ho
        have HBR := Lib.hid hb
        have HSN := Lib.hid hsn
        have HLL := Lib.hid hll
        clear ho hb hsn hll
        go_wp2_with (at_builtin; (
          refine wpList_push rfl _ _ _ rfl Y 1 3 (.int .i64 0) 8 Try.underlying30 (by kernel_rfl) rfl (by omega) icell wr #[.int .i64 k] A1 k cap _ HLL.out rfl HO.out 1 [(k : Int)] rfl rfl _ rfl rfl (by simp [Value.oneCell']) (by unfold maxLen; omega) (by omega) hYr ?_
          intro A9 cap9 w9 hown9 hgrow9 hloc9))
        have hb9 := (HBR.out.alloc hYr _).grown hgrow9 (by rw [size_alloc']; omega) (fun g hg => (HO.out.lt g hg).1)
        rw [HSN.out] at hown9
        have HB9 := Lib.hid hb9
        have HO9 := Lib.hid hown9
        clear hb9 hown9 hgrow9 hloc9
        go_roundw
        case rel => exact ⟨k + 1, A9, cap9, by omega, by go_num, rfl, HB9.out, HO9.out⟩
        case measure => simp [intOf]; omega
      · obtain rfl : k = n := by omega
        have hk3 := HK1.out.below hb (by omega)
        have hB3 := HB1.out.trans (hb.mono (by omega))
        have hrest : Own wr Y 3 1 icell A1 cap (restL k 0) := by
          have hR : restL k 0 = (List.range k).map fun q : Nat => (q : Int) := by
            unfold restL
            rw [Nat.sub_zero]
            exact List.map_congr_left fun q _ => by rw [Nat.zero_add]
          rw [hR]
          exact ho
        have hcm : CmpV 38 #[.pointer (some ⟨S, 0, none⟩)] (valW l) k Y wr := fun a b wx ha0 ha hb0 hb hbw =>
          span_cmp l m a b A k c S S wx HL.out ha0 ha hb0 hb (hk3.below hbw (by omega)) (HR.out.below (hB3.trans (hbw.mono (by omega))))
        have HSO := Lib.hid (sort_places 38 ent_spanLeast1 #[.pointer (some ⟨S, 0, none⟩)] (valW l) A1 k cap Y wr hYr (by omega) hcm hrest)
        have HB3 := Lib.hid hB3
        have HK3 := Lib.hid hk3
        clear ho hb hk3 hB3 hcm hrest
        go_wp2_with fail
        refine HSO.out.mono ?_
        clear HSO
        rintro e v3 ⟨⟨v, rfl⟩, hb3, u, hu, hown3⟩
        have hk4 := HK3.out.below hb3 (by omega)
        have hB4 := HB3.out.trans (hb3.mono (by omega))
        have hz4 : Y ≤ v3.heap.size := by have := hb3.size; omega
        have HAL := Lib.hid (span_alone m v3 (by omega))
        have HB4 := Lib.hid hB4
        have HK4 := Lib.hid hk4
        have HO4 := Lib.hid hown3
        have HU := Lib.hid hu
        have hul : u.length = k := by rw [hu.len, restL_len]
        have HUL := Lib.hid hul
        have c0 := hk4.cell 0
        have c1 := hk4.cell 1
        clear hb3 hu hown3 hk4 hB4 HK3 HB3 hul
        go_wp2_with fail
        refine HAL.out.mono ?_
        clear HAL
        rintro e v5 ⟨A2, cap2, rfl, hb5, hown5⟩
        obtain ⟨B2, hB2⟩ : ∃ B2, B2 = v3.heap.size := ⟨_, rfl⟩
        rw [← hB2] at hb5 hown5
        have hk5 := HK4.out.below hb5 (by omega)
        have hB5 := HB4.out.trans (hb5.mono (by omega))
        have ho5 := HO4.out.below hb5 (by omega)
        have hz5 : B2 ≤ v5.heap.size := by have := hb5.size; omega
        have hult : ∀ g, blkOf A1 = some g → Y ≤ g ∧ g < B2 := fun g hg => by have := HO4.out.lt g hg; omega
        obtain ⟨B3, hB3⟩ : ∃ B3, B3 = v5.heap.size := ⟨_, rfl⟩
        have huplt : ∀ g, blkOf A2 = some g → B2 ≤ g ∧ g < B3 := fun g hg => by have := hown5.lt g hg; omega
        have HST : Hid (KruI l u m k S Y B2 B3 A1 cap A2 cap2 m A c w (.int .i64 (0 : Nat)) (.slice none 0 0) v5) := Lib.hid ⟨0, none, 0, 0, _, _, Nat.zero_le _, rfl, rfl, by simp [takenL], hB5, by omega, hk5, ho5, hown5, by simpa [takenL] using Own.nil (f := icell) (c := 1) _ _ _ (fun _ => rfl), UF.start m, by simpa using Lnk.start m⟩
        have HULT := Lib.hid hult
        have HUPLT := Lib.hid huplt
        have hB23 : B2 ≤ B3 := by omega
        have hYB : Y ≤ B2 := by omega
        clear hb5 hown5 hk5 hB5 ho5 hz5 hult huplt hB2 hB3 hz4 HO4 HB4 HK4 c0 c1
        go_wp2_with fail
        go_loopw [35, 10, 6] (fun s35 _ s6 wr => KruI l u m k S Y B2 B3 A1 cap A2 cap2 m A c w s35 s6 wr) (fun s35 _ _ _ => k - (intOf s35).toNat)
        case atStart => exact HST.out
        case round =>
          clear HST
          rename World => wq
          obtain ⟨j, A6, n6, cap6, up, rt, hj, rfl, rfl, hn6, hb, hzq, hblk, hou, houp, hoc, huf, hlk⟩ := hrel
          by_cases hjk : j < k
          · have hju : j < u.length := by rw [HUL.out]; exact hjk
            obtain ⟨gu, rfl, hgu1, hgu2, ct, ft⟩ := hou.cell1 (f := fun x : Int => .int .i64 x) hju
            rw [← getD_at u j hju 0] at ct
            have hxm : u.getD j 0 ∈ restL k 0 := HU.out.perm.mem_iff.1 (by rw [getD_at u j hju]; exact List.getElem_mem _)
            have hx := rest_mem.1 hxm
            have htk : u.take (j + 1) = u.take j ++ [u.getD j 0] := by rw [List.take_succ_eq_append_getElem hju, getD_at u j hju]
            obtain ⟨x, hxe⟩ : ∃ x, x = u.getD j 0 := ⟨_, rfl⟩
            rw [← hxe] at ct hx htk
            obtain ⟨i, rfl⟩ := Int.eq_ofNat_of_zero_le hx.1
            have hik : i < k := by omega
            have hil : i < l.length := by rw [HL.out]; exact hik
            obtain ⟨a, b, haN, hbN, hea, heb⟩ := good_edL HG.out (x := (i : Int)) (by omega) (by omega)
            obtain ⟨bb, oo, rfl, hbb, g0, g1, g2⟩ := (HR.out.below hb).at3 hil
            have hei : edAt l (i : Int) = l[i] := by unfold edAt; rw [Int.toNat_natCast, getD_at l i hil]
            rw [← hei, hea] at g0
            rw [← hei, heb] at g1
            have htn := taken_snoc l (i : Int) (u.take j) []
            rw [← htk, List.nil_append] at htn
            have hdec : linked l (u.take j) (i : Int) ↔ rt a = rt b := by
              unfold linked
              rw [hea, heb, Int.toNat_natCast, Int.toNat_natCast]
              exact (hlk.one a b haN hbN).symm
            have hlk2 := Lnk.join huf hlk hea heb haN hbN
            rw [show (u.take j).map (edAt l) ++ [edAt l (i : Int)] = (u.take (j + 1)).map (edAt l) by rw [htk, List.map_append]; rfl] at hlk2
            have HJN : Hid (Calls Try.prog 41 #[.slice A2 m cap2, .int .i64 a, .int .i64 b] wq.drew _) := Lib.hid (un_join A2 m cap2 B2 up rt a b wq.drew haN hbN (by omega) huf houp.drew)
            have HLK2 := Lib.hid hlk2
            have HTN := Lib.hid htn
            have HDEC := Lib.hid hdec
            have HB := Lib.hid hb
            have HBLK := Lib.hid hblk
            have HOU := Lib.hid hou
            have HOC := Lib.hid hoc
            have HN6 := Lib.hid hn6
            have c0 := hblk.cell 0
            have c1 := hblk.cell 1
            have hn6k : n6 ≤ 45 := by
              rw [← hn6]
              have := (taken_sub l (u.take j) []).length_le
              rw [List.length_take] at this
              omega
            obtain ⟨ra, hra⟩ : ∃ ra, ra = rt a := ⟨_, rfl⟩
            obtain ⟨rb, hrb⟩ : ∃ rb, rb = rt b := ⟨_, rfl⟩
            rw [← hra, ← hrb] at HJN HLK2 HDEC
            have HRA := Lib.hid hra
            have HRB := Lib.hid hrb
            clear hlk2 htn hdec hb hblk hou hoc hn6 huf hlk houp hxm htk hxe hei hea heb hra hrb
            go_wp2_with fail
            refine region_plain 13 14 (fun w' => w' = wq.drew) (by kernel_rfl) rfl ?_
            refine anyC_reads (by kernel_rfl) [0, 1, 2, 3, 4, 5, 6, 7, 8, 9, 10, 11, 12] ?opa ?oha 1 _ _ _ (by kernel_rfl) ?oka
            case oha => (simp only [List.filterMap_cons, List.filterMap_nil, List.getElem?_toArray, List.getElem?_cons_zero, List.getElem?_cons_succ]; try rfl)
            repeat (
              refine readC_step (v := ?_) rfl (fun w' hw' => ?_) ?_
              rotate_left
              focus (subst hw'; go_simp; try with_reducible rfl)
              go_simp)
            refine readC_nil ?_
            refine anyC_one (i := 13) (by kernel_rfl) rfl rfl (.inr rfl) ?_
            go_simp
            refine HJN.out.mono ?_
            clear HJN
            rintro e w7 ⟨rfl, hb7, ⟨g7, p7, y7, hg7, rfl⟩, up', huf', ho7⟩
            have hb7' : Below B2 wq (wq.drew.setCell ⟨g7, p7, none⟩ y7) := ((Below.refl B2 wq).drew).trans hb7
            have h7l := HUPLT.out g7 hg7
            have hu7 := HOU.out.drew.far (p := ⟨g7, p7, none⟩) (by
              intro e
              have : gu = g7 := by simpa [blkOf] using e
              have := (HULT.out gu rfl).2
              omega) y7
            have hoc7 := HOC.out.drew.far (p := ⟨g7, p7, none⟩) (by
              intro e
              have := (HOC.out.lt g7 e).1
              omega) y7
            have hk7 := HBLK.out.below hb7' (by omega)
            have hb7s := HB.out.trans (hb7'.mono (by omega))
            have hz7 : B3 ≤ (wq.drew.setCell ⟨g7, p7, none⟩ y7).heap.size := by have := hb7.size; have e : wq.drew.heap.size = wq.heap.size := rfl; omega
            obtain ⟨W7, hW7⟩ : ∃ W7, W7 = wq.drew.setCell ⟨g7, p7, none⟩ y7 := ⟨_, rfl⟩
            rw [← hW7] at hu7 hoc7 hk7 hb7s hz7 ho7 ⊢
            have HU7 := Lib.hid hu7
            have HOC7 := Lib.hid hoc7
            have HK7 := Lib.hid hk7
            have HB7 := Lib.hid hb7s
            have HUP7 := Lib.hid ho7
            have HUF7 := Lib.hid huf'
            clear hb7 hg7 huf' ho7 hb7' h7l hu7 hoc7 hk7 hb7s hW7 HOU HOC HBLK HB c0 c1
            by_cases hab : ra = rb
            · have hd : decide (ra ≠ rb) = false := by simp [hab]
              have htn : takenL l [] (u.take (j + 1)) = takenL l [] (u.take j) := by rw [HTN.out, if_pos (by rw [HDEC.out]; exact hab), List.append_nil]
              have HN : Hid (KruI l u m k S Y B2 B3 (some ⟨gu, 0, none⟩) cap A2 cap2 m (some ⟨bb, oo, none⟩) c w (.int .i64 ((j + 1 : Nat) : Int)) (.slice A6 n6 cap6) W7) := Lib.hid ⟨j + 1, A6, n6, cap6, up', _, by omega, rfl, rfl, by rw [htn]; exact HN6.out, HB7.out, hz7, HK7.out, HU7.out, HUP7.out, by rw [htn]; exact HOC7.out, HUF7.out, HLK2.out⟩
              rw [hd]
              clear hd htn hab
              go_simp
              refine anyC_end (by kernel_rfl) (.inl (by kernel_rfl)) ?_
              go_wp2_with fail
              go_roundw
              case rel => exact HN.out
              case measure => simp [intOf]; omega
            · have hd : decide (ra ≠ rb) = true := by simp [hab]
              have htn : takenL l [] (u.take (j + 1)) = takenL l [] (u.take j) ++ [(i : Int)] := by rw [HTN.out, if_neg (by rw [HDEC.out]; exact hab)]
              have HTN2 := Lib.hid htn
              rw [hd]
              clear hd htn hab
              go_simp
              refine anyC_end (by kernel_rfl) (.inl (by kernel_rfl)) ?_
              go_wp2_with (at_builtin; (
                refine wpList_push rfl _ _ _ rfl B3 1 3 (.int .i64 0) 8 Try.underlying30 (by kernel_rfl) rfl (by omega) icell W7 #[.int .i64 i] A6 n6 cap6 _ HN6.out rfl HOC7.out 1 [(i : Int)] rfl rfl _ rfl rfl (by simp [Value.oneCell']) (by unfold maxLen; omega) (by omega) hz7 ?_
                intro A9 cap9 w9 hown9 hgrow9 hloc9))
              have hb9 := ((Below.refl B3 W7).alloc hz7 _).grown hgrow9 (by rw [size_alloc']; omega) (fun g hg => (HOC7.out.lt g hg).1)
              have hz9 : B3 ≤ w9.heap.size := by have := hb9.size; omega
              have hu9 := (HU7.out.alloc _).kept hgrow9 (by
                right
                intro e
                have h1 := (HULT.out gu rfl).2
                have h2 := (HOC7.out.lt gu e.symm).1
                omega)
              have hup9 := (HUP7.out.alloc _).kept hgrow9 (by
                rcases hA2 : blkOf A2 with _ | g
                · exact .inl rfl
                · right
                  intro e
                  have h1 := (HUPLT.out g hA2).2
                  have h2 := (HOC7.out.lt g e.symm).1
                  omega)
              have HN : Hid (KruI l u m k S Y B2 B3 (some ⟨gu, 0, none⟩) cap A2 cap2 m (some ⟨bb, oo, none⟩) c w (.int .i64 ((j + 1 : Nat) : Int)) (.slice A9 (n6 + 1) cap9) w9) := Lib.hid ⟨j + 1, A9, n6 + 1, cap9, up', _, by omega, rfl, rfl, by rw [HTN2.out, List.length_append, HN6.out]; rfl, HB7.out.trans (hb9.mono (by omega)), hz9, HK7.out.below hb9 (by omega), hu9, hup9, by rw [HTN2.out]; exact hown9, HUF7.out, HLK2.out⟩
              clear hb9 hz9 hu9 hup9 hown9 hgrow9 hloc9
              go_roundw
              case rel => exact HN.out
              case measure => simp [intOf]; omega
          · obtain rfl : j = k := by omega
            have htk : u.take j = u := List.take_of_length_le (by rw [HUL.out]; exact Nat.le_refl _)
            rw [htk] at hn6 hoc
            have hn6k : n6 ≤ 45 := by
              rw [← hn6]
              have := (taken_sub l u []).length_le
              rw [HUL.out] at this
              omega
            have HSI := Lib.hid (Sort_ints (takenL l [] u) A6 n6 cap6 B3 wq hn6 (by omega) hoc)
            have HB := Lib.hid hb
            have HSM := Lib.hid (least_same HU.out)
            have HN6 := Lib.hid hn6
            have HCL := Lib.hid hoc.lt
            clear hoc hn6 hb hblk hou houp huf hlk htk
            go_wp2_with fail
            refine HSI.out.mono ?_
            clear HSI
            rintro e w8 ⟨rfl, hgr, ho8⟩
            rw [HSM.out] at ho8
            have hb8 : Below B3 wq w8 := (Below.refl B3 wq).grown hgr hzq (fun g hg => (HCL.out g hg).1)
            have HB8 := Lib.hid (HB.out.trans (hb8.mono (by omega)))
            have HO8 := Lib.hid (ho8.weaken (show S ≤ B3 by omega))
            have HLN : Hid ((leastL l j j).length = n6) := Lib.hid (by rw [← HSM.out, sortI_len]; exact HN6.out)
            clear hgr ho8 hb8
            go_wp2_with fail
            refine bodyPost_ret (v := .tuple #[.slice A6 n6 cap6, .int .i64 0]) (by simp [results, Try.results18, go_sem]) rfl ?_
            exact ⟨A6, n6, cap6, by rw [HZ.out], HB8.out, fun h => absurd HZ.out h, fun _ => ⟨HLN.out, HO8.out⟩⟩
  · have h1 : (graphCheck N l != 0) = true := by simpa using h0
    have H0 := Lib.hid h0
    obtain ⟨x, hx⟩ : ∃ x, x = graphCheck N l := ⟨_, rfl⟩
    rw [← hx] at h1 ⊢
    have HX := Lib.hid hx
    clear h0 hx
    go_wp2_with fail
    refine bodyPost_ret (v := .tuple #[.slice none 0 0, .int .i64 x]) (by simp [results, Try.results18, go_sem]) rfl ?_
    exact ⟨none, 0, 0, by rw [HX.out], HB1.out, fun _ => rfl, fun h => absurd h (by first | exact H0.out | (rw [HX.out]; exact H0.out))⟩
end Go.Proofs.Ytjkfogkpacmdlaa
