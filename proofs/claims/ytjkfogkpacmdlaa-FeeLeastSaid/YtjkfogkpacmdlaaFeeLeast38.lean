/- The cheapest flow of a value: the program, way by way. Conditions: the arcs read as a list. -/
import Derived.Test.YtjkfogkpacmdlaaFeeLeast37
namespace Go.Proofs.Ytjkfogkpacmdlaa
open Go.RowKit Go.Shelf

/-- Between two ways. -/
def LeaI (N : Nat) (l : List Arc) (s t : Nat) (value : Int) (S P g : Nat) (A : Option Addr) (m c : Nat) (w : World) (s3 s13 : Value) (wr : World) : Prop :=
  ∃ (gs : List Int) (v : Int), s3 = .int .i64 (value - v) ∧ s13 = .int .i64 (costF l gs) ∧ 0 ≤ v ∧ v ≤ value ∧ FlowV N l gs s t v ∧ (∃ h, Pt (stS l gs) (2 * l.length) h) ∧ GoesB wr g gs ∧ Below S w wr ∧ Blk wr P 80 #[.int .i64 N, .slice A m c, .slice (some ⟨g, 0, none⟩) m m] ∧ Blk wr S 39 #[.int .i64 N, .slice A m c]
/-- On a way back. -/
def LeaJ (l : List Arc) (gs : List Int) (s t : Nat) (d : Nat → Int) (by_ : Nat → Nat) (rem : Int) (T : Nat) (w : World) (s17 s18 s19 : Value) (wr : World) : Prop :=
  ∃ (j : Nat) (ws : List Stp) (A17 : Option Addr) (n17 cap17 : Nat) (u : Int), s17 = .slice A17 n17 cap17 ∧ s18 = .int .i64 u ∧ s19 = .int .i64 j ∧ n17 = ws.length ∧ Below T w wr ∧ Own wr T 77 2 stepC A17 cap17 ws ∧ BkW l gs s t d by_ j ws ∧ 0 < u ∧ u ≤ rem ∧ (∀ x ∈ ws, u ≤ stR l gs x)
/-- What the program tells. -/
def LeaR (N : Nat) (l : List Arc) (s t m : Nat) (value : Int) (w : World) (e : Ending) (w' : World) : Prop :=
  Below w.heap.size w w' ∧
    ((∃ (g : Nat) (gs : List Int), e = .returned (.tuple #[.int .i64 (costF l gs), .slice (some ⟨g, 0, none⟩) m m, .int .i64 0]) ∧ GoesB w' g gs ∧ w.heap.size ≤ g ∧ FlowV N l gs s t value ∧ ∃ h, Pt (stS l gs) (2 * l.length) h) ∨
     (e = .returned (.tuple #[.int .i64 0, .slice none 0 0, .int .i64 5]) ∧ ∃ (gs : List Int) (v : Int) (p : Int → Bool), v < value ∧ FlowV N l gs s t v ∧ p s = true ∧ p t = false ∧ capP p l = v))
theorem fee_Least_bad (N s t value : Int) (A : Option Addr) (n c : Nat) (l : List Arc) (w : World) (h0 : feeWrong N l s t value ≠ 0) (hl : l.length = n) (hn : n ≤ maxLen) (hr : Els w w.heap.size 4 Arc.cells A l) :
    Calls Try.prog 12 #[.agg #[.int .i64 N, .slice A n c], .int .i64 s, .int .i64 t, .int .i64 value] w fun e w' => e = .returned (.tuple #[.int .i64 0, .slice none 0 0, .int .i64 (feeWrong N l s t value)]) ∧ Below w.heap.size w w' := by
  have hb0 := (Below.refl w.heap.size w).alloc (Nat.le_refl _) (.cells #[.int .i64 N, .slice A n c] 39)
  have hB0 := Blk.new w 39 #[.int .i64 N, .slice A n c]
  have HW := Lib.hid (fee_wrong N s t value A n c l (w.alloc (.cells #[.int .i64 N, .slice A n c] 39)) hl hn ((hr.alloc (Nat.le_refl _) _).more (by rw [size_alloc']; omega)))
  have HB0 := Lib.hid hb0
  have c0 := hB0.cell 0
  have c1 := hB0.cell 1
  have h1 : (feeWrong N l s t value != 0) = true := by simpa using h0
  obtain ⟨x, hx⟩ : ∃ x, x = feeWrong N l s t value := ⟨_, rfl⟩
  rw [← hx] at h1 HW ⊢
  clear hr hb0 hB0 hl h0 hx
  go_enter Try.func12, Try.ntmps12
  go_wp2_with fail
  refine HW.out.mono ?_
  clear HW
  rintro e v1 ⟨rfl, hb1⟩
  have HB1 := Lib.hid (HB0.out.trans (hb1.mono (by rw [size_alloc']; omega)))
  clear c0 c1 hb1
  go_wp2_with fail
  go_ret3
  exact ⟨rfl, HB1.out⟩

set_option maxRecDepth 100000 in
set_option maxHeartbeats 1000000 in
theorem fee_Least (N s t : Nat) (value : Int) (A : Option Addr) (m c : Nat) (l : List Arc) (w : World) (h0 : feeWrong N l s t value = 0) (hv0 : 0 ≤ value) (hvb : value < 9223372036854775808) (hok : NetOk N l) (he0 : ∀ a ∈ l, 0 ≤ a.e) (hs : s < N) (ht : t < N) (hst : s ≠ t) (hl : l.length = m) (hr : Els w w.heap.size 4 Arc.cells A l) :
    Calls Try.prog 12 #[.agg #[.int .i64 N, .slice A m c], .int .i64 s, .int .i64 t, .int .i64 value] w (LeaR N l s t m value w) := by
  have hN10 := hok.small
  have hm30 : m ≤ 30 := by rw [← hl]; exact hok.few
  have hin := net_in hok
  have hM : ∀ a ∈ l, 0 ≤ a.m ∧ a.m ≤ 1048576 := fun a ha => by
    obtain ⟨_, _, _, _, _, h1, h2, _⟩ := hok.arcs a ha
    exact ⟨h1, h2⟩
  obtain ⟨S, hS⟩ : ∃ S, S = w.heap.size := ⟨_, rfl⟩
  have hb0 := (Below.refl w.heap.size w).alloc (Nat.le_refl _) (.cells #[.int .i64 N, .slice A m c] 39)
  have hk0 := Blk.new w 39 #[.int .i64 N, .slice A m c]
  have hw := fee_wrong N s t value A m c l (w.alloc (.cells #[.int .i64 N, .slice A m c] 39)) hl (by unfold maxLen; omega) ((hr.alloc (Nat.le_refl _) _).more (by rw [size_alloc']; omega))
  rw [h0] at hw
  have c0 := hk0.cell 0
  have c1 := hk0.cell 1
  have HW := Lib.hid hw
  rw [← hS] at hb0 hk0 hr
  have HB0 := Lib.hid hb0
  have HK0 := Lib.hid hk0
  have HS := Lib.hid hS
  have HR := Lib.hid hr
  have HL := Lib.hid hl
  have HOK := Lib.hid hok
  have HIN := Lib.hid hin
  have HM := Lib.hid hM
  have HE0 := Lib.hid he0
  have HST := Lib.hid hst
  clear hw hb0 hk0 hS hr hl hok hin hM he0 h0 hst
  go_enter Try.func12, Try.ntmps12
  go_wp2_with fail
  refine HW.out.mono ?_
  clear HW
  rintro e v1 ⟨rfl, hb1⟩
  rw [size_alloc', ← HS.out] at hb1
  rw [← HS.out]
  have hk1 := HK0.out.below hb1 (by omega)
  have hb1' := HB0.out.trans (hb1.mono (by omega))
  have hSz := hk1.lt
  have HB1 := Lib.hid hb1'
  have HK1 := Lib.hid hk1
  have HOPEN := Lib.hid (flow_Open N A m c v1 (by omega))
  clear c0 c1
  have c0 := hk1.cell 0
  have c1 := hk1.cell 1
  clear hb1 hb1' hk1 HB0 HK0
  go_wp2_with fail
  refine HOPEN.out.mono ?_
  clear HOPEN
  rintro e v2 ⟨P, g, rfl, hb2, hP2, hg2, hgP, hkP, _, hkg⟩
  have hb2' := HB1.out.trans (hb2.mono (by omega))
  have HB2 := Lib.hid hb2'
  have HKP := Lib.hid hkP
  have HG := Lib.hid (goes_made v2 g m hkg)
  have HK2 := Lib.hid (HK1.out.below hb2 hSz)
  have hSP : S < P := by omega
  have hSg : S < g := by omega
  clear hb2 hb2' hkP hkg c0 c1 HB1 HK1
  go_wp2_with fail
  have HF0 := Lib.hid (flow_zero (N := N) (s := s) (t := t) HL.out HM.out)
  have HPT0 := Lib.hid (Pt.zero (m := m) HE0.out)
  have hc0 := costF_zero l m
  go_loopw [3, 13] (fun s3 s13 wr => LeaI N l s t value S P g A m c w s3 s13 wr) (fun s3 _ _ => (allM l - (value - intOf s3)).toNat)
  case atStart =>
    refine ⟨List.replicate m 0, 0, ?_, ?_, Int.le_refl _, hv0, HF0.out, ⟨_, HPT0.out⟩, HG.out, HB2.out, HKP.out, HK2.out⟩
    · rw [Int.sub_zero]
    · rw [hc0]
  case round =>
    clear HF0 HPT0 HG HB2 HKP HK2 hc0
    rename World => wr
    obtain ⟨gs, v, rfl, rfl, hv1, hv2, hfl, hpt, hg, hb, hkp, hk⟩ := hrel
    have hcost := costF_le (N := N) hfl.cap fun a ha => by
      obtain ⟨_, _, _, _, _, _, h2, h3, h4⟩ := HOK.out.arcs a ha
      exact ⟨h2, h3, h4⟩
    have hgl : gs.length = m := by rw [hfl.cap.len, HL.out]
    have k0 := hk.cell 0
    have k1 := hk.cell 1
    have hPw := hkp.lt
    have hgw : g < wr.heap.size := Blk.lt hg
    by_cases hpos : 0 < value - v
    · obtain ⟨rem, hrem⟩ : ∃ rem, rem = value - v := ⟨_, rfl⟩
      obtain ⟨sum, hsum⟩ : ∃ sum, sum = costF l gs := ⟨_, rfl⟩
      rw [← hrem] at hpos ⊢
      rw [← hsum] at hcost ⊢
      have hposd : decide (0 < rem) = true := decide_eq_true hpos
      obtain ⟨K, hK⟩ : ∃ K, K = wr.heap.size := ⟨_, rfl⟩
      have hrep := Repeat_longs 1152921504606846976 (some ⟨wr.heap.size, 0, none⟩) 1 N (wr.heap.size + 1) (wr.alloc (.cells #[.int .i64 1152921504606846976] 2)) (by omega) ((els_of_blk (Blk.new wr 2 #[.int .i64 1152921504606846976]) 1 icell (fun _ => rfl) [1152921504606846976] rfl).more (by rw [size_alloc']; omega))
      have hkA := hk.alloc (.cells #[.int .i64 1152921504606846976] 2)
      have a0 := hkA.cell 0
      have a1 := hkA.cell 1
      have hbA := (Below.refl K wr).alloc (by rw [hK]; exact Nat.le_refl _) (.cells #[.int .i64 1152921504606846976] 2)
      rw [size_alloc', ← hK] at hrep
      rw [← hK] at hPw hgw
      have HBA := Lib.hid hbA
      have HKK := Lib.hid hK
      have HREP := Lib.hid hrep
      have HREM := Lib.hid hrem
      have HSUM := Lib.hid hsum
      have HFL := Lib.hid hfl
      have HPT := Lib.hid hpt
      have HG := Lib.hid hg
      have HB := Lib.hid hb
      have HKP := Lib.hid hkp
      have HK := Lib.hid hk
      have HGL := Lib.hid hgl
      clear hrep hrem hsum hfl hpt hg hb hkp hk hgl hkA hbA hK
      go_wp2_with fail
      rw [← HKK.out]
      refine HREP.out.mono ?_
      clear HREP
      rintro e w2 ⟨rfl, hb2, ho2⟩
      have hsN : s < (List.replicate N (1152921504606846976 : Int)).length := by rw [List.length_replicate]; exact hs
      obtain ⟨g', hg', _, _, ds, fs⟩ := ho2.cell1 (f := fun x : Int => .int .i64 x) hsN
      have hgg : K + 1 = g' := by simpa using hg'
      subst hgg
      rw [List.getElem_replicate] at ds
      have hput := ho2.put1 (f := fun x : Int => .int .i64 x) (x := 0) hsN
      have hrow : (List.replicate N (1152921504606846976 : Int)).set s 0 = rowL N (far0 s) := by
        apply List.ext_getElem
        · rw [List.length_set, List.length_replicate, rowL_len]
        · intro i h1 h2
          rw [List.getElem_set]
          have e : (rowL N (far0 s))[i] = far0 s i := by simp [rowL]
          rw [e]
          unfold far0 farZ
          by_cases hi : s = i
          · rw [if_pos hi, if_pos hi.symm]
          · rw [if_neg hi, if_neg (fun e => hi e.symm), List.getElem_replicate]
      rw [hrow] at hput
      have hbK2 : Below K wr w2 := HBA.out.trans (hb2.mono (by omega))
      have hbK3 := hbK2.setCell (p := ⟨K + 1, s, none⟩) (show K ≤ K + 1 by omega) (.int .i64 0)
      obtain ⟨w3, hw3⟩ : ∃ w3, w3 = w2.setCell ⟨K + 1, s, none⟩ (.int .i64 0) := ⟨_, rfl⟩
      rw [← hw3] at hput hbK3
      have hz3 : K ≤ w3.heap.size := by have := hbK3.size; rw [← HKK.out] at this; exact this
      have hbS3 := HB.out.trans (hbK3.mono (by omega))
      have hkp3 := HKP.out.below hbK3 hPw
      have hg3 : GoesB w3 g gs := Blk.below HG.out hbK3 hgw
      have hop : Opened w3 K P N A m c (some ⟨g, 0, none⟩) m l gs := ⟨hkp3, (HR.out.below hbS3).more (by omega), hg3.els hgw, HL.out, HGL.out⟩
      obtain ⟨hh, hpt⟩ := HPT.out
      have hcap : ∀ i, i < m → 0 ≤ gs.getD i 0 ∧ gs.getD i 0 ≤ (l.getD i arc0).m := fun i hi => HFL.out.cap.at_ (by rw [HL.out]; exact hi)
      have HREL := Lib.hid (fee_relaxF K P N A m c (some ⟨g, 0, none⟩) m l gs (K + 1) N s hh w3 hop HOK.out hPw hz3 hcap (hput.weaken (by omega)) hs hpt)
      have HPT2 := Lib.hid hpt
      have HOP := Lib.hid hop
      have HCAP := Lib.hid hcap
      have HBK3 := Lib.hid hbK3
      have HW3 := Lib.hid hw3
      have HBS3 := Lib.hid hbS3
      clear hb2 ho2 hg' hput hrow hbK2 hbK3 hw3 hbS3 hkp3 hg3 hop hcap hpt HBA a0 a1 hsN
      go_wp2_with fail
      rw [← HW3.out]
      refine HREL.out.mono ?_
      clear HREL
      rintro e w4 ⟨Y, d, by_, rfl, hb4, hKY, hst4, ho4, hfin⟩
      obtain ⟨g', hg', _, _, dtc, _⟩ := ho4.cell1 (f := fun x : Int => .int .i64 x) (k := t) (by rw [rowL_len]; exact ht)
      have hgg : K + 1 = g' := by simpa using hg'
      subst hgg
      have edt : (rowL N d)[t]'(by rw [rowL_len]; exact ht) = d t := by simp [rowL]
      rw [edt] at dtc
      have hdtle := hfin.le t
      have hbS4 := HBS3.out.trans (hb4.mono (by omega))
      have hop4 := HOP.out.below hb4 hPw
      have hbK4 := HBK3.out.trans hb4
      obtain ⟨dt, hdt⟩ : ∃ dt, dt = d t := ⟨_, rfl⟩
      rw [← hdt] at dtc hdtle
      have HFIN := Lib.hid hfin
      have HST4 := Lib.hid hst4
      have HO4 := Lib.hid ho4
      have HBS4 := Lib.hid hbS4
      have HOP4 := Lib.hid hop4
      have HDT := Lib.hid hdt
      have HBK4 := Lib.hid hbK4
      have hz4 := hb4.size
      clear hb4 hst4 ho4 hfin hg' edt hbS4 hop4 hdt hbK4
      by_cases hfar : dt < farZ
      · have hdf : (dt == 1152921504606846976) = false := by
          unfold farZ at hfar
          rw [beq_eq_false_iff_ne]
          omega
        go_wp2_with fail
        obtain ⟨T, hT⟩ : ∃ T, T = w4.heap.size := ⟨_, rfl⟩
        rw [← hT] at hz4
        have HT := Lib.hid hT
        have HTT : Hid (K ≤ T) := Lib.hid (by omega)
        have HDL : Hid (dt < farZ) := Lib.hid hfar
        have HY : Hid (Y < T) := Lib.hid (by rw [hT]; exact HST4.out.lt)
        have HD4 : Hid (K + 1 < T) := Lib.hid (by rw [hT]; exact (HO4.out.lt (K + 1) rfl).2)
        have HDTC := Lib.hid dtc
        clear hT hfar hdtle dtc hz3 hz4 ds fs
        go_loopw [17, 18, 19] (fun s17 s18 s19 wq => LeaJ l gs s t d by_ rem T w4 s17 s18 s19 wq) (fun _ _ s19 _ => rkB (stS l gs) by_ s (intOf s19))
        case atStart => exact ⟨t, [], none, 0, 0, rem, rfl, rfl, rfl, rfl, Below.refl _ _, Own.nil _ _ _ (fun _ => rfl), BkW.start l gs s t by_ (by rw [← HDT.out]; exact HDL.out), hpos, Int.le_refl _, fun x hx => by cases hx⟩
        case round =>
          rename World => wq
          obtain ⟨j, ws, A17, n17, cap17, u, rfl, rfl, rfl, hn17, hb, hown, hbk, hu0, hur, hux⟩ := hrel
          have hTq : T ≤ wq.heap.size := by rw [HT.out]; exact hb.size
          by_cases hjs : j = s
          · have hjb : ((j : Int) == (s : Int)) = true := by simp [hjs]
            have hbk' : BkW l gs s t d by_ s ws := by
              have h := hbk
              rw [hjs] at h
              exact h
            have hstp := hbk'.steps HIN.out HFIN.out
            have hnd := hbk'.nodup HIN.out HFIN.out
            have hne : ws ≠ [] := by
              rintro rfl
              have : (s : Int) = t := hbk'.ch
              exact HST.out (by omega)
            obtain ⟨hq, rfl, _, _⟩ := hown.form_ (List.length_pos_iff.2 hne)
            obtain ⟨sz, hsb⟩ := StpB.of_own hown
            have hul : u ≤ 1048576 := by
              obtain ⟨x, hx⟩ := List.exists_mem_of_ne_nil ws hne
              obtain ⟨x1, _, _⟩ := hstp x hx
              have h1 := hux x hx
              have h2 := HCAP.out x.1 (by rw [← HL.out]; exact x1)
              have h3 := (HM.out (l.getD x.1 arc0) (by rw [getD_at l x.1 x1 arc0]; exact List.getElem_mem _)).2
              have h4 : stR l gs x = roomS (l.getD x.1 arc0) (gs.getD x.1 0) x.2 := rfl
              rw [h4] at h1
              unfold roomS at h1
              split at h1 <;> omega
            have hlen : ws.length ≤ m := by
              have h1 := hnd.length_le_of_subset (l₂ := List.range m) fun i hi => by
                obtain ⟨x, hx, rfl⟩ := List.mem_map.1 hi
                rw [List.mem_range, ← HL.out]
                exact (hstp x hx).1
              rwa [List.length_map, List.length_range] at h1
            have hbnd : ∀ i, i ≤ ws.length → ∀ k, k < m → 0 ≤ (pushL u gs (ws.take i)).getD k 0 ∧ (pushL u gs (ws.take i)).getD k 0 ≤ 1048576 := fun i _ k hk => by
              have hc : CapOk l (pushL u gs (ws.take i)) := cap_push (by omega) _ gs HFL.out.cap (by rw [List.map_take]; exact (List.take_sublist _ _).nodup hnd) fun x hx => ⟨(hstp x (List.mem_of_mem_take hx)).1, hux x (List.mem_of_mem_take hx)⟩
              have hkl : k < l.length := by rw [HL.out]; exact hk
              have h1 := hc.at_ hkl
              have h2 := (HM.out (l.getD k z4) (by rw [getD_at l k hkl]; exact List.getElem_mem _)).2
              omega
            have hkpq : Blk wq P 80 #[.int .i64 N, .slice A m c, .slice (some ⟨g, 0, none⟩) m m] := HOP4.out.1.below hb (by have := HTT.out; omega)
            have hgq : GoesB wq g gs := Blk.below (Blk.below HG.out HBK4.out hgw : GoesB w4 g gs) hb (by have := HTT.out; omega)
            have hpush := flow_Push P N g sz hq n17 cap17 m c m A gs ws u wq hkpq hgq HGL.out hn17.symm (by rw [hn17]; exact hsb) (fun x hx => by rw [← HL.out]; exact (hstp x hx).1) (by rw [hn17]; exact hbnd) ⟨by omega, hul⟩ (by omega)
            have hfl2 := hbk'.flow HIN.out HFL.out HST.out HFIN.out (by omega) hux
            have hpt2 := hbk'.heights (u := u) HIN.out HOK.out HFL.out HPT2.out hs HFIN.out (by omega)
            have hcst := costF_push l u ws gs HFL.out.cap.len fun x hx => (hstp x hx).1
            have hsum := hbk'.sum
            rw [HFIN.out.ds, Int.zero_add, ← HDT.out] at hsum
            rw [hsum, ← HSUM.out] at hcst
            have hlall := hfl2.le_all HIN.out (fun a ha => (HM.out a ha).1) hs HST.out
            have hcl2 := costF_le (N := N) hfl2.cap fun a ha => by
              obtain ⟨_, _, _, _, _, _, h2, h3, h4⟩ := HOK.out.arcs a ha
              exact ⟨h2, h3, h4⟩
            obtain ⟨gs2, hgs2⟩ : ∃ gs2, gs2 = pushL u gs ws := ⟨_, rfl⟩
            rw [← hgs2] at hpush hfl2 hpt2 hcst hcl2
            obtain ⟨c2, hc2⟩ : ∃ c2, c2 = costF l gs2 := ⟨_, rfl⟩
            rw [← hc2] at hcst hcl2
            have hm30' : (l.length : Int) ≤ 30 := by rw [HL.out]; omega
            have e1 : IntKind.i64.wrap (rem - u) = rem - u := IntWalk.i64_in _ (by have := HREM.out; omega)
            have e2 : IntKind.i64.wrap (u * dt) = u * dt := IntWalk.i64_in _ (by omega)
            have e3 : IntKind.i64.wrap (sum + u * dt) = c2 := by rw [IntWalk.i64_in _ (by omega)]; exact hcst.symm
            have hDq : K + 1 < wq.heap.size := by have := HD4.out; omega
            have hown4 : wq.cell? ⟨K + 1, t, none⟩ = some (.int .i64 dt) := (hb.cell (by show K + 1 < T; exact HD4.out)).trans HDTC.out
            have hkq := HK.out.below (HBK4.out.trans (hb.mono (by have := HTT.out; omega))) (by omega)
            have HPUSH := Lib.hid hpush
            have HFL2 := Lib.hid hfl2
            have HPT3 := Lib.hid hpt2
            have HC2 := Lib.hid hc2
            have HLA := Lib.hid hlall
            have HBq := Lib.hid hb
            have HKPQ := Lib.hid hkpq
            have HU0 := Lib.hid hu0
            clear hbk' hstp hnd hne hown hsb hul hlen hbnd hkpq hgq hpush hfl2 hpt2 hcst hsum hlall hcl2 hgs2 hc2 hb hbk hux hn17
            go_wp2_with fail
            refine HPUSH.out.mono ?_
            clear HPUSH
            rintro e w6 ⟨⟨v6, rfl⟩, hh6, hg6⟩
            have hDc : w6.cell? ⟨K + 1, t, none⟩ = some (.int .i64 dt) := (World.cell?_of_block (w := wq) (hh6.block (K + 1) hDq (by simp; omega))).trans hown4
            have hb6 := (HBS4.out.trans (HBq.out.mono (by have := HTT.out; omega))).trans (hh6.to (B := S) (by omega) (by simp; omega))
            have hkp6 := HKPQ.out.held hh6 (by simp; omega)
            have hk6 := hkq.held hh6 (by simp; omega)
            have hve : rem - u = value - (v + u) := by have := HREM.out; omega
            have hvu : v + u ≤ value := by have := HREM.out; omega
            have HG6 := Lib.hid hg6
            have HB6 := Lib.hid hb6
            have HKP6 := Lib.hid hkp6
            have HK6 := Lib.hid hk6
            have HVE := Lib.hid hve
            clear hh6 hg6 hb6 hkp6 hk6 hve hkq hown4
            go_wp2_with fail
            go_roundw
            case rel => exact ⟨gs2, v + u, by rw [HVE.out], by rw [HC2.out], by have := HU0.out; omega, hvu, HFL2.out, HPT3.out, HG6.out, HB6.out, HKP6.out, HK6.out⟩
            case measure => (have := HU0.out; have := HLA.out; have := HREM.out; simp only [intOf]; omega)
          · obtain ⟨f1, f2, f3, f4, f5⟩ := HFIN.out.ent j hjs hbk.far
            have hbn := hbk.next HIN.out HFIN.out hjs
            have hstp := hbn.steps HIN.out HFIN.out
            have hnd := hbn.nodup HIN.out HFIN.out
            obtain ⟨k, hk⟩ : ∃ k, k = by_ j := ⟨_, rfl⟩
            rw [← hk] at f1 f2 f3 f4 f5 hbn hstp hnd
            have hkl : k / 2 < l.length := by omega
            obtain ⟨a1, a2⟩ := stS_a HIN.out gs hkl
            obtain ⟨b1, b2⟩ := stS_low HIN.out gs hkl
            rw [f3] at a2 b2
            obtain ⟨a, ha⟩ : ∃ a, a = (stS l gs k).2.a := ⟨_, rfl⟩
            rw [← ha] at a1 hbn b1
            have hst5 := HST4.out.below hb (by have := HY.out; exact this)
            have hcell := hst5.at_ b2
            rw [← hk] at hcell
            have hrk := (hstp (spK k) (by simp)).2.2
            have hroom := (hstp (spK k) (by simp)).2.1
            obtain ⟨q, bb, hqb⟩ : ∃ q bb, spK k = (q, bb) := ⟨_, _, rfl⟩
            rw [hqb] at hcell hbn hstp hnd a1 a2 hrk hroom
            rw [← a1, ← a2] at hrk
            simp only at hcell
            obtain ⟨y0, y1⟩ := hcell
            have hql : q < m := by
              have : (spK k).1 = q := by rw [hqb]
              have h2 : (spK k).1 = k / 2 := rfl
              rw [← HL.out]; omega
            have hopq := (HOP4.out.below (hb.mono (by have := HTT.out; omega)) hPw)
            have hcq := HCAP.out q hql
            have hmq := (HM.out _ (by rw [getD_at l q (by rw [HL.out]; exact hql) arc0]; exact List.getElem_mem _ : l.getD q arc0 ∈ l)).2
            have hKq : K ≤ wq.heap.size := by have := HTT.out; omega
            have hR := flow_Room K P N A m c (some ⟨g, 0, none⟩) m l gs q bb wq hopq hql (by omega) (by omega) hKq ⟨hcq.1, hcq.2, hmq⟩
            have e1 : roomS (l.getD q arc0) (gs.getD q 0) bb = stR l gs (q, bb) := rfl
            have e2 : fromS (l.getD q arc0) bb = (a : Int) := a1.symm
            have e3 : toS (l.getD q arc0) bb = (j : Int) := a2.symm
            obtain ⟨rm, hrm⟩ : ∃ rm, rm = stR l gs (q, bb) := ⟨_, rfl⟩
            rw [e1, e2, e3, ← hrm] at hR
            rw [← hrm] at hroom
            obtain ⟨mu, hmu⟩ : ∃ mu, mu = if rm < u then rm else u := ⟨_, rfl⟩
            have hmin : ∀ (ts : Array TypeId) (ty : TypeId) (W : World), (Builtin.min_ ts ty #[.int .i64 u, .int .i64 rm]).run Try.prog W = .ok (.int .i64 mu) W := fun ts ty W => by
              rw [hmu]
              simp [Builtin.min_, Builtin.min2]
            have hmu1 : 0 < mu ∧ mu ≤ u ∧ mu ≤ rm := by rw [hmu]; split <;> omega
            have hjb : ((j : Int) == (s : Int)) = false := by simp; omega
            have hlen : ws.length + 1 ≤ m := by
              have h1 := hnd.length_le_of_subset (l₂ := List.range m) fun i hi => by
                obtain ⟨x, hx, rfl⟩ := List.mem_map.1 hi
                rw [List.mem_range, ← HL.out]
                exact (hstp x hx).1
              rw [List.length_map, List.length_append, List.length_range] at h1
              exact h1
            have hn30 : n17 ≤ 30 := by omega
            have hux2 : ∀ x ∈ ws ++ [(q, bb)], mu ≤ stR l gs x := fun x hx => by
              rcases List.mem_append.1 hx with hx | hx
              · have := hux x hx
                omega
              · rw [List.mem_singleton] at hx
                rw [hx, ← hrm]
                exact hmu1.2.2
            have HR2 := Lib.hid hR
            have HN17 := Lib.hid hn17
            have HB5 := Lib.hid hb
            have HOWN := Lib.hid hown
            have HBN := Lib.hid hbn
            have HRK := Lib.hid hrk
            have HUX := Lib.hid hux2
            have HST5 := Lib.hid hst5
            have HMU := Lib.hid hmu1
            have hmr : mu ≤ rem := by omega
            clear f1 f2 f3 f4 f5 hbn hstp hnd hk hkl a1 a2 b1 ha hst5 hrk hroom hqb hopq hcq hmq hKq hR e1 e2 e3 hrm hmu hlen hux hux2 hn17 hb hown hbk hmu1 hjs HDTC HBS4 HOP4 HBK4 HBS3 HOP HBK3
            go_wp2_with fail
            refine HR2.out.mono ?_
            clear HR2
            rintro e w5 ⟨rfl, hb5⟩
            have hYq : Y < wq.heap.size := by have := HY.out; omega
            have z0 : w5.cell? ⟨Y, j * 2, none⟩ = some (.int .i64 (q : Int)) := (hb5.cell (by show Y < _; exact hYq)).trans y0
            have z1 : w5.cell? ⟨Y, j * 2 + 1, none⟩ = some (.bool bb) := (hb5.cell (by show Y < _; exact hYq)).trans y1
            have hz5 := hb5.size
            have HO5 := Lib.hid (HOWN.out.below hb5 (Nat.le_refl _))
            have HB6 := Lib.hid (HB5.out.trans (hb5.mono hTq))
            have hT5 : T ≤ w5.heap.size := by omega
            clear hb5 y0 y1
            go_wp2_with (at_builtin; go_loud (
              refine wpList_push rfl _ _ _ rfl T 2 77 (.agg #[.int .i64 0, .bool false]) 16 Try.underlying71 (by kernel_rfl) rfl (by omega) stepC w5 #[.int .i64 (q : Int), .bool bb] A17 n17 cap17 ws HN17.out.symm rfl HO5.out 1 [(q, bb)] rfl rfl w5.heap.size rfl rfl (by simp [Value.oneCell']) (by unfold maxLen; omega) (by omega) hT5 ?_
              intro A9 cap9 w9 hown9 hgrow9 hloc9
              have hb9 := (HB6.out.alloc hT5 (.cells #[.int .i64 (q : Int), .bool bb] 77)).grown hgrow9 (by rw [size_alloc']; omega) (fun g e => (HO5.out.lt g e).1)
              have HB9 := Lib.hid hb9
              have HW9 := Lib.hid hown9
              clear hown9 hgrow9 hloc9 hb9))
            go_roundw
            case rel => exact ⟨a, ws ++ [(q, bb)], A9, n17 + 1, cap9, mu, rfl, rfl, rfl, by rw [List.length_append, ← HN17.out]; rfl, HB9.out, HW9.out, HBN.out, HMU.out.1, hmr, HUX.out⟩
            case measure => exact HRK.out
      · have hdf : (dt == 1152921504606846976) = true := by
          unfold farZ at hfar hdtle
          rw [beq_iff_eq]
          omega
        have hno := HFIN.out.noway HIN.out HOK.out HFL.out hs (by rw [← HDT.out]; exact hfar)
        have HNO := Lib.hid hno
        have hvlt : v < value := by have := HREM.out; omega
        clear hno
        go_wp2_with fail
        go_ret3
        refine ⟨by rw [← HS.out]; exact HBS4.out, .inr ⟨rfl, gs, v, ?_⟩⟩
        obtain ⟨p, p1, p2, p3⟩ := HNO.out
        exact ⟨p, hvlt, HFL.out, p1, p2, p3⟩
    · have hve : v = value := by omega
      subst hve
      have k2 := hkp.cell 2
      have HFL := Lib.hid hfl
      have HPT := Lib.hid hpt
      have HG := Lib.hid hg
      have HB := Lib.hid hb
      have e0 : v - v = 0 := by omega
      rw [e0]
      clear hfl hpt hg hb hkp hk hpos e0
      go_wp2_with fail
      go_quiet (fail)
      go_wp2_with fail
      refine bodyPost_ret (v := .tuple #[.int .i64 (costF l gs), .slice (some ⟨g, 0, none⟩) m m, .int .i64 0]) (by simp [results, Try.results12, go_sem]) rfl ?_
      exact ⟨by rw [← HS.out]; exact below_drewN HB.out _, .inl ⟨g, gs, rfl, HG.out, by rw [← HS.out]; omega, HFL.out, HPT.out⟩⟩
end Go.Proofs.Ytjkfogkpacmdlaa
