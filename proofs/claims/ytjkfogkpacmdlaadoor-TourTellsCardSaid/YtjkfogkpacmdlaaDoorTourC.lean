/- The tour by the reference: an edge left out, can all edges be met. Conditions: the edges read as a list. -/
import Derived.Test.YtjkfogkpacmdlaaDoorTourQ
import Derived.Test.YtjkfogkpacmdlaaDoorDistA
import Derived.Test.YtjkfogkpacmdlaaDoorExt
namespace Go.Proofs.YtjkfogkpacmdlaaDoor
open Go.RowKit Go.Shelf

def lessT (l : List Ed) (k i : Nat) : List Ed := (l.take i).eraseIdx k
theorem lessT_succ {l : List Ed} {k i : Nat} (hi : i < l.length) : lessT l k (i + 1) = if i = k then lessT l k i else lessT l k i ++ [l[i]] := by
  unfold lessT
  rw [List.take_succ_eq_append_getElem hi]
  have hlen : (l.take i).length = i := by rw [List.length_take]; omega
  split
  · rename_i h
    subst h
    rw [List.eraseIdx_append_of_length_le (by omega), hlen, Nat.sub_self, List.eraseIdx_of_length_le (l := l.take i) (by omega)]
    simp
  · rename_i h
    by_cases hlt : k < i
    · rw [List.eraseIdx_append_of_lt_length (by omega)]
    · rw [List.eraseIdx_append_of_length_le (by omega), hlen, List.eraseIdx_of_length_le (l := [l[i]]) (by simp; omega), List.eraseIdx_of_length_le (l := l.take i) (by omega)]
theorem lessT_le (l : List Ed) (k i : Nat) : (lessT l k i).length ≤ i := by
  unfold lessT
  have h1 := List.length_eraseIdx_le (l.take i) k
  rw [List.length_take] at h1
  omega
set_option maxRecDepth 100000 in
set_option maxHeartbeats 1000000 in
theorem ref_less (N : Int) (k : Nat) (A : Option Addr) (n c : Nat) (l : List Ed) (w : World) (hl : l.length = n) (hn : n ≤ 45) (hr : Els w w.heap.size 3 Ed.cells A l) :
    Calls Tryd.prog 20 #[.agg #[.int .i64 N, .slice A n c], .int .i64 k] w fun e w' => ∃ (A' : Option Addr) (m c' : Nat), e = .returned (.agg #[.int .i64 N, .slice A' m c']) ∧ Below w.heap.size w w' ∧ (l.eraseIdx k).length = m ∧ Own w' w.heap.size 48 3 Ed.cells A' c' (l.eraseIdx k) := by
  obtain ⟨S, hS⟩ : ∃ S, S = w.heap.size := ⟨_, rfl⟩
  obtain ⟨V, hV⟩ : ∃ V, V = ((w.alloc (.cells #[.int .i64 N, .slice A n c] 24)).alloc (.cells #[.int .i64 0, .slice none 0 0] 24)).alloc (.cells #[.int .i64 N, .slice none 0 0] 24) := ⟨_, rfl⟩
  have hbV : Below S w V := by rw [hV, hS]; exact (((Below.refl w.heap.size w).alloc (Nat.le_refl _) _).alloc (by rw [size_alloc']; omega) _).alloc (by rw [size_alloc', size_alloc']; omega) _
  have hk1 : Blk V (S + 1) 24 #[.int .i64 0, .slice none 0 0] := by rw [hV, hS]; exact (Blk.new_at (by rw [size_alloc'])).alloc _
  have hk2 : Blk V (S + 2) 24 #[.int .i64 N, .slice none 0 0] := by rw [hV, hS]; exact Blk.new_at (by rw [size_alloc', size_alloc'])
  have c0 := (Blk.new w 24 #[.int .i64 N, .slice A n c]).cell 0
  have c1 := (Blk.new w 24 #[.int .i64 N, .slice A n c]).cell 1
  have HL := Lib.hid hl
  have HS := Lib.hid hS
  have HV := Lib.hid hV
  have HBV := Lib.hid hbV
  have HK1 := Lib.hid hk1
  have HK2 := Lib.hid hk2
  rw [← hS] at hr
  clear hl hS hV hbV hk1 hk2
  go_enter Tryd.func20, Tryd.ntmps20
  go_wp2_with fail
  rw [← HV.out, ← HS.out]
  clear c0 c1 HV
  go_loopw [14] (fun s14 wr => ∃ (i m2 c2 : Nat) (A2 : Option Addr), i ≤ n ∧ s14 = .int .i64 i ∧ (lessT l k i).length = m2 ∧ Below S w wr ∧ Blk wr (S + 1) 24 #[.int .i64 0, .slice none 0 0] ∧ Blk wr (S + 1 + 1) 24 #[.int .i64 N, .slice A2 m2 c2] ∧ Own wr (S + 3) 48 3 Ed.cells A2 c2 (lessT l k i)) (fun s14 _ => n - (intOf s14).toNat)
  case atStart => exact ⟨0, 0, 0, none, Nat.zero_le _, rfl, by simp [lessT], HBV.out, HK1.out, HK2.out, by rw [show lessT l k 0 = [] by simp [lessT]]; exact Own.nil _ _ _ (fun _ => rfl)⟩
  case round =>
    clear HBV HK1 HK2
    rename World => wr
    obtain ⟨i, m2, c2, A2, hi, rfl, hm2, hb, hk1, hk2, ho⟩ := hrel
    have HB := Lib.hid hb
    have HK1 := Lib.hid hk1
    have HK2 := Lib.hid hk2
    have HO := Lib.hid ho
    have HM2 := Lib.hid hm2
    have hz2 := hk2.lt
    have hm45 : m2 ≤ 45 := by have := lessT_le l k i; omega
    by_cases hlt : i < n
    · have hil : i < l.length := by rw [HL.out]; exact hlt
      obtain ⟨b0, off, rfl, hbb, g0, g1, g2⟩ := (hr.below hb).at3 hil
      have HST := Lib.hid (lessT_succ (k := k) hil)
      obtain ⟨e, he⟩ : ∃ e, e = l[i] := ⟨_, rfl⟩
      rw [← he] at g0 g1 g2 HST
      have e0 := (Blk.new wr 48 #[.int .i64 e.a, .int .i64 e.b, .int .i64 e.w]).cell 0
      have e1 := (Blk.new wr 48 #[.int .i64 e.a, .int .i64 e.b, .int .i64 e.w]).cell 1
      have e2 := (Blk.new wr 48 #[.int .i64 e.a, .int .i64 e.b, .int .i64 e.w]).cell 2
      by_cases hik : i = k
      · have hbk : ((i : Int) != (k : Int)) = false := by simp; omega
        have HST2 : Hid (lessT l k (i + 1) = lessT l k i) := Lib.hid (by rw [HST.out, if_pos hik])
        clear hb hk1 hk2 ho hm2 he HST hik
        go_wp2_with fail
        go_roundw
        case rel => exact ⟨i + 1, m2, c2, A2, by omega, by go_num, by rw [HST2.out]; exact HM2.out, HB.out.alloc (by have := HB.out.size; rw [HS.out]; exact this) _, HK1.out.alloc _, HK2.out.alloc _, by rw [HST2.out]; exact HO.out.alloc _⟩
        case measure => simp [intOf]; omega
      · have hbk : ((i : Int) != (k : Int)) = true := by simp; omega
        have HST2 : Hid (lessT l k (i + 1) = lessT l k i ++ [e]) := Lib.hid (by rw [HST.out, if_neg hik])
        have h2 := (HK2.out.alloc (.cells #[.int .i64 e.a, .int .i64 e.b, .int .i64 e.w] 48))
        have k1 := h2.cell 1
        have HROW : Hid (∀ g, blkOf A2 = some g → S + 3 ≤ g) := Lib.hid fun g hg => (HO.out.lt g hg).1
        have hne : blkOf A2 ≠ some (S + 1) := fun h => by have := HROW.out _ h; omega
        have hne2 : blkOf A2 ≠ some (S + 1 + 1) := fun h => by have := HROW.out _ h; omega
        have HNE := Lib.hid hne
        have HNE2 := Lib.hid hne2
        clear hb hk1 hk2 ho hm2 he HST hik h2 hne hne2
        go_wp2_with (at_builtin; go_must (refine wpList_push rfl _ _ _ rfl (S + 3) 3 48 (.agg #[.int .i64 0, .int .i64 0, .int .i64 0]) 24 Tryd.underlying22 (by kernel_rfl) rfl (by omega) Ed.cells _ #[.int .i64 e.a, .int .i64 e.b, .int .i64 e.w] A2 m2 c2 (lessT l k i) HM2.out rfl (HO.out.alloc _) 1 [e] rfl rfl (wr.heap.size + 1) rfl (by rw [size_alloc']) (by simp [Value.oneCell']) (by unfold maxLen; omega) (by omega) (by omega) ?_; intro A3 c3 w4 hown4 hgrow4 hloc4; have h24 := ((HK2.out.alloc (.cells #[.int .i64 e.a, .int .i64 e.b, .int .i64 e.w] 48)).alloc (.cells #[.int .i64 e.a, .int .i64 e.b, .int .i64 e.w] 48)).grown hgrow4 (fun h => HNE2.out h.symm); have k4 := h24.cell 1; have f4 := h24.frozen 1))
        go_roundw
        case rel =>
          have hs := HB.out.size
          refine ⟨i + 1, m2 + 1, c3, A3, by omega, by go_num, by rw [HST2.out, List.length_append, HM2.out]; rfl, ?_, ?_, h24.put 1 _, ?_⟩
          · exact (((HB.out.alloc (by rw [HS.out]; exact hs) _).alloc (by rw [size_alloc', HS.out]; omega) _).grown hgrow4 (by rw [size_alloc', size_alloc', HS.out]; omega) (fun g hg => by have := HROW.out g hg; omega)).setCell (p := ⟨S + 1 + 1, 1, none⟩) (show S ≤ S + 1 + 1 by omega) _
          · exact (((HK1.out.alloc _).alloc _).grown hgrow4 (fun h => HNE.out h.symm)).far (p := ⟨S + 1 + 1, 1, none⟩) (show S + 1 ≠ S + 1 + 1 by omega) _
          · rw [HST2.out]
            refine hown4.far (p := ⟨S + 1 + 1, 1, none⟩) (fun h => ?_) _
            rcases hloc4 with h' | h'
            · exact HNE2.out (h'.symm.trans h)
            · rw [h'] at h
              have : wr.heap.size + 1 + 1 = S + 1 + 1 := by simpa using h
              omega
        case measure => simp [intOf]; omega
    · obtain rfl : i = n := by omega
      have k20 := hk2.cell 0
      have k21 := hk2.cell 1
      have k10 := hk1.cell 0
      have k11 := hk1.cell 1
      have f10 := hk1.frozen 0
      have f11 := hk1.frozen 1
      have HT : Hid (lessT l k i = l.eraseIdx k) := Lib.hid (by unfold lessT; rw [List.take_of_length_le (by rw [HL.out]; exact Nat.le_refl _)])
      clear hb hk1 hk2 ho hm2
      go_wp2_with fail
      have hkV : Blk ((wr.setCell ⟨S + 1, 0, none⟩ (.int .i64 N)).setCell ⟨S + 1, 1, none⟩ (.slice A2 m2 c2)) (S + 1) 24 #[.int .i64 N, .slice A2 m2 c2] := (HK1.out.put 0 _).put 1 _
      have v0 := hkV.cell 0
      have v1 := hkV.cell 1
      refine bodyPost_ret (v := .agg #[.int .i64 N, .slice A2 m2 c2]) (by simp [results, Tryd.results20, go_sem, v0, v1]) rfl ?_
      have hne : blkOf A2 ≠ some (S + 1) := fun h => by have := (HO.out.lt _ h).1; omega
      refine ⟨A2, m2, c2, rfl, by rw [← HS.out]; exact (HB.out.setCell (p := ⟨S + 1, 0, none⟩) (show S ≤ S + 1 by omega) _).setCell (p := ⟨S + 1, 1, none⟩) (show S ≤ S + 1 by omega) _, by rw [← HT.out]; exact HM2.out, ?_⟩
      rw [← HT.out]
      exact ((HO.out.far (p := ⟨S + 1, 0, none⟩) hne _).far (p := ⟨S + 1, 1, none⟩) hne _).weaken (by rw [← HS.out]; omega)
/-- Does a node hold? -/
noncomputable def tourB (l : List Ed) (a s i : Nat) : Bool := open Classical in decide ((deg l i % 2 = 1 ↔ ¬ (i = a ↔ i = s)) ∧ (0 < deg l i → Rch (Adj l) a i))
set_option maxRecDepth 100000 in
set_option maxHeartbeats 1000000 in
theorem ref_touring (N a s : Nat) (A : Option Addr) (n c : Nat) (l : List Ed) (q : Bool) (w : World) (hl : l.length = n) (hg : GoodG N l) (ha : a < N) (hq : q = true ↔ mayT N l a s) (hr : Els w w.heap.size 3 Ed.cells A l) :
    Calls Tryd.prog 19 #[.agg #[.int .i64 N, .slice A n c], .int .i64 a, .int .i64 s] w fun e w' => e = .returned (.bool q) ∧ Below w.heap.size w w' := by
  have hb0 := (Below.refl w.heap.size w).alloc (Nat.le_refl _) (.cells #[.int .i64 N, .slice A n c] 24)
  have hB0 := Blk.new w 24 #[.int .i64 N, .slice A n c]
  have HD := Lib.hid (ref_Dist N A n c l _ hl hg ((hr.below hb0).more hb0.size))
  have HDG : Hid (∀ (i : Nat) (v : World), Below w.heap.size w v → Calls Tryd.prog 18 #[.agg #[.int .i64 N, .slice A n c], .int .i64 i] v fun e w' => e = .returned (.int .i64 (deg l i)) ∧ Below v.heap.size v w') := Lib.hid fun i v hv =>
    ref_Degree N i A n c l v hl (by rw [← hl]; exact hg.m45) ((hr.below hv).more hv.size)
  have HB0 := Lib.hid hb0
  have HK0 := Lib.hid hB0
  have HQ := Lib.hid hq
  have HC1 : Hid (∀ v, Below w.heap.size w v → ∀ v', Below v.heap.size v v' → Below w.heap.size w v') := Lib.hid fun v hv v' hv' => hv.trans (hv'.mono hv.size)
  have c0 := hB0.cell 0
  have c1 := hB0.cell 1
  have h45 := hg.m45
  have h10 := hg.n10
  clear hr hb0 hB0 hg hq
  go_enter Tryd.func19, Tryd.ntmps19
  go_wp2_with fail
  refine HD.out.mono ?_
  clear HD c0 c1
  rintro e v1 ⟨A3, c3, P, M, rfl, hb1, hP, hm, hd⟩
  have HB1 := Lib.hid (HC1.out _ HB0.out _ hb1)
  have HK1 := Lib.hid (HK0.out.below hb1 HK0.out.lt)
  have HP := Lib.hid hP
  have HM := Lib.hid hm
  have HDI := Lib.hid hd
  clear hb1 hP hm hd HB0 HK0
  go_wp2_with fail
  go_loopw [8] (fun s8 wr => ∃ i : Nat, i ≤ N ∧ s8 = .int .i64 i ∧ Below v1.heap.size v1 wr ∧ ∀ j, j < i → ((deg l j % 2 = 1 ↔ ¬ (j = a ↔ j = s)) ∧ (0 < deg l j → Rch (Adj l) a j))) (fun s8 _ => N - (intOf s8).toNat)
  case atStart => exact ⟨0, Nat.zero_le _, rfl, Below.refl _ _, fun j hj => by omega⟩
  case round =>
    rename World => wr
    obtain ⟨i, hi, rfl, hb, hall⟩ := hrel
    have hkr := HK1.out.below hb HK1.out.lt
    have c0 := hkr.cell 0
    have c1 := hkr.cell 1
    have hbw := HC1.out _ HB1.out _ hb
    have HB := Lib.hid hb
    have HBW := Lib.hid hbw
    have HALL := Lib.hid hall
    have HKR := Lib.hid hkr
    clear hall hkr hbw
    by_cases hlt : i < N
    · have hmr := HM.out.below hb
      obtain ⟨g, rfl, _, hgl, _, e1, _, hpl, hc1⟩ := hmr.at_ (i := a) (by rw [HP.out]; exact ha)
      obtain ⟨d1, _⟩ := hc1 i (by omega)
      have hdi := HDI.out a i ha hlt
      obtain ⟨p, hp⟩ : ∃ p, p = pAt P a := ⟨_, rfl⟩
      obtain ⟨x, hx⟩ : ∃ x, x = M a i := ⟨_, rfl⟩
      rw [← hp] at e1 d1 hpl
      rw [← hx] at d1 hdi
      have HDI2 := Lib.hid hdi
      have hzw := HBW.out.size
      have HDEG := Lib.hid (HDG.out i wr HBW.out)
      obtain ⟨d, hdd⟩ : ∃ d, d = deg l i := ⟨_, rfl⟩
      have hd45 : d ≤ 45 := by have := deg_le l i; omega
      rw [← hdd] at HDEG
      have HDD := Lib.hid hdd
      have HDG2 : Hid (∀ v, Below wr.heap.size wr v → Calls Tryd.prog 18 #[.agg #[.int .i64 N, .slice A n c], .int .i64 i] v fun e w' => e = .returned (.int .i64 (d : Nat)) ∧ Below v.heap.size v w') := Lib.hid fun v hv => by rw [hdd]; exact HDG.out i v (HC1.out _ HBW.out _ hv)
      obtain ⟨ia, hia⟩ : ∃ ia : Bool, ia = decide (i = a) := ⟨_, rfl⟩
      obtain ⟨is, his⟩ : ∃ is : Bool, is = decide (i = s) := ⟨_, rfl⟩
      have bia : ((i : Int) == (a : Int)) = ia := by rw [hia, Bool.eq_iff_iff, beq_iff_eq, decide_eq_true_eq]; omega
      have bis : ((i : Int) == (s : Int)) = is := by rw [his, Bool.eq_iff_iff, beq_iff_eq, decide_eq_true_eq]; omega
      have dia : decide (i = a) = ia := hia.symm
      have dis : decide (i = s) = is := his.symm
      obtain ⟨ob, hob⟩ : ∃ ob : Bool, (ia != is) = ob := ⟨_, rfl⟩
      have HOB : Hid (ob = true ↔ ¬ (i = a ↔ i = s)) := Lib.hid (by
        rw [← hob, hia, his]
        by_cases h1 : i = a <;> by_cases h2 : i = s <;> simp [h1, h2])
      have hmod : Int.tmod (d : Int) 2 = ((d % 2 : Nat) : Int) := (Int.ofNat_tmod d 2).symm
      have HNX : Hid (((d % 2 = 1 ↔ ¬ (i = a ↔ i = s)) ∧ (0 < d → Rch (Adj l) a i)) → ∀ j, j < i + 1 → ((deg l j % 2 = 1 ↔ ¬ (j = a ↔ j = s)) ∧ (0 < deg l j → Rch (Adj l) a j))) := Lib.hid fun h j hj => by
        by_cases hji : j = i
        · subst hji; rw [HDD.out] at h; exact h
        · exact HALL.out j (by omega)
      have HNO : Hid (¬ ((d % 2 = 1 ↔ ¬ (i = a ↔ i = s)) ∧ (0 < d → Rch (Adj l) a i)) → q = false) := Lib.hid fun h => by
        rw [← Bool.not_eq_true, HQ.out]
        intro hmay
        exact h (by rw [HDD.out]; exact ⟨hmay.1 i hlt, fun hd => hmay.2 i hlt hd⟩)
      obtain ⟨dm, hdm⟩ : ∃ dm, dm = d % 2 := ⟨_, rfl⟩
      have hdm2 : dm < 2 := by omega
      rw [← hdm] at hmod HNX HNO
      clear hb hx hp hdi hmr hc1 hia his hdd hdm
      rcases (show dm = 0 ∨ dm = 1 by omega) with rfl | rfl
      · cases ia with
        | false =>
          cases is with
          | false =>
            obtain rfl : ob = false := hob.symm
            clear hob
            go_wp2_with fail
            refine HDEG.out.mono ?_
            clear HDEG
            rintro e v2 ⟨rfl, hb2⟩
            have HD2 := Lib.hid (HDG2.out v2 hb2)
            have hk2 := HKR.out.below hb2 HKR.out.lt
            have e2 := (hb2.cell (p := ⟨g, a, none⟩) (by show g < _; omega)).trans e1
            have d2 := (hb2.cell (p := ⟨p.1, i, none⟩) (by show p.1 < _; omega)).trans d1
            have c2 := hk2.cell 0
            have c3 := hk2.cell 1
            have HB2 := Lib.hid (HC1.out _ HBW.out _ hb2)
            have HBV2 := Lib.hid (HB.out.trans (hb2.mono HB.out.size))
            have HK2 := Lib.hid hk2
            have hz2 := hb2.size
            clear c0 c1 e1 d1 hb2 hk2
            go_wp2_with fail
            refine HD2.out.mono ?_
            clear HD2
            rintro e v3 ⟨rfl, hb3⟩
            have HB3 := Lib.hid (HC1.out _ HB2.out _ hb3)
            have HBV3 := Lib.hid (HBV2.out.trans (hb3.mono HBV2.out.size))
            have e3 := (hb3.cell (p := ⟨g, a, none⟩) (by show g < _; omega)).trans e2
            have d3 := (hb3.cell (p := ⟨p.1, i, none⟩) (by show p.1 < _; omega)).trans d2
            clear c2 c3 e2 d2 hb3
            by_cases hd0 : 0 < d
            · by_cases hx0 : x < 0
              · have HF := Lib.hid (HNO.out fun h => by
                  have h1 := h.2 hd0
                  have h2 := HDI2.out.pos.2 h1
                  omega)
                have hxb : decide (x < 0) = true := decide_eq_true hx0
                clear hx0
                go_wp2_with fail
                go_ret
                exact ⟨by rw [HF.out]; rfl, HB3.out⟩
              · have HN2 := Lib.hid (HNX.out ⟨by rw [← HOB.out] <;> simp, fun _ => HDI2.out.pos.1 (by omega)⟩)
                have hxb : decide (x < 0) = false := decide_eq_false hx0
                clear hx0
                go_wp2_with fail
                go_roundw
                case rel => exact ⟨i + 1, by omega, by go_num, HBV3.out, HN2.out⟩
                case measure => simp [intOf]; omega
            · have HN2 := Lib.hid (HNX.out ⟨by rw [← HOB.out] <;> simp, fun h => absurd h hd0⟩)
              go_wp2_with fail
              go_roundw
              case rel => exact ⟨i + 1, by omega, by go_num, HBV3.out, HN2.out⟩
              case measure => simp [intOf]; omega
          | true =>
            obtain rfl : ob = true := hob.symm
            clear hob
            have HF := Lib.hid (HNO.out fun h => by
              have h1 := h.1
              rw [← HOB.out] at h1
              simp at h1)
            go_wp2_with fail
            refine HDEG.out.mono ?_
            clear HDEG
            rintro e v2 ⟨rfl, hb2⟩
            have HB2 := Lib.hid (HC1.out _ HBW.out _ hb2)
            clear hb2
            go_wp2_with fail
            go_ret
            exact ⟨by rw [HF.out]; rfl, HB2.out⟩
        | true =>
          cases is with
          | false =>
            obtain rfl : ob = true := hob.symm
            clear hob
            have HF := Lib.hid (HNO.out fun h => by
              have h1 := h.1
              rw [← HOB.out] at h1
              simp at h1)
            go_wp2_with fail
            refine HDEG.out.mono ?_
            clear HDEG
            rintro e v2 ⟨rfl, hb2⟩
            have HB2 := Lib.hid (HC1.out _ HBW.out _ hb2)
            clear hb2
            go_wp2_with fail
            go_ret
            exact ⟨by rw [HF.out]; rfl, HB2.out⟩
          | true =>
            obtain rfl : ob = false := hob.symm
            clear hob
            go_wp2_with fail
            refine HDEG.out.mono ?_
            clear HDEG
            rintro e v2 ⟨rfl, hb2⟩
            have HD2 := Lib.hid (HDG2.out v2 hb2)
            have hk2 := HKR.out.below hb2 HKR.out.lt
            have e2 := (hb2.cell (p := ⟨g, a, none⟩) (by show g < _; omega)).trans e1
            have d2 := (hb2.cell (p := ⟨p.1, i, none⟩) (by show p.1 < _; omega)).trans d1
            have c2 := hk2.cell 0
            have c3 := hk2.cell 1
            have HB2 := Lib.hid (HC1.out _ HBW.out _ hb2)
            have HBV2 := Lib.hid (HB.out.trans (hb2.mono HB.out.size))
            have HK2 := Lib.hid hk2
            have hz2 := hb2.size
            clear c0 c1 e1 d1 hb2 hk2
            go_wp2_with fail
            refine HD2.out.mono ?_
            clear HD2
            rintro e v3 ⟨rfl, hb3⟩
            have HB3 := Lib.hid (HC1.out _ HB2.out _ hb3)
            have HBV3 := Lib.hid (HBV2.out.trans (hb3.mono HBV2.out.size))
            have e3 := (hb3.cell (p := ⟨g, a, none⟩) (by show g < _; omega)).trans e2
            have d3 := (hb3.cell (p := ⟨p.1, i, none⟩) (by show p.1 < _; omega)).trans d2
            clear c2 c3 e2 d2 hb3
            by_cases hd0 : 0 < d
            · by_cases hx0 : x < 0
              · have HF := Lib.hid (HNO.out fun h => by
                  have h1 := h.2 hd0
                  have h2 := HDI2.out.pos.2 h1
                  omega)
                have hxb : decide (x < 0) = true := decide_eq_true hx0
                clear hx0
                go_wp2_with fail
                go_ret
                exact ⟨by rw [HF.out]; rfl, HB3.out⟩
              · have HN2 := Lib.hid (HNX.out ⟨by rw [← HOB.out] <;> simp, fun _ => HDI2.out.pos.1 (by omega)⟩)
                have hxb : decide (x < 0) = false := decide_eq_false hx0
                clear hx0
                go_wp2_with fail
                go_roundw
                case rel => exact ⟨i + 1, by omega, by go_num, HBV3.out, HN2.out⟩
                case measure => simp [intOf]; omega
            · have HN2 := Lib.hid (HNX.out ⟨by rw [← HOB.out] <;> simp, fun h => absurd h hd0⟩)
              go_wp2_with fail
              go_roundw
              case rel => exact ⟨i + 1, by omega, by go_num, HBV3.out, HN2.out⟩
              case measure => simp [intOf]; omega
      · cases ia with
        | false =>
          cases is with
          | false =>
            obtain rfl : ob = false := hob.symm
            clear hob
            have HF := Lib.hid (HNO.out fun h => by
              have h1 := h.1
              rw [← HOB.out] at h1
              simp at h1)
            go_wp2_with fail
            refine HDEG.out.mono ?_
            clear HDEG
            rintro e v2 ⟨rfl, hb2⟩
            have HB2 := Lib.hid (HC1.out _ HBW.out _ hb2)
            clear hb2
            go_wp2_with fail
            go_ret
            exact ⟨by rw [HF.out]; rfl, HB2.out⟩
          | true =>
            obtain rfl : ob = true := hob.symm
            clear hob
            go_wp2_with fail
            refine HDEG.out.mono ?_
            clear HDEG
            rintro e v2 ⟨rfl, hb2⟩
            have HD2 := Lib.hid (HDG2.out v2 hb2)
            have hk2 := HKR.out.below hb2 HKR.out.lt
            have e2 := (hb2.cell (p := ⟨g, a, none⟩) (by show g < _; omega)).trans e1
            have d2 := (hb2.cell (p := ⟨p.1, i, none⟩) (by show p.1 < _; omega)).trans d1
            have c2 := hk2.cell 0
            have c3 := hk2.cell 1
            have HB2 := Lib.hid (HC1.out _ HBW.out _ hb2)
            have HBV2 := Lib.hid (HB.out.trans (hb2.mono HB.out.size))
            have HK2 := Lib.hid hk2
            have hz2 := hb2.size
            clear c0 c1 e1 d1 hb2 hk2
            go_wp2_with fail
            refine HD2.out.mono ?_
            clear HD2
            rintro e v3 ⟨rfl, hb3⟩
            have HB3 := Lib.hid (HC1.out _ HB2.out _ hb3)
            have HBV3 := Lib.hid (HBV2.out.trans (hb3.mono HBV2.out.size))
            have e3 := (hb3.cell (p := ⟨g, a, none⟩) (by show g < _; omega)).trans e2
            have d3 := (hb3.cell (p := ⟨p.1, i, none⟩) (by show p.1 < _; omega)).trans d2
            clear c2 c3 e2 d2 hb3
            by_cases hd0 : 0 < d
            · by_cases hx0 : x < 0
              · have HF := Lib.hid (HNO.out fun h => by
                  have h1 := h.2 hd0
                  have h2 := HDI2.out.pos.2 h1
                  omega)
                have hxb : decide (x < 0) = true := decide_eq_true hx0
                clear hx0
                go_wp2_with fail
                go_ret
                exact ⟨by rw [HF.out]; rfl, HB3.out⟩
              · have HN2 := Lib.hid (HNX.out ⟨by rw [← HOB.out] <;> simp, fun _ => HDI2.out.pos.1 (by omega)⟩)
                have hxb : decide (x < 0) = false := decide_eq_false hx0
                clear hx0
                go_wp2_with fail
                go_roundw
                case rel => exact ⟨i + 1, by omega, by go_num, HBV3.out, HN2.out⟩
                case measure => simp [intOf]; omega
            · have HN2 := Lib.hid (HNX.out ⟨by rw [← HOB.out] <;> simp, fun h => absurd h hd0⟩)
              go_wp2_with fail
              go_roundw
              case rel => exact ⟨i + 1, by omega, by go_num, HBV3.out, HN2.out⟩
              case measure => simp [intOf]; omega
        | true =>
          cases is with
          | false =>
            obtain rfl : ob = true := hob.symm
            clear hob
            go_wp2_with fail
            refine HDEG.out.mono ?_
            clear HDEG
            rintro e v2 ⟨rfl, hb2⟩
            have HD2 := Lib.hid (HDG2.out v2 hb2)
            have hk2 := HKR.out.below hb2 HKR.out.lt
            have e2 := (hb2.cell (p := ⟨g, a, none⟩) (by show g < _; omega)).trans e1
            have d2 := (hb2.cell (p := ⟨p.1, i, none⟩) (by show p.1 < _; omega)).trans d1
            have c2 := hk2.cell 0
            have c3 := hk2.cell 1
            have HB2 := Lib.hid (HC1.out _ HBW.out _ hb2)
            have HBV2 := Lib.hid (HB.out.trans (hb2.mono HB.out.size))
            have HK2 := Lib.hid hk2
            have hz2 := hb2.size
            clear c0 c1 e1 d1 hb2 hk2
            go_wp2_with fail
            refine HD2.out.mono ?_
            clear HD2
            rintro e v3 ⟨rfl, hb3⟩
            have HB3 := Lib.hid (HC1.out _ HB2.out _ hb3)
            have HBV3 := Lib.hid (HBV2.out.trans (hb3.mono HBV2.out.size))
            have e3 := (hb3.cell (p := ⟨g, a, none⟩) (by show g < _; omega)).trans e2
            have d3 := (hb3.cell (p := ⟨p.1, i, none⟩) (by show p.1 < _; omega)).trans d2
            clear c2 c3 e2 d2 hb3
            by_cases hd0 : 0 < d
            · by_cases hx0 : x < 0
              · have HF := Lib.hid (HNO.out fun h => by
                  have h1 := h.2 hd0
                  have h2 := HDI2.out.pos.2 h1
                  omega)
                have hxb : decide (x < 0) = true := decide_eq_true hx0
                clear hx0
                go_wp2_with fail
                go_ret
                exact ⟨by rw [HF.out]; rfl, HB3.out⟩
              · have HN2 := Lib.hid (HNX.out ⟨by rw [← HOB.out] <;> simp, fun _ => HDI2.out.pos.1 (by omega)⟩)
                have hxb : decide (x < 0) = false := decide_eq_false hx0
                clear hx0
                go_wp2_with fail
                go_roundw
                case rel => exact ⟨i + 1, by omega, by go_num, HBV3.out, HN2.out⟩
                case measure => simp [intOf]; omega
            · have HN2 := Lib.hid (HNX.out ⟨by rw [← HOB.out] <;> simp, fun h => absurd h hd0⟩)
              go_wp2_with fail
              go_roundw
              case rel => exact ⟨i + 1, by omega, by go_num, HBV3.out, HN2.out⟩
              case measure => simp [intOf]; omega
          | true =>
            obtain rfl : ob = false := hob.symm
            clear hob
            have HF := Lib.hid (HNO.out fun h => by
              have h1 := h.1
              rw [← HOB.out] at h1
              simp at h1)
            go_wp2_with fail
            refine HDEG.out.mono ?_
            clear HDEG
            rintro e v2 ⟨rfl, hb2⟩
            have HB2 := Lib.hid (HC1.out _ HBW.out _ hb2)
            clear hb2
            go_wp2_with fail
            go_ret
            exact ⟨by rw [HF.out]; rfl, HB2.out⟩
    · obtain rfl : i = N := by omega
      have HF : Hid (q = true) := Lib.hid (HQ.out.2 ⟨fun j hj => (HALL.out j hj).1, fun j hj => (HALL.out j hj).2⟩)
      clear hb
      go_wp2_with fail
      go_ret
      exact ⟨by rw [HF.out]; rfl, HBW.out⟩
end Go.Proofs.YtjkfogkpacmdlaaDoor
