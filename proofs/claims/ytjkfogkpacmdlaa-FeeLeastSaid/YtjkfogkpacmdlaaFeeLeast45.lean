/- The statement FeeLeast: its law's walk. Conditions: the arcs read as a list. -/
import Derived.Test.YtjkfogkpacmdlaaFeeLeast38
import Derived.Test.YtjkfogkpacmdlaaFeeLeast39
import Derived.Test.YtjkfogkpacmdlaaFeeLeast40
import Derived.Test.YtjkfogkpacmdlaaFeeLeast43
import Derived.Test.YtjkfogkpacmdlaaFeeLeast44
import Derived.Test.YtjkfogkpacmdlaaFeeLeast2
namespace Go.Proofs.Ytjkfogkpacmdlaa
open Go.RowKit

theorem wrong_ok {N : Int} {l : List Arc} {s t value : Int} (h : feeWrong N l s t value = 0) : endsCheck N l s t = 0 ∧ 0 ≤ value ∧ ∀ a ∈ l, 0 ≤ a.e := by
  unfold feeWrong at h
  split at h
  · rename_i h0; exact absurd h h0
  · rename_i h0
    split at h
    · cases h
    · rename_i h1
      split at h
      · cases h
      · rename_i h2
        refine ⟨by simpa using h0, by omega, fun a ha => ?_⟩
        have h3 : l.any feeNeg = false := by simpa using h2
        have h4 := List.any_eq_false.1 h3 a ha
        unfold feeNeg at h4
        rw [decide_eq_true_eq] at h4
        omega
/-- What the law's loop has found so far. -/
def xkL (ec : Int) (l : List Arc) (k : Nat) : Int := if ec ≠ 0 then ec else if (l.take k).any feeNeg then 4 else 0
theorem xkL_succ {ec : Int} {l : List Arc} {k : Nat} (hk : k < l.length) : xkL ec l (k + 1) = if xkL ec l k = 0 ∧ (l.getD k z4).e < 0 then 4 else xkL ec l k := by
  unfold xkL
  by_cases h0 : ec ≠ 0
  · rw [if_pos h0, if_pos h0, if_neg (fun h => h0 h.1)]
  · rw [if_neg h0, if_neg h0, List.take_succ_eq_append_getElem hk, List.any_append, getD_at l k hk]
    have e : [l[k]].any feeNeg = decide (l[k].e < 0) := by simp [feeNeg]
    rw [e]
    cases h1 : (l.take k).any feeNeg
    · simp
    · simp
theorem xkL_end {N : Int} {l : List Arc} {s t value : Int} : feeWrong N l s t value = if xkL (endsCheck N l s t) l l.length = 0 ∧ value < 0 then 4 else xkL (endsCheck N l s t) l l.length := by
  unfold feeWrong xkL
  rw [List.take_length]
  by_cases h0 : endsCheck N l s t ≠ 0
  · rw [if_pos h0, if_pos h0, if_neg (fun h => h0 h.1)]
  · rw [if_neg h0, if_neg h0]
    by_cases hv : value < 0
    · rw [if_pos hv]
      cases h1 : l.any feeNeg
      · simp [hv]
      · simp
    · rw [if_neg hv]
      cases h1 : l.any feeNeg
      · simp [hv]
      · simp
set_option maxRecDepth 100000 in
set_option maxHeartbeats 1000000 in
theorem law_FeeLeast_bad (N s t value : Int) (A : Option Addr) (n c : Nat) (l : List Arc) (w : World) (h0 : feeWrong N l s t value ≠ 0) (hl : l.length = n) (hn : n ≤ maxLen) (hr : Els w w.heap.size 4 Arc.cells A l) :
    Calls Try.prog 4 #[.agg #[.int .i64 N, .slice A n c], .int .i64 s, .int .i64 t, .int .i64 value] w fun e w' => e = .returned (.bool true) ∧ Below w.heap.size w w' := by
  have hb0 := (Below.refl w.heap.size w).alloc (Nat.le_refl _) (.cells #[.int .i64 N, .slice A n c] 39)
  have hk0 := Blk.new w 39 #[.int .i64 N, .slice A n c]
  have hr0 : Els (w.alloc (.cells #[.int .i64 N, .slice A n c] 39)) (w.alloc (.cells #[.int .i64 N, .slice A n c] 39)).heap.size 4 Arc.cells A l := (hr.alloc (Nat.le_refl _) _).more (by rw [size_alloc']; omega)
  have HW := Lib.hid (fee_Least_bad N s t value A n c l (w.alloc (.cells #[.int .i64 N, .slice A n c] 39)) h0 hl hn hr0)
  have HGC0 := Lib.hid (fun v (hv : Els v v.heap.size 4 Arc.cells A l) => ref_EndsCheck N s t A n c l v hl hn hv)
  have hxe := xkL_end (N := N) (l := l) (s := s) (t := t) (value := value)
  rw [hl] at hxe
  obtain ⟨fw, hfw⟩ : ∃ fw, fw = feeWrong N l s t value := ⟨_, rfl⟩
  obtain ⟨ec, hec⟩ : ∃ ec, ec = endsCheck N l s t := ⟨_, rfl⟩
  rw [← hfw] at HW h0 hxe
  rw [← hec] at HGC0 hxe
  have hx0 : xkL ec l 0 = ec := by
    unfold xkL
    rw [List.take_zero]
    split
    · rfl
    · rename_i h; exact (by simpa using h : ec = 0).symm
  have hxs : ∀ k, k < n → xkL ec l (k + 1) = if xkL ec l k = 0 ∧ (l.getD k z4).e < 0 then 4 else xkL ec l k := fun k hk => xkL_succ (by rw [hl]; exact hk)
  have hff : (fw == fw) = true := by simp
  have hfn : (fw != 0) = true := by simpa using h0
  have HX0 := Lib.hid hx0
  have HXS := Lib.hid hxs
  have HXE := Lib.hid hxe
  have HL := Lib.hid hl
  have HR := Lib.hid hr
  have HB0 := Lib.hid hb0
  have HK0 := Lib.hid hk0
  have HF0 := Lib.hid h0
  have c0 := hk0.cell 0
  have c1 := hk0.cell 1
  unfold maxLen at hn
  clear hl hr hr0 hb0 hk0 h0 hfw hec hx0 hxs hxe
  go_enter Try.func4, Try.ntmps4
  go_wp2_with fail
  refine HW.out.mono ?_
  clear HW
  rintro e v1 ⟨rfl, hb1⟩
  have hk1 := HK0.out.below hb1 (by rw [size_alloc']; omega)
  have hb1' := HB0.out.trans (hb1.mono (by rw [size_alloc']; omega))
  have hz1 := hb1'.size
  have hlt1 := hk1.lt
  have HB1 := Lib.hid hb1'
  have HK1 := Lib.hid hk1
  have HGC := Lib.hid (HGC0.out v1 ((HR.out.below hb1').more hz1))
  clear c0 c1 hb1 hb1' HGC0
  have c0 := hk1.cell 0
  have c1 := hk1.cell 1
  clear hk1
  go_wp2_with fail
  refine HGC.out.mono ?_
  clear HGC
  rintro e v2 ⟨rfl, hb2⟩
  have hk2 := HK1.out.below hb2 hlt1
  have hb2' := HB1.out.trans (hb2.mono hz1)
  have HB2 := Lib.hid hb2'
  have d0 := hk2.cell 0
  have d1 := hk2.cell 1
  clear c0 c1 hb2 hb2' hk2
  go_wp2_with fail
  go_loopw [35, 12, 14] (fun s35 s12 _ wr => ∃ k : Nat, k ≤ n ∧ s35 = .int .i64 k ∧ s12 = .int .i64 (xkL ec l k) ∧ Below w.heap.size w wr) (fun s35 _ _ _ => n - (intOf s35).toNat)
  case atStart => exact ⟨0, Nat.zero_le _, rfl, by rw [HX0.out], HB2.out⟩
  case round =>
    clear HB2 d0 d1 HX0
    rename World => wr
    obtain ⟨k, hk, rfl, rfl, hb⟩ := hrel
    by_cases hlt : k < n
    · have hkl : k < l.length := by rw [HL.out]; exact hlt
      obtain ⟨b0, off, rfl, hb0, g0, g1, g2, g3⟩ := (HR.out.below hb).at4 (f := fun a : Arc => .int .i64 a.f) (g := fun a : Arc => .int .i64 a.t) (p := fun a : Arc => .int .i64 a.m) (q := fun a : Arc => .int .i64 a.e) hkl
      have hxs := HXS.out k hlt
      rw [← getD_at l k hkl z4] at g0 g1 g2 g3
      obtain ⟨⟨af, at_, am, ae⟩, ha⟩ : ∃ a, a = l.getD k z4 := ⟨_, rfl⟩
      rw [← ha] at g0 g1 g2 g3 hxs
      simp only at g0 g1 g2 g3 hxs
      obtain ⟨x, hx⟩ : ∃ x, x = xkL ec l k := ⟨_, rfl⟩
      rw [← hx] at hxs ⊢
      have q3 := (Blk.new wr 45 #[.int .i64 af, .int .i64 at_, .int .i64 am, .int .i64 ae]).cell 3
      have HB1 := Lib.hid (hb.alloc (by exact hb.size) (.cells #[.int .i64 af, .int .i64 at_, .int .i64 am, .int .i64 ae] 45))
      by_cases hx0 : x = 0
      · subst hx0
        have h00 : ((0 : Int) == 0) = true := rfl
        by_cases hae : ae < 0
        · have HXN : Hid (xkL ec l (k + 1) = 4) := Lib.hid (by rw [hxs, if_pos ⟨rfl, hae⟩])
          have hd : decide (ae < 0) = true := decide_eq_true hae
          clear hb hxs hx ha hkl
          go_wp2_with fail
          go_roundw
          case rel => exact ⟨k + 1, by omega, by go_num, by rw [HXN.out], HB1.out⟩
          case measure => simp [intOf]; omega
        · have HXN : Hid (xkL ec l (k + 1) = 0) := Lib.hid (by rw [hxs, if_neg (fun h => hae h.2)])
          have hd : decide (ae < 0) = false := decide_eq_false hae
          clear hb hxs hx ha hkl
          go_wp2_with fail
          go_roundw
          case rel => exact ⟨k + 1, by omega, by go_num, by rw [HXN.out], HB1.out⟩
          case measure => simp [intOf]; omega
      · have HXN : Hid (xkL ec l (k + 1) = x) := Lib.hid (by rw [hxs, if_neg (fun h => hx0 h.1)])
        have hd : (x == 0) = false := by simpa using hx0
        clear hb hxs hx ha hkl hx0
        go_wp2_with fail
        go_roundw
        case rel => exact ⟨k + 1, by omega, by go_num, by rw [HXN.out], HB1.out⟩
        case measure => simp [intOf]; omega
    · obtain rfl : k = n := by omega
      have hxe := HXE.out
      obtain ⟨x, hx⟩ : ∃ x, x = xkL ec l k := ⟨_, rfl⟩
      rw [← hx] at hxe ⊢
      have HB := Lib.hid hb
      by_cases hx0 : x = 0
      · subst hx0
        by_cases hv : value < 0
        · have hf4 : fw = 4 := by rw [hxe, if_pos ⟨rfl, hv⟩]
          subst hf4
          have hd : decide (value < 0) = true := decide_eq_true hv
          clear hb hxe hx hff hfn
          go_wp2_with fail
          go_ret
          exact ⟨rfl, HB.out⟩
        · rw [if_neg (fun h => hv h.2)] at hxe
          exact absurd hxe HF0.out
      · rw [if_neg (fun h => hx0 h.1)] at hxe
        subst hxe
        have hd : (fw == 0) = false := by simpa using hx0
        clear hb hx hx0
        go_wp2_with fail
        go_ret
        exact ⟨rfl, HB.out⟩
/-- A flow of a value is no more than the smallest cut. -/
theorem flow_cut {N : Nat} {l : List Arc} {gs : List Int} {s t : Nat} {v : Int} {b0 : Nat} (hN : N ≤ 10) (hin : InN N l) (hs : s < N) (hf : FlowV N l gs s t v) (hb : BestCut l s t (· < 2 ^ N) b0) : v ≤ cutSum (nw b0) l := by
  obtain ⟨h1, h2, h3⟩ := hb
  have h4 := capP_cut (N := N) (nw b0) (fun i => bitB (nw b0) i) hin (fun i _ => rfl)
  unfold cutOk at h2
  rw [Bool.and_eq_true] at h2
  rw [← h4]
  refine hf.weak hin hs ?_ ?_
  · first | exact h2.1 | simpa using h2.1
  · first | simpa using h2.2 | exact h2.2
set_option maxRecDepth 100000 in
set_option maxHeartbeats 1000000 in
theorem law_FeeLeast_ok (N : Nat) (s t : Nat) (value : Int) (A : Option Addr) (n c : Nat) (l : List Arc) (w : World) (h0 : feeWrong N l s t value = 0) (he : endsCheck N l s t = 0) (hv0 : 0 ≤ value) (hvb : value < 9223372036854775808) (hneg : ∀ a ∈ l, 0 ≤ a.e) (hok : NetOk N l) (hs : s < N) (ht : t < N) (hst : s ≠ t) (hl : l.length = n) (hr : Els w w.heap.size 4 Arc.cells A l) :
    Calls Try.prog 4 #[.agg #[.int .i64 N, .slice A n c], .int .i64 s, .int .i64 t, .int .i64 value] w fun e w' => e = .returned (.bool true) ∧ Below w.heap.size w w' := by
  have hN10 := hok.small
  have hn30 : n ≤ 30 := by rw [← hl]; exact hok.few
  have hin := net_in hok
  have hMM : ∀ a ∈ l, 0 ≤ a.m ∧ a.m ≤ 1048576 := fun a ha => by
    obtain ⟨_, _, _, _, _, h1, h2, _⟩ := hok.arcs a ha
    exact ⟨h1, h2⟩
  have hb0 := (Below.refl w.heap.size w).alloc (Nat.le_refl _) (.cells #[.int .i64 N, .slice A n c] 39)
  have hk0 := Blk.new w 39 #[.int .i64 N, .slice A n c]
  have hr0 : Els (w.alloc (.cells #[.int .i64 N, .slice A n c] 39)) (w.alloc (.cells #[.int .i64 N, .slice A n c] 39)).heap.size 4 Arc.cells A l := (hr.alloc (Nat.le_refl _) _).more (by rw [size_alloc']; omega)
  have HW := Lib.hid (fee_Least N s t value A n c l (w.alloc (.cells #[.int .i64 N, .slice A n c] 39)) h0 hv0 hvb hok hneg hs ht hst hl hr0)
  have HGC0 : Hid (∀ v, Below w.heap.size w v → Calls Try.prog 13 #[.agg #[.int .i64 N, .slice A n c], .int .i64 s, .int .i64 t] v fun e w' => e = .returned (.int .i64 0) ∧ Below v.heap.size v w') := Lib.hid fun v hv => by
    have := ref_EndsCheck N s t A n c l v hl (by unfold maxLen; omega) ((hr.below hv).more hv.size)
    rwa [he] at this
  have HCUT : Hid (∀ v, Below w.heap.size w v → Calls Try.prog 14 #[.agg #[.int .i64 N, .slice A n c], .int .i64 s, .int .i64 t] v fun e w' => Below v.heap.size v w' ∧ ∃ b0, BestCut l s t (· < 2 ^ N) b0 ∧ e = .returned (.tuple #[.int .u32 (wN (nw b0)), .int .i64 (cutSum (nw b0) l)])) := Lib.hid fun v hv =>
    ref_Cut N s t A n c l v hl hok hs ht hst ((hr.below hv).more hv.size)
  have HFLO : Hid (∀ (v : World) (g : Nat) (gs : List Int) (x : Int), Below w.heap.size w v → g < v.heap.size → GoesB v g gs → FlowV N l gs s t x → Calls Try.prog 15 #[.agg #[.int .i64 N, .slice A n c], .slice (some ⟨g, 0, none⟩) n n, .int .i64 s, .int .i64 t] v fun e w' => e = .returned (.tuple #[.int .i64 x, .bool true]) ∧ Below v.heap.size v w') := Lib.hid fun v g gs x hv hg hgo hf =>
    ref_Flows N n c n A (some ⟨g, 0, none⟩) l gs s t x v hl (by omega) (by omega) hin hs hf hMM ((hr.below hv).more hv.size) (hgo.els hg)
  have HCOS : Hid (∀ (v : World) (g : Nat) (gs : List Int), Below w.heap.size w v → g < v.heap.size → GoesB v g gs → CapOk l gs → Calls Try.prog 16 #[.agg #[.int .i64 N, .slice A n c], .slice (some ⟨g, 0, none⟩) n n] v fun e w' => e = .returned (.int .i64 (costF l gs)) ∧ Below v.heap.size v w') := Lib.hid fun v g gs hv hg hgo hc =>
    ref_Costs N n c n A (some ⟨g, 0, none⟩) l gs v hl hok hc ((hr.below hv).more hv.size) (hgo.els hg)
  have HCHE : Hid (∀ (v : World) (g : Nat) (gs : List Int), Below w.heap.size w v → g < v.heap.size → GoesB v g gs → CapOk l gs → (∃ h, Pt (stS l gs) (2 * l.length) h) → Calls Try.prog 17 #[.agg #[.int .i64 N, .slice A n c], .slice (some ⟨g, 0, none⟩) n n] v fun e w' => e = .returned (.bool false) ∧ Below v.heap.size v w') := Lib.hid fun v g gs hv hg hgo hc hp => by
    have h1 := ref_Cheaper N A n c l (some ⟨g, 0, none⟩) n gs v hl hok (by rw [hc.len, hl]) (fun i hi => hc.at_ (by rw [hl]; exact hi)) ((hr.below hv).more hv.size) (hgo.els hg)
    have hS := stS_ok (gs := gs) hok (n := 2 * l.length) (Nat.le_refl _)
    obtain ⟨h, hh⟩ := hp
    have h2 := (cheap_iff hok.small (fun s hs => ⟨(hS s hs).1, (hS s hs).2.1⟩) (fun s hs => (hS s hs).2.2.2.2) (cheapM_small hok (Nat.le_refl _))).2 ⟨h, hh.pot⟩
    rw [hl] at h2
    rwa [h2] at h1
  have HIN := Lib.hid hin
  have HNEG := Lib.hid hneg
  have HL := Lib.hid hl
  have HR := Lib.hid hr
  have HB0 := Lib.hid hb0
  have HK0 := Lib.hid hk0
  have c0 := hk0.cell 0
  have c1 := hk0.cell 1
  clear hl hr hr0 hb0 hk0 h0 he hneg hok hin hMM hst
  go_enter Try.func4, Try.ntmps4
  go_wp2_with fail
  refine HW.out.mono ?_
  clear HW
  rintro e v1 ⟨hb1, hcs⟩
  have hk1 := HK0.out.below hb1 (by rw [size_alloc']; omega)
  have hb1' := HB0.out.trans (hb1.mono (by rw [size_alloc']; omega))
  have hz1 := hb1'.size
  have hlt1 := hk1.lt
  have HB1 := Lib.hid hb1'
  have HK1 := Lib.hid hk1
  have HGC := Lib.hid (HGC0.out v1 hb1')
  clear c0 c1 hb1 hb1' HGC0
  have c0 := hk1.cell 0
  have c1 := hk1.cell 1
  clear hk1
  rcases hcs with ⟨g, gs, rfl, hgo, hg1, hf, hp⟩ | ⟨rfl, gs, v, p, hvv, hf, p1, p2, p3⟩
  · have hg1z : g < v1.heap.size := Blk.lt hgo
    have HGO := Lib.hid hgo
    have HF := Lib.hid hf
    have HP := Lib.hid hp
    clear hgo hf hp
    obtain ⟨cc, hcc⟩ : ∃ cc, cc = costF l gs := ⟨_, rfl⟩
    rw [← hcc]
    have HCC := Lib.hid hcc
    clear hcc
    go_wp2_with fail
    refine HGC.out.mono ?_
    clear HGC
    rintro e v2 ⟨rfl, hb2⟩
    have hk2 := HK1.out.below hb2 hlt1
    have hb2' := HB1.out.trans (hb2.mono hz1)
    have HB2 := Lib.hid hb2'
    have HK2 := Lib.hid hk2
    have HG2 : Hid (GoesB v2 g gs) := Lib.hid (Blk.below HGO.out hb2 hg1z)
    have d0 := hk2.cell 0
    have d1 := hk2.cell 1
    have hz2 := hb2.size
    clear c0 c1 hb2 hb2' hk2 HK1 HGO HB1
    go_wp2_with fail
    go_loopw [35, 12, 14] (fun s35 s12 _ wr => ∃ k : Nat, k ≤ n ∧ s35 = .int .i64 k ∧ s12 = .int .i64 0 ∧ Below v2.heap.size v2 wr) (fun s35 _ _ _ => n - (intOf s35).toNat)
    case atStart => exact ⟨0, Nat.zero_le _, rfl, rfl, Below.refl _ _⟩
    case round =>
      clear d0 d1
      rename World => wr
      obtain ⟨k, hk, rfl, rfl, hb⟩ := hrel
      by_cases hlt : k < n
      · have hkl : k < l.length := by rw [HL.out]; exact hlt
        obtain ⟨b0, off, rfl, hb0, g0, g1, g2, g3⟩ := (HR.out.below (HB2.out.trans (hb.mono HB2.out.size))).at4 (f := fun a : Arc => .int .i64 a.f) (g := fun a : Arc => .int .i64 a.t) (p := fun a : Arc => .int .i64 a.m) (q := fun a : Arc => .int .i64 a.e) hkl
        have hge := HNEG.out _ (List.getElem_mem hkl)
        obtain ⟨⟨af, at_, am, ae⟩, ha⟩ : ∃ a, a = l[k] := ⟨_, rfl⟩
        rw [← ha] at g0 g1 g2 g3 hge
        simp only at g0 g1 g2 g3 hge
        have q3 := (Blk.new wr 45 #[.int .i64 af, .int .i64 at_, .int .i64 am, .int .i64 ae]).cell 3
        have HB3 := Lib.hid (hb.alloc (by exact hb.size) (.cells #[.int .i64 af, .int .i64 at_, .int .i64 am, .int .i64 ae] 45))
        have hd : decide (ae < 0) = false := decide_eq_false (by omega)
        clear hb ha hkl hge
        go_wp2_with fail
        go_roundw
        case rel => exact ⟨k + 1, by omega, by go_num, rfl, HB3.out⟩
        case measure => simp [intOf]; omega
      · obtain rfl : k = n := by omega
        have hk3 := HK2.out.below hb HK2.out.lt
        have hb3 := HB2.out.trans (hb.mono HB2.out.size)
        have hg3 : GoesB wr g gs := Blk.below HG2.out hb (Blk.lt HG2.out)
        have e0 := hk3.cell 0
        have e1 := hk3.cell 1
        have hvd : decide (value < 0) = false := decide_eq_false (by omega)
        have HC := Lib.hid (HCUT.out wr hb3)
        have HB3 := Lib.hid hb3
        have HK3 := Lib.hid hk3
        have HG3 := Lib.hid hg3
        have hz3 := hb3.size
        clear hb hk3 hb3 hg3
        go_wp2_with fail
        refine HC.out.mono ?_
        clear HC
        rintro e v4 ⟨hb4, b0, hbest, rfl⟩
        have hle := flow_cut hN10 HIN.out hs HF.out hbest
        obtain ⟨cs, hcs⟩ : ∃ cs, cs = cutSum (nw b0) l := ⟨_, rfl⟩
        rw [← hcs] at hle ⊢
        have hcd : decide (cs < value) = false := decide_eq_false (by omega)
        have hk4 := HK3.out.below hb4 HK3.out.lt
        have hb4' := HB3.out.trans (hb4.mono hz3)
        have hg4 : GoesB v4 g gs := Blk.below HG3.out hb4 (Blk.lt HG3.out)
        have f0 := hk4.cell 0
        have f1 := hk4.cell 1
        have HFL := Lib.hid (HFLO.out v4 g gs value hb4' (Blk.lt hg4) hg4 HF.out)
        have HB4 := Lib.hid hb4'
        have HK4 := Lib.hid hk4
        have HG4 := Lib.hid hg4
        have hz4 := hb4'.size
        clear hb4 hk4 hb4' hg4 hbest hle hcs e0 e1
        go_wp2_with fail
        refine HFL.out.mono ?_
        clear HFL
        rintro e v5 ⟨rfl, hb5⟩
        have hk5 := HK4.out.below hb5 HK4.out.lt
        have hb5' := HB4.out.trans (hb5.mono hz4)
        have hg5 : GoesB v5 g gs := Blk.below HG4.out hb5 (Blk.lt HG4.out)
        have f0 := hk5.cell 0
        have f1 := hk5.cell 1
        have hcos := HCOS.out v5 g gs hb5' (Blk.lt hg5) hg5 HF.out.cap
        rw [← HCC.out] at hcos
        have HCO := Lib.hid hcos
        have HB5 := Lib.hid hb5'
        have HK5 := Lib.hid hk5
        have HG5 := Lib.hid hg5
        have hz5 := hb5'.size
        have hvv : (value == value) = true := by simp
        have hcc : (cc == cc) = true := by simp
        clear hb5 hk5 hb5' hg5 hcos
        go_wp2_with fail
        refine HCO.out.mono ?_
        clear HCO
        rintro e v6 ⟨rfl, hb6⟩
        have hk6 := HK5.out.below hb6 HK5.out.lt
        have hb6' := HB5.out.trans (hb6.mono hz5)
        have hg6 : GoesB v6 g gs := Blk.below HG5.out hb6 (Blk.lt HG5.out)
        have f0 := hk6.cell 0
        have f1 := hk6.cell 1
        have HCH := Lib.hid (HCHE.out v6 g gs hb6' (Blk.lt hg6) hg6 HF.out.cap HP.out)
        have HB6 := Lib.hid hb6'
        have hz6 := hb6'.size
        clear hb6 hk6 hb6' hg6
        go_wp2_with fail
        refine HCH.out.mono ?_
        clear HCH
        rintro e v7 ⟨rfl, hb7⟩
        have HB7 := Lib.hid (HB6.out.trans (hb7.mono hz6))
        clear hb7
        go_wp2_with fail
        go_ret
        exact ⟨rfl, HB7.out⟩
  · have HF := Lib.hid hf
    have HP3 := Lib.hid (And.intro p1 (And.intro p2 p3))
    clear hf p1 p2 p3
    go_wp2_with fail
    refine HGC.out.mono ?_
    clear HGC
    rintro e v2 ⟨rfl, hb2⟩
    have hk2 := HK1.out.below hb2 hlt1
    have hb2' := HB1.out.trans (hb2.mono hz1)
    have HB2 := Lib.hid hb2'
    have HK2 := Lib.hid hk2
    have d0 := hk2.cell 0
    have d1 := hk2.cell 1
    clear c0 c1 hb2 hb2' hk2 HK1 HB1
    go_wp2_with fail
    go_loopw [35, 12, 14] (fun s35 s12 _ wr => ∃ k : Nat, k ≤ n ∧ s35 = .int .i64 k ∧ s12 = .int .i64 0 ∧ Below v2.heap.size v2 wr) (fun s35 _ _ _ => n - (intOf s35).toNat)
    case atStart => exact ⟨0, Nat.zero_le _, rfl, rfl, Below.refl _ _⟩
    case round =>
      clear d0 d1
      rename World => wr
      obtain ⟨k, hk, rfl, rfl, hb⟩ := hrel
      by_cases hlt : k < n
      · have hkl : k < l.length := by rw [HL.out]; exact hlt
        obtain ⟨b0, off, rfl, hb0, g0, g1, g2, g3⟩ := (HR.out.below (HB2.out.trans (hb.mono HB2.out.size))).at4 (f := fun a : Arc => .int .i64 a.f) (g := fun a : Arc => .int .i64 a.t) (p := fun a : Arc => .int .i64 a.m) (q := fun a : Arc => .int .i64 a.e) hkl
        have hge := HNEG.out _ (List.getElem_mem hkl)
        obtain ⟨⟨af, at_, am, ae⟩, ha⟩ : ∃ a, a = l[k] := ⟨_, rfl⟩
        rw [← ha] at g0 g1 g2 g3 hge
        simp only at g0 g1 g2 g3 hge
        have q3 := (Blk.new wr 45 #[.int .i64 af, .int .i64 at_, .int .i64 am, .int .i64 ae]).cell 3
        have HB3 := Lib.hid (hb.alloc (by exact hb.size) (.cells #[.int .i64 af, .int .i64 at_, .int .i64 am, .int .i64 ae] 45))
        have hd : decide (ae < 0) = false := decide_eq_false (by omega)
        clear hb ha hkl hge
        go_wp2_with fail
        go_roundw
        case rel => exact ⟨k + 1, by omega, by go_num, rfl, HB3.out⟩
        case measure => simp [intOf]; omega
      · obtain rfl : k = n := by omega
        have hk3 := HK2.out.below hb HK2.out.lt
        have hb3 := HB2.out.trans (hb.mono HB2.out.size)
        have e0 := hk3.cell 0
        have e1 := hk3.cell 1
        have hvd : decide (value < 0) = false := decide_eq_false (by omega)
        have HC := Lib.hid (HCUT.out wr hb3)
        have HB3 := Lib.hid hb3
        have hz3 := hb3.size
        clear hb hk3 hb3
        go_wp2_with fail
        refine HC.out.mono ?_
        clear HC
        rintro e v4 ⟨hb4, b0, hbest, rfl⟩
        obtain ⟨p1, p2, p3⟩ := HP3.out
        have hcut := most_cut hN10 HIN.out hs ht HF.out p1 p2 p3 hbest
        rw [hcut]
        have hcd : decide (v < value) = true := decide_eq_true hvv
        have HB4 := Lib.hid (HB3.out.trans (hb4.mono hz3))
        clear hb4 hbest hcut p1 p2 p3
        go_wp2_with fail
        go_ret
        exact ⟨rfl, HB4.out⟩
theorem law_FeeLeast (N s t value : Int) (A : Option Addr) (n c : Nat) (l : List Arc) (w : World) (hvb : value < 9223372036854775808) (hl : l.length = n) (hn : n ≤ maxLen) (hr : Els w w.heap.size 4 Arc.cells A l) :
    Calls Try.prog 4 #[.agg #[.int .i64 N, .slice A n c], .int .i64 s, .int .i64 t, .int .i64 value] w fun e w' => e = .returned (.bool true) ∧ Below w.heap.size w w' := by
  by_cases h0 : feeWrong N l s t value = 0
  · obtain ⟨he, hv0, hneg⟩ := wrong_ok h0
    obtain ⟨hn0, M, a, b, rfl, rfl, rfl, ha, hb, hab⟩ := ends_ok he
    obtain ⟨M', hM, hok⟩ := net_ok hn0
    obtain rfl : M = M' := by omega
    exact law_FeeLeast_ok M a b value A n c l w h0 he hv0 hvb hneg hok ha hb hab hl hr
  · exact law_FeeLeast_bad N s t value A n c l w h0 hl hn hr
theorem FeeLeast_row (N : Int) (C : Sls (Int × Int × Int × Int)) (s t value : Int) (w : World) (_hN : OkI N) (h : C.Good w w.heap.size 4 (fun p => [.int .i64 p.1, .int .i64 p.2.1, .int .i64 p.2.2.1, .int .i64 p.2.2.2]) (fun p => OkI p.1 ∧ OkI p.2.1 ∧ OkI p.2.2.1 ∧ OkI p.2.2.2)) (_hs : OkI s) (_ht : OkI t) (hv : OkI value) :
    Calls Try.prog 4 #[.agg #[.int .i64 N, C.val], .int .i64 s, .int .i64 t, .int .i64 value] w fun e w' => e = .returned (.bool true) ∧ Below w.heap.size w w' :=
  law_FeeLeast N s t value C.A C.l.length C.c (C.l.map Arc.of) w (by unfold OkI at hv; omega) (by simp) h.1 (h.2.2.1.map_ Arc.of fun _ _ => rfl)
end Go.Proofs.Ytjkfogkpacmdlaa
