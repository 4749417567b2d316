/- As much as can go: the statement's walk. Conditions: none. -/
import Derived.Test.YtodbhgbgeiailaaFlowJ
import Derived.Test.YtodbhgbgeiailaaFlowF
import Derived.Test.YtodbhgbgeiailaaFlowR
namespace Go.Proofs.Ytodbhgbgeiailaa
open Go.RowKit

set_option maxRecDepth 100000 in
set_option maxHeartbeats 1000000 in
theorem flow_Most_bad (N s t : Int) (A : Option Addr) (n c : Nat) (l : List Arc) (w : World) (hl : l.length = n) (hn : n ≤ maxLen) (he : endsCheck N l s t ≠ 0) (hr : Els w w.heap.size 4 Arc.cells A l) :
    Calls Try.prog 13 #[.agg #[.int .i64 N, .slice A n c], .int .i64 s, .int .i64 t] w fun e w' => e = .returned (.tuple #[.int .i64 0, .slice none 0 0, .int .i64 (endsCheck N l s t)]) ∧ Below w.heap.size w w' := by
  have HE : Hid (Calls Try.prog 44 #[.agg #[.int .i64 N, .slice A n c], .int .i64 s, .int .i64 t] (w.alloc (.cells #[.int .i64 N, .slice A n c] 24)) fun e w' => e = .returned (.int .i64 (endsCheck N l s t)) ∧ Below (w.heap.size + 1) (w.alloc (.cells #[.int .i64 N, .slice A n c] 24)) w') := by
    have := flow_Ends N s t A n c l (w.alloc (.cells #[.int .i64 N, .slice A n c] 24)) hl hn ((hr.alloc (Nat.le_refl _) _).more (by rw [size_alloc']; omega))
    rwa [size_alloc'] at this
  have HB0 := Lib.hid ((Below.refl w.heap.size w).alloc (Nat.le_refl _) (.cells #[.int .i64 N, .slice A n c] 24))
  have h1 : (endsCheck N l s t != 0) = true := by simpa using he
  generalize endsCheck N l s t = x at HE h1
  clear hl hn hr he
  go_enter Try.func13, Try.ntmps13
  go_wp2_with fail
  refine HE.out.mono ?_
  clear HE
  rintro e v1 ⟨rfl, hb1⟩
  have HB1 := Lib.hid (HB0.out.trans (hb1.mono (by omega)))
  clear hb1 HB0
  go_wp2_with fail
  go_ret3
  exact ⟨rfl, HB1.out⟩
set_option maxRecDepth 100000 in
set_option maxHeartbeats 1000000 in
theorem flow_Most (N s t : Nat) (A : Option Addr) (m c : Nat) (l : List Arc) (w : World) (hl : l.length = m) (hok : NetOk N l) (he : endsCheck N l s t = 0) (hs : s < N) (ht : t < N) (hst : s ≠ t) (hr : Els w w.heap.size 4 Arc.cells A l) :
    Calls Try.prog 13 #[.agg #[.int .i64 N, .slice A m c], .int .i64 s, .int .i64 t] w fun e w' => ∃ (g : Nat) (gs : List Int) (v : Int), e = .returned (.tuple #[.int .i64 v, .slice (some ⟨g, 0, none⟩) m m, .int .i64 0]) ∧ Below w.heap.size w w' ∧ w.heap.size ≤ g ∧ GoesB w' g gs ∧ 0 ≤ v ∧ FlowV N l gs s t v ∧ ∃ p : Int → Bool, p s = true ∧ p t = false ∧ capP p l = v := by
  have hN10 := hok.small
  have hn30 : m ≤ 30 := by rw [← hl]; exact hok.few
  have HE : Hid (Calls Try.prog 44 #[.agg #[.int .i64 N, .slice A m c], .int .i64 s, .int .i64 t] (w.alloc (.cells #[.int .i64 N, .slice A m c] 24)) fun e w' => e = .returned (.int .i64 0) ∧ Below (w.heap.size + 1) (w.alloc (.cells #[.int .i64 N, .slice A m c] 24)) w') := by
    have := flow_Ends N s t A m c l (w.alloc (.cells #[.int .i64 N, .slice A m c] 24)) hl (by unfold maxLen; omega) ((hr.alloc (Nat.le_refl _) _).more (by rw [size_alloc']; omega))
    rwa [size_alloc', he] at this
  have hin : InN N l := fun a ha => by
    obtain ⟨h1, h2, h3, h4, h5, _⟩ := hok.arcs a ha
    exact ⟨h1, h2, h3, h4, h5⟩
  have hM : ∀ a ∈ l, 0 ≤ a.m ∧ a.m ≤ 1048576 := fun a ha => by
    obtain ⟨_, _, _, _, _, h1, h2, _⟩ := hok.arcs a ha
    exact ⟨h1, h2⟩
  have HFILL : Hid (∀ v, Below w.heap.size w v → Calls Try.prog 45 #[.agg #[.int .i64 N, .slice A m c], .int .i64 s, .int .i64 t] v fun e w' => ∃ (g : Nat) (gs : List Int) (u : Int), e = .returned (.tuple #[.int .i64 u, .slice (some ⟨g, 0, none⟩) m m]) ∧ Below v.heap.size v w' ∧ v.heap.size ≤ g ∧ GoesB w' g gs ∧ 0 ≤ u ∧ FlowV N l gs s t u ∧ ∃ p : Int → Bool, p s = true ∧ p t = false ∧ capP p l = u) := by
    intro v hv
    exact flow_Fill N m c A l s t v hl (by omega) (by omega) hin hs ht hst hM ((hr.below hv).more hv.size)
  have hb0 := (Below.refl w.heap.size w).alloc (Nat.le_refl _) (.cells #[.int .i64 N, .slice A m c] 24)
  have hk0 := Blk.new w 24 #[.int .i64 N, .slice A m c]
  obtain ⟨W1, hW1⟩ : ∃ W1, W1 = w.alloc (.cells #[.int .i64 N, .slice A m c] 24) := ⟨_, rfl⟩
  have hs1 : W1.heap.size = w.heap.size + 1 := by rw [hW1, size_alloc']
  rw [← hW1] at hb0 hk0
  have c0 := hk0.cell 0
  have c1 := hk0.cell 1
  rw [hW1] at c0 c1
  have HB0 := Lib.hid hb0
  have HK0 := Lib.hid hk0
  have HW1 := Lib.hid hW1
  have HS1 := Lib.hid hs1
  clear hb0 hk0 hs1 hW1 hin hM hok hr hl he
  go_enter Try.func13, Try.ntmps13
  go_wp2_with fail
  refine HE.out.mono ?_
  clear HE
  rintro e v1 ⟨rfl, hb1⟩
  rw [← HW1.out] at hb1
  have hk1 := HK0.out.below hb1 (by omega)
  have d0 := hk1.cell 0
  have d1 := hk1.cell 1
  have HB1 := Lib.hid (HB0.out.trans (hb1.mono (by omega)))
  have hz1 := hb1.size
  rw [HS1.out] at hz1
  clear hb1 HB0 hk1
  go_wp2_with fail
  refine (HFILL.out v1 HB1.out).mono ?_
  rintro e v2 ⟨g, gs, v, rfl, hb2, hg, hgo, h0, hfv, hp⟩
  have HB2 := Lib.hid (HB1.out.trans (hb2.mono (by omega)))
  have HGO := Lib.hid hgo
  have HFV := Lib.hid hfv
  have HP := Lib.hid hp
  clear hb2 hgo hfv hp HB1 HFILL
  go_wp2_with fail
  go_ret3
  exact ⟨g, gs, v, rfl, HB2.out, by omega, HGO.out, h0, HFV.out, HP.out⟩
set_option maxRecDepth 100000 in
set_option maxHeartbeats 1000000 in
theorem law_FlowMost (N : Int) (A : Option Addr) (n c : Nat) (l : List Arc) (s t : Int) (W : World) (hn : l.length = n) (hm : n ≤ maxLen) (hr : Els W W.heap.size 4 Arc.cells A l) :
    Calls Try.prog 3 #[.agg #[.int .i64 N, .slice A n c], .int .i64 s, .int .i64 t] W fun e w' => e = .returned (.bool true) ∧ Below W.heap.size W w' := by
  have hb0 := (Below.refl W.heap.size W).alloc (Nat.le_refl _) (.cells #[.int .i64 N, .slice A n c] 24)
  have hk0 := Blk.new W 24 #[.int .i64 N, .slice A n c]
  obtain ⟨W1, hW1⟩ : ∃ W1, W1 = W.alloc (.cells #[.int .i64 N, .slice A n c] 24) := ⟨_, rfl⟩
  have hs1 : W1.heap.size = W.heap.size + 1 := by rw [hW1, size_alloc']
  rw [← hW1] at hb0 hk0
  have HB0 := Lib.hid hb0
  have HK0 := Lib.hid hk0
  by_cases he : endsCheck N l s t = 0
  · obtain ⟨h0, M, a, b, rfl, rfl, rfl, ha, hb, hab⟩ := ends_ok he
    obtain ⟨M', hM, hok⟩ := net_ok h0
    obtain rfl : M = M' := by omega
    have hN10 := hok.small
    have hn30 : n ≤ 30 := by rw [← hn]; exact hok.few
    have hin : InN M l := fun a ha => by
      obtain ⟨h1, h2, h3, h4, h5, _⟩ := hok.arcs a ha
      exact ⟨h1, h2, h3, h4, h5⟩
    have hMM : ∀ a ∈ l, 0 ≤ a.m ∧ a.m ≤ 1048576 := fun a ha => by
      obtain ⟨_, _, _, _, _, h1, h2, _⟩ := hok.arcs a ha
      exact ⟨h1, h2⟩
    have HC := Lib.hid (flow_Most M a b A n c l W1 hn hok he ha hb hab ((hr.below hb0).more (by omega)))
    have HE : Hid (∀ v, Below W1.heap.size W1 v → Calls Try.prog 14 #[.agg #[.int .i64 M, .slice A n c], .int .i64 a, .int .i64 b] v fun e w' => e = .returned (.int .i64 0) ∧ Below v.heap.size v w') := by
      intro v hv
      have hvs := hv.size
      have := ref_EndsCheck M a b A n c l v hn hm ((hr.below (hb0.trans (hv.mono (by omega)))).more (by omega))
      rwa [he] at this
    have HR : Hid (∀ v, Below W1.heap.size W1 v → Calls Try.prog 16 #[.agg #[.int .i64 M, .slice A n c], .int .i64 a, .int .i64 b] v fun e w' => Below v.heap.size v w' ∧ ∃ b0, BestCut l a b (· < 2 ^ M) b0 ∧ e = .returned (.tuple #[.int .u32 (wN (nw b0)), .int .i64 (cutSum (nw b0) l)])) := by
      intro v hv
      have hvs := hv.size
      exact ref_Cut M a b A n c l v hn hok ha hb hab ((hr.below (hb0.trans (hv.mono (by omega)))).more (by omega))
    have HFL : Hid (∀ (v : World) (g : Nat) (gs : List Int) (x : Int), Below W1.heap.size W1 v → g < v.heap.size → GoesB v g gs → FlowV M l gs a b x → Calls Try.prog 15 #[.agg #[.int .i64 M, .slice A n c], .slice (some ⟨g, 0, none⟩) n n, .int .i64 a, .int .i64 b] v fun e w' => e = .returned (.tuple #[.int .i64 x, .bool true]) ∧ Below v.heap.size v w') := by
      intro v g gs x hv hg hgo hf
      have hvs := hv.size
      exact ref_Flows M n c n A (some ⟨g, 0, none⟩) l gs a b x v hn (by omega) (by omega) hin ha hf hMM ((hr.below (hb0.trans (hv.mono (by omega)))).more (by omega)) (hgo.els hg)
    have HIN := Lib.hid hin
    rw [hW1] at HC
    clear he h0 hM hok hab hm hn hr hb0 hk0 hin hMM
    go_enter Try.func3, Try.ntmps3
    go_wp2_with fail
    refine HC.out.mono ?_
    clear HC
    rintro e v1 ⟨g, gs, x, rfl, hb1, hg1, hgo1, hx0, hfv, p, hp1, hp2, hp3⟩
    rw [← hW1] at hb1 hg1
    have HFV := Lib.hid hfv
    have HP3 := Lib.hid hp3
    have HB1 := Lib.hid hb1
    have HGO1 := Lib.hid hgo1
    have hz1 := hb1.size
    have hk1 := HK0.out.below hb1 (by omega)
    have c0 := hk1.cell 0
    have c1 := hk1.cell 1
    have HE1 := Lib.hid (HE.out v1 hb1)
    clear hb1 hfv hp3 hgo1 hk1 HE hW1
    go_wp2_with fail
    refine HE1.out.mono ?_
    clear HE1
    rintro e v2 ⟨rfl, hb2⟩
    have hb2' := HB1.out.trans (hb2.mono hz1)
    have hgo2 : GoesB v2 g gs := Blk.below HGO1.out hb2 (Blk.lt HGO1.out)
    have HB2 := Lib.hid hb2'
    have HGO2 := Lib.hid hgo2
    have hz2 := hb2'.size
    have hk2 := HK0.out.below hb2' (by omega)
    have d0 := hk2.cell 0
    have d1 := hk2.cell 1
    have HF2 := Lib.hid (HFL.out v2 g gs x hb2' (Blk.lt hgo2) hgo2 HFV.out)
    clear hb2 hb2' hk2 HFL c0 c1 HB1 hgo2
    go_wp2_with fail
    refine HF2.out.mono ?_
    clear HF2
    rintro e v3 ⟨rfl, hb3⟩
    have hb3' := HB2.out.trans (hb3.mono hz2)
    have HB3 := Lib.hid hb3'
    have hz3 := hb3'.size
    have hk3 := HK0.out.below hb3' (by omega)
    have e0 := hk3.cell 0
    have e1 := hk3.cell 1
    have HR3 := Lib.hid (HR.out v3 hb3')
    clear hb3 hb3' hk3 HR d0 d1 HB2
    go_wp2_with fail
    refine HR3.out.mono ?_
    clear HR3
    rintro e v4 ⟨hb4, b2, hbest2, rfl⟩
    have hcut : cutSum (nw b2) l = x := most_cut hN10 HIN.out ha hb HFV.out hp1 hp2 HP3.out hbest2
    have HB4 := Lib.hid (HB0.out.trans ((HB3.out.trans (hb4.mono hz3)).mono (by omega)))
    rw [hcut]
    have h2 : (x == x) = true := by simp
    clear hb4 hbest2 hcut
    go_wp2_with fail
    go_ret
    exact ⟨rfl, HB4.out⟩
  · have HC := Lib.hid (flow_Most_bad N s t A n c l W1 hn hm he ((hr.below hb0).more (by omega)))
    have HE : Hid (∀ v, Below W1.heap.size W1 v → Calls Try.prog 14 #[.agg #[.int .i64 N, .slice A n c], .int .i64 s, .int .i64 t] v fun e w' => e = .returned (.int .i64 (endsCheck N l s t)) ∧ Below v.heap.size v w') := by
      intro v hv
      have hvs := hv.size
      exact ref_EndsCheck N s t A n c l v hn hm ((hr.below (hb0.trans (hv.mono (by omega)))).more (by omega))
    have h1 : (endsCheck N l s t != 0) = true := by simpa using he
    have h2 : (endsCheck N l s t == endsCheck N l s t) = true := by simp
    generalize endsCheck N l s t = x at HC HE h1 h2
    rw [hW1] at HC
    clear he hm hn hr hb0 hk0
    go_enter Try.func3, Try.ntmps3
    go_wp2_with fail
    refine HC.out.mono ?_
    clear HC
    rintro e v1 ⟨rfl, hb1⟩
    rw [← hW1] at hb1
    have HB1 := Lib.hid hb1
    have hz1 := hb1.size
    have hk1 := HK0.out.below hb1 (by omega)
    have c0 := hk1.cell 0
    have c1 := hk1.cell 1
    have HE1 := Lib.hid (HE.out v1 hb1)
    clear hb1 hk1 HE hW1
    go_wp2_with fail
    refine HE1.out.mono ?_
    clear HE1
    rintro e v2 ⟨rfl, hb2⟩
    have HB2 := Lib.hid (HB0.out.trans ((HB1.out.trans (hb2.mono hz1)).mono (by omega)))
    clear hb2
    go_wp2_with fail
    go_ret
    exact ⟨rfl, HB2.out⟩
theorem FlowMost_row (N : Int) (C : Sls (Int × Int × Int × Int)) (s t : Int) (w : World) (_hN : OkI N) (h : C.Good w w.heap.size 4 (fun p => [.int .i64 p.1, .int .i64 p.2.1, .int .i64 p.2.2.1, .int .i64 p.2.2.2]) (fun p => OkI p.1 ∧ OkI p.2.1 ∧ OkI p.2.2.1 ∧ OkI p.2.2.2)) (_hs : OkI s) (_ht : OkI t) :
    Calls Try.prog 3 #[.agg #[.int .i64 N, C.val], .int .i64 s, .int .i64 t] w fun e w' => e = .returned (.bool true) ∧ Below w.heap.size w w' :=
  law_FlowMost N C.A C.l.length C.c (C.l.map Arc.of) s t w (by simp) h.1 (h.2.2.1.map_ Arc.of fun _ _ => rfl)
end Go.Proofs.Ytodbhgbgeiailaa
