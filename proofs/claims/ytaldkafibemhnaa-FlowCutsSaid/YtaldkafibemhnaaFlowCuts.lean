/- The smallest cut: the statement's walk. Conditions: none. -/
import Derived.Test.YtaldkafibemhnaaCutB
namespace Go.Proofs.Ytaldkafibemhnaa
open Go.RowKit
attribute [local go_sem] w_eq0 w_ne0 w_eq1 w_eq w_ne

set_option maxRecDepth 100000 in
set_option maxHeartbeats 1000000 in
theorem flow_Cut_bad (N s t : Int) (A : Option Addr) (n c : Nat) (l : List Arc) (w : World) (hl : l.length = n) (hn : n ≤ maxLen) (he : endsCheck N l s t ≠ 0) (hr : Els w w.heap.size 4 Arc.cells A l) :
    Calls Try.prog 38 #[.agg #[.int .i64 N, .slice A n c], .int .i64 s, .int .i64 t] w fun e w' => e = .returned (.tuple #[.int .u32 0, .int .i64 0, .int .i64 (endsCheck N l s t)]) ∧ Below w.heap.size w w' := by
  have HE : Hid (Calls Try.prog 62 #[.agg #[.int .i64 N, .slice A n c], .int .i64 s, .int .i64 t] (w.alloc (.cells #[.int .i64 N, .slice A n c] 24)) fun e w' => e = .returned (.int .i64 (endsCheck N l s t)) ∧ Below (w.heap.size + 1) (w.alloc (.cells #[.int .i64 N, .slice A n c] 24)) w') := by
    have := flow_Ends N s t A n c l (w.alloc (.cells #[.int .i64 N, .slice A n c] 24)) hl hn ((hr.alloc (Nat.le_refl _) _).more (by rw [size_alloc']; omega))
    rwa [size_alloc'] at this
  have HB0 := Lib.hid ((Below.refl w.heap.size w).alloc (Nat.le_refl _) (.cells #[.int .i64 N, .slice A n c] 24))
  have h1 : (endsCheck N l s t != 0) = true := by simpa using he
  generalize endsCheck N l s t = x at HE h1
  clear hl hn hr he
  go_enter Try.func38, Try.ntmps38
  go_wp2_with fail
  refine HE.out.mono ?_
  clear HE
  rintro e v1 ⟨rfl, hb1⟩
  have HB1 := Lib.hid (HB0.out.trans (hb1.mono (by omega)))
  clear hb1 HB0
  go_wp2_with fail
  go_ret3
  exact ⟨rfl, HB1.out⟩
set_option maxRecDepth 100000 in
set_option maxHeartbeats 1000000 in
theorem law_FlowCuts (N : Int) (A : Option Addr) (n c : Nat) (l : List Arc) (s t : Int) (W : World) (hn : l.length = n) (hm : n ≤ maxLen) (hr : Els W W.heap.size 4 Arc.cells A l) :
    Calls Try.prog 13 #[.agg #[.int .i64 N, .slice A n c], .int .i64 s, .int .i64 t] W fun e w' => e = .returned (.bool true) ∧ Below W.heap.size W w' := by
  have hb0 := (Below.refl W.heap.size W).alloc (Nat.le_refl _) (.cells #[.int .i64 N, .slice A n c] 24)
  have hk0 := Blk.new W 24 #[.int .i64 N, .slice A n c]
  obtain ⟨W1, hW1⟩ : ∃ W1, W1 = W.alloc (.cells #[.int .i64 N, .slice A n c] 24) := ⟨_, rfl⟩
  have hs1 : W1.heap.size = W.heap.size + 1 := by rw [hW1, size_alloc']
  rw [← hW1] at hb0 hk0
  have HB0 := Lib.hid hb0
  have HK0 := Lib.hid hk0
  by_cases he : endsCheck N l s t = 0
  · obtain ⟨h0, M, a, b, rfl, rfl, rfl, ha, hb, hab⟩ := ends_ok he
    obtain ⟨M', hM, hok⟩ := net_ok h0
    obtain rfl : M = M' := by omega
    have HC := Lib.hid (flow_Cut M a b A n c l W1 hn hok he ha hb hab ((hr.below hb0).more (by omega)))
    have HE : Hid (∀ v, Below W1.heap.size W1 v → Calls Try.prog 39 #[.agg #[.int .i64 M, .slice A n c], .int .i64 a, .int .i64 b] v fun e w' => e = .returned (.int .i64 0) ∧ Below v.heap.size v w') := by
      intro v hv
      have hvs := hv.size
      have := ref_EndsCheck M a b A n c l v hn hm ((hr.below (hb0.trans (hv.mono (by omega)))).more (by omega))
      rwa [he] at this
    have HR : Hid (∀ v, Below W1.heap.size W1 v → Calls Try.prog 40 #[.agg #[.int .i64 M, .slice A n c], .int .i64 a, .int .i64 b] v fun e w' => Below v.heap.size v w' ∧ ∃ b0, BestCut l a b (· < 2 ^ M) b0 ∧ e = .returned (.tuple #[.int .u32 (wN (nw b0)), .int .i64 (cutSum (nw b0) l)])) := by
      intro v hv
      have hvs := hv.size
      exact ref_Cut M a b A n c l v hn hok ha hb hab ((hr.below (hb0.trans (hv.mono (by omega)))).more (by omega))
    rw [hW1] at HC
    clear he h0 hM hok ha hb hab hm hn hr hb0 hk0
    go_enter Try.func13, Try.ntmps13
    go_wp2_with fail
    refine HC.out.mono ?_
    clear HC
    rintro e v1 ⟨hb1, b1, hbest1, rfl⟩
    rw [← hW1] at hb1
    have HBE := Lib.hid hbest1
    have HB1 := Lib.hid hb1
    have hz1 := hb1.size
    have hk1 := HK0.out.below hb1 (by omega)
    have c0 := hk1.cell 0
    have c1 := hk1.cell 1
    have HE1 := Lib.hid (HE.out v1 hb1)
    clear hb1 hbest1 hk1 HE hW1
    go_wp2_with fail
    refine HE1.out.mono ?_
    clear HE1
    rintro e v2 ⟨rfl, hb2⟩
    have hb2' := HB1.out.trans (hb2.mono hz1)
    have HB2 := Lib.hid hb2'
    have hz2 := hb2'.size
    have hk2 := HK0.out.below hb2' (by omega)
    have d0 := hk2.cell 0
    have d1 := hk2.cell 1
    have HR2 := Lib.hid (HR.out v2 hb2')
    clear hb2 hb2' hk2 HR c0 c1 HB1
    go_wp2_with fail
    refine HR2.out.mono ?_
    clear HR2
    rintro e v3 ⟨hb3, b2, hbest2, rfl⟩
    obtain rfl : b1 = b2 := HBE.out.unique hbest2
    have HB3 := Lib.hid (HB0.out.trans ((HB2.out.trans (hb3.mono hz2)).mono (by omega)))
    have h1 : (nw b1 == nw b1) = true := by simp
    have h2 : (cutSum (nw b1) l == cutSum (nw b1) l) = true := by simp
    generalize nw b1 = x at h1 h2
    generalize cutSum x l = z at h2
    clear hb3 hbest2 HBE
    go_wp2_with fail
    go_ret
    exact ⟨rfl, HB3.out⟩
  · have HC := Lib.hid (flow_Cut_bad N s t A n c l W1 hn hm he ((hr.below hb0).more (by omega)))
    have HE : Hid (∀ v, Below W1.heap.size W1 v → Calls Try.prog 39 #[.agg #[.int .i64 N, .slice A n c], .int .i64 s, .int .i64 t] v fun e w' => e = .returned (.int .i64 (endsCheck N l s t)) ∧ Below v.heap.size v w') := by
      intro v hv
      have hvs := hv.size
      exact ref_EndsCheck N s t A n c l v hn hm ((hr.below (hb0.trans (hv.mono (by omega)))).more (by omega))
    have h1 : (endsCheck N l s t != 0) = true := by simpa using he
    have h2 : (endsCheck N l s t == endsCheck N l s t) = true := by simp
    generalize endsCheck N l s t = x at HC HE h1 h2
    rw [hW1] at HC
    clear he hm hn hr hb0 hk0
    go_enter Try.func13, Try.ntmps13
    go_wp2_with fail
    refine HC.out.mono ?_
    clear HC
    rintro e v1 ⟨rfl, hb1⟩
    rw [← hW1] at hb1
    have HB1 := Lib.hid hb1
    have hz1 := hb1.size
    have hk1 := HK0.out.below hb1 (by omega)
    have c0 := hk1.cell 0
    have c1 := hk1.cell 1
    have HE1 := Lib.hid (HE.out v1 hb1)
    clear hb1 hk1 HE hW1
    go_wp2_with fail
    refine HE1.out.mono ?_
    clear HE1
    rintro e v2 ⟨rfl, hb2⟩
    have HB2 := Lib.hid (HB0.out.trans ((HB1.out.trans (hb2.mono hz1)).mono (by omega)))
    clear hb2
    go_wp2_with fail
    go_ret
    exact ⟨rfl, HB2.out⟩
theorem FlowCuts_row (N : Int) (C : Sls (Int × Int × Int × Int)) (s t : Int) (w : World) (_hN : OkI N) (h : C.Good w w.heap.size 4 (fun p => [.int .i64 p.1, .int .i64 p.2.1, .int .i64 p.2.2.1, .int .i64 p.2.2.2]) (fun p => OkI p.1 ∧ OkI p.2.1 ∧ OkI p.2.2.1 ∧ OkI p.2.2.2)) (_hs : OkI s) (_ht : OkI t) :
    Calls Try.prog 13 #[.agg #[.int .i64 N, C.val], .int .i64 s, .int .i64 t] w fun e w' => e = .returned (.bool true) ∧ Below w.heap.size w w' :=
  law_FlowCuts N C.A C.l.length C.c (C.l.map Arc.of) s t w (by simp) h.1 (h.2.2.1.map_ Arc.of fun _ _ => rfl)
end Go.Proofs.Ytaldkafibemhnaa
