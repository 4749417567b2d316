/- The cheapest flow of a value: the program. Conditions: the arcs read as a list. -/
import Derived.Test.YtjkfogkpacmdlaaFeeLeast24
import Derived.Test.YtjkfogkpacmdlaaFeeLeast25
import Derived.Test.YtjkfogkpacmdlaaFeeLeast26
import Derived.Test.YtjkfogkpacmdlaaFeeLeast36
import Derived.BigQuiet
namespace Go.Proofs.Ytjkfogkpacmdlaa
open Go.RowKit Go.Shelf

def feeNeg (a : Arc) : Bool := decide (a.e < 0)
def feeWrong (N : Int) (l : List Arc) (s t value : Int) : Int := if endsCheck N l s t ≠ 0 then endsCheck N l s t else if value < 0 then 4 else if l.any feeNeg then 4 else 0
theorem ent_fee1 : Ent Try.prog 50 := ent_of Try.func50 (by kernel_rfl) rfl
theorem fee_wrong1 (a : Arc) (w : World) :
    Calls Try.prog 50 #[.agg #[.int .i64 a.f, .int .i64 a.t, .int .i64 a.m, .int .i64 a.e]] w fun e w' => e = .returned (.bool (feeNeg a)) ∧ Below w.heap.size w w' := by
  obtain ⟨f, t, m, x⟩ := a
  have hb : Below w.heap.size w (w.alloc (.cells #[.int .i64 f, .int .i64 t, .int .i64 m, .int .i64 x] 45)) := (Below.refl _ _).alloc (Nat.le_refl _) _
  have c3 := (Blk.new w 45 #[.int .i64 f, .int .i64 t, .int .i64 m, .int .i64 x]).cell 3
  have HB := Lib.hid hb
  have hn : feeNeg ⟨f, t, m, x⟩ = decide (x < 0) := rfl
  rw [hn]
  clear hn hb
  go_enter Try.func50, Try.ntmps50
  go_wp2_with fail
  go_ret
  exact ⟨rfl, HB.out⟩
set_option maxRecDepth 100000 in
set_option maxHeartbeats 1000000 in
theorem fee_wrong (N s t value : Int) (A : Option Addr) (n c : Nat) (l : List Arc) (w : World) (hl : l.length = n) (hn : n ≤ maxLen) (hr : Els w w.heap.size 4 Arc.cells A l) :
    Calls Try.prog 28 #[.agg #[.int .i64 N, .slice A n c], .int .i64 s, .int .i64 t, .int .i64 value] w fun e w' => e = .returned (.int .i64 (feeWrong N l s t value)) ∧ Below w.heap.size w w' := by
  have hb0 := (Below.refl w.heap.size w).alloc (Nat.le_refl _) (.cells #[.int .i64 N, .slice A n c] 39)
  have hk0 := Blk.new w 39 #[.int .i64 N, .slice A n c]
  have HE := Lib.hid (flow_Ends N s t A n c l (w.alloc (.cells #[.int .i64 N, .slice A n c] 39)) hl hn ((hr.alloc (Nat.le_refl _) _).more (by rw [size_alloc']; omega)))
  have HCF : Hid (∀ v, Below w.heap.size w v → Calls Try.prog 49 #[.slice A n c, .func (.func 50) #[] #[]] v fun e w' => e = .returned (.bool (l.any feeNeg)) ∧ Below v.heap.size v w') := Lib.hid fun v hv =>
    ContainsFunc_arcs 50 ent_fee1 #[] feeNeg A n c l v hl hn ((hr.below hv).more hv.size) (fun a wx _ hb => by simpa using (fee_wrong1 a wx).mono fun e w' ⟨he, hw⟩ => ⟨he, hw.mono hb.size⟩)
  have hfw : feeWrong N l s t value = if endsCheck N l s t ≠ 0 then endsCheck N l s t else if value < 0 then 4 else if l.any feeNeg then 4 else 0 := rfl
  have HFW := Lib.hid hfw
  have HB0 := Lib.hid hb0
  have HK0 := Lib.hid hk0
  have c0 := hk0.cell 0
  have c1 := hk0.cell 1
  clear hl hn hr hb0 hk0 hfw
  obtain ⟨x, hx⟩ : ∃ x, x = endsCheck N l s t := ⟨_, rfl⟩
  obtain ⟨bb, hbb⟩ : ∃ bb, bb = l.any feeNeg := ⟨_, rfl⟩
  obtain ⟨fw, hfw⟩ : ∃ fw, fw = feeWrong N l s t value := ⟨_, rfl⟩
  rw [← hfw] at HFW ⊢
  rw [← hx] at HFW HE
  rw [← hbb] at HFW HCF
  clear hx hbb hfw
  go_enter Try.func28, Try.ntmps28
  go_wp2_with fail
  refine HE.out.mono ?_
  clear HE
  rintro e v1 ⟨rfl, hb1⟩
  have hk1 := HK0.out.below hb1 (by rw [size_alloc']; omega)
  have hb1' := HB0.out.trans (hb1.mono (by rw [size_alloc']; omega))
  have hz1 := hb1'.size
  have HB1 := Lib.hid hb1'
  have d0 := hk1.cell 0
  have d1 := hk1.cell 1
  clear c0 c1 hb1 hb1' hk1
  by_cases h0 : x = 0
  · have hx0 : (x != 0) = false := by simp [h0]
    have HF2 : Hid (fw = if value < 0 then 4 else if bb then 4 else 0) := Lib.hid (by rw [HFW.out, if_neg (by simp [h0])])
    clear HFW h0
    by_cases hv : value < 0
    · have HF3 : Hid (fw = 4) := Lib.hid (by rw [HF2.out, if_pos hv])
      have hvd : decide (value < 0) = true := decide_eq_true hv
      clear HF2
      go_wp2_with fail
      go_ret
      exact ⟨by rw [HF3.out]; rfl, HB1.out⟩
    · have HF3 : Hid (fw = if bb then 4 else 0) := Lib.hid (by rw [HF2.out, if_neg hv])
      have hvd : decide (value < 0) = false := decide_eq_false hv
      have HC := Lib.hid (HCF.out v1 HB1.out)
      clear HF2 HCF
      go_wp2_with fail
      refine HC.out.mono ?_
      clear HC
      rintro e v2 ⟨rfl, hb2⟩
      have HB2 := Lib.hid (HB1.out.trans (hb2.mono hz1))
      clear hb2
      cases bb with
      | true =>
        go_wp2_with fail
        go_ret
        exact ⟨by rw [HF3.out]; rfl, HB2.out⟩
      | false =>
        go_wp2_with fail
        go_ret
        exact ⟨by rw [HF3.out]; rfl, HB2.out⟩
  · have hx0 : (x != 0) = true := by simpa using h0
    have HF2 : Hid (fw = x) := Lib.hid (by rw [HFW.out, if_pos h0])
    clear HFW h0 HCF
    go_wp2_with fail
    go_ret
    exact ⟨by rw [HF2.out]; rfl, HB1.out⟩
theorem costF_le {N : Nat} : ∀ {l : List Arc} {gs : List Int}, CapOk l gs → (∀ a ∈ l, a.m ≤ 1048576 ∧ -1048576 ≤ a.e ∧ a.e ≤ 1048576) → -(1099511627776 * (l.length : Int)) ≤ costF l gs ∧ costF l gs ≤ 1099511627776 * (l.length : Int)
  | [], [], _, _ => by simp [costF]
  | a :: l, g :: gs, h, hm => by
    have h1 := costF_le (N := N) h.2 fun b hb => hm b (List.mem_cons_of_mem _ hb)
    obtain ⟨h2, h3⟩ := h.1
    obtain ⟨m1, m2, m3⟩ := hm a List.mem_cons_self
    have h4 : g * a.e ≤ 1048576 * 1048576 := by
      have := Int.mul_le_mul_of_nonneg_left m3 h2
      have h5 : g * 1048576 ≤ 1048576 * 1048576 := by omega
      omega
    have h6 : -(1048576 * 1048576) ≤ g * a.e := by
      have := Int.mul_le_mul_of_nonneg_left m2 h2
      have h5 : g * (-1048576) ≥ -(1048576 * 1048576) := by omega
      omega
    unfold costF
    rw [List.length_cons]
    omega
  | [], g :: gs, h, _ => h.elim
  | a :: l, [], h, _ => h.elim
end Go.Proofs.Ytjkfogkpacmdlaa
