/- What each one knows in the end: the program's words are the reference's; the statement's walk. Conditions: none. -/
import Derived.Test.YtaldkafibemhnaaNewsB
import Derived.Test.YtaldkafibemhnaaEq
import Derived.Test.YtaldkafibemhnaaOpen
namespace Go.Proofs.Ytaldkafibemhnaa
open Go.RowKit
attribute [local go_sem ↓] w_and w_or w_xor w_andNot w_and1 w_and255 w_xor1 w_or0 w_shl w_shl1 w_shr w_sub w_add w_sub1 w_add1
attribute [local go_sem] w_eq0 w_ne0 w_eq1 w_eq w_ne

theorem b_add {x : BitVec 32} {n : Nat} (hx : x.getLsbD n = false) (m : Nat) : (wAdd x (wShl w1 n)).getLsbD m = (x.getLsbD m || (wShl w1 n).getLsbD m) := by
  have h : x &&& wShl w1 n = 0#32 := by
    apply w_ext
    intro j hj
    have := b_and x (wShl w1 n) j
    unfold wAnd at this
    rw [this, b_one]
    by_cases hjn : j = n
    · subst hjn; simp [hx]
    · simp [hjn]
  unfold wAdd
  rw [BitVec.add_eq_or_of_and_eq_zero _ _ h]
  exact b_or x _ m
theorem refCell_bits (l : List Cl) (i : Nat) : ∀ (T : Nat), T ≤ 32 → ∀ b, (refCell l i T).getLsbD b = (decide (b < T) && hasB (knowsOf b l) i)
  | 0, _, b => by simp [refCell, b_0]
  | T + 1, hT, b => by
    have ih := refCell_bits l i T (by omega)
    rw [refCell]
    by_cases hk : hasB (knowsOf T l) i = true
    · rw [if_pos hk, b_add (by rw [ih]; simp), ih, b_one]
      by_cases hb : b = T
      · subst hb; simp [hk]; omega
      · have : (b < T + 1) = (b < T) := by rw [eq_iff_iff]; omega
        simp only [this, hb]; simp
    · rw [if_neg hk, ih]
      by_cases hb : b = T
      · subst hb; simp at hk; simp [hk]
      · have : (b < T + 1) = (b < T) := by rw [eq_iff_iff]; omega
        simp only [this]
theorem hasB_app (l : List Int) (a b x : Int) : hasB (l ++ [a, b]) x = (hasB l x || (a == x || b == x)) := by
  unfold hasB
  rw [List.any_append]
  congr 1
  simp only [List.any_cons, List.any_nil, Bool.or_false]
  rw [Bool.eq_iff_iff]
  simp
  omega
theorem know_bits (n : Nat) (hn : n ≤ 32) : ∀ (l : List Cl) (s : List (BitVec 32)) (f : Nat → List Int), s.length = n → (∀ c ∈ l, 0 ≤ c.1 ∧ c.1 < n ∧ 0 ≤ c.2 ∧ c.2 < n) →
    (∀ i, i < n → ∀ b, b < 32 → (lw s i).getLsbD b = (decide (b < n) && hasB (f b) i)) →
    ∀ i, i < n → ∀ b, b < 32 → (lw (l.foldl knowStep s) i).getLsbD b = (decide (b < n) && hasB (l.foldl knStep (f b)) i)
  | [], _, _, _, _, h => h
  | c :: l, s, f, hs, hc, h => by
    refine know_bits n hn l (knowStep s c) (fun b => knStep (f b) c) (by rw [knowStep_length, hs]) (fun d hd => hc d (by simp [hd])) fun i hi b hb => ?_
    have ⟨h1, h2, h3, h4⟩ := hc c (by simp)
    obtain ⟨ca, cb⟩ := c
    obtain ⟨p, rfl⟩ : ∃ p : Nat, ca = p := ⟨ca.toNat, by simp at h1; omega⟩
    obtain ⟨q, rfl⟩ : ∃ q : Nat, cb = q := ⟨cb.toNat, by simp at h3; omega⟩
    simp only at h1 h2 h3 h4
    have hp : p < n := by omega
    have hq : q < n := by omega
    have e1 := h p hp b hb
    have e2 := h q hq b hb
    have e0 := h i hi b hb
    have hlw : lw (knowStep s (↑p, ↑q)) i = if q = i ∨ p = i then wOr (lw s p) (lw s q) else lw s i := by
      unfold knowStep lw
      simp only [Int.toNat_natCast, List.getD_eq_getElem?_getD, List.getElem?_set, List.length_set, hs]
      by_cases hqi : q = i
      · simp [hqi, hi]
      · by_cases hpi : p = i
        · simp [hqi, hpi, hi]
        · simp [hqi, hpi]
    rw [hlw]
    have hkn : hasB (knStep (f b) (↑p, ↑q)) i = (hasB (f b) i || ((hasB (f b) p || hasB (f b) q) && (decide (p = i) || decide (q = i)))) := by
      unfold knStep
      simp only
      split
      · rename_i hh
        rw [hasB_app, hh]
        congr 1
        simp
        rw [Bool.eq_iff_iff]
        simp
        omega
      · rename_i hh
        simp only [Bool.not_eq_true] at hh
        rw [hh]
        simp
    rw [hkn]
    by_cases hpq : q = i ∨ p = i
    · rw [if_pos hpq, b_or, e1, e2]
      rcases hpq with rfl | rfl
      · cases hasB (f b) (q : Int) <;> cases hasB (f b) (p : Int) <;> simp
      · cases hasB (f b) (q : Int) <;> cases hasB (f b) (p : Int) <;> simp
    · rw [if_neg hpq, e0]
      have hp' : p ≠ i := fun h => hpq (.inr h)
      have hq' : q ≠ i := fun h => hpq (.inl h)
      simp [hp', hq']
theorem know_eq (n : Nat) (l : List Cl) (hn : n ≤ 8) (h : l.any (callBad n) = false) : knowW n l = refMid n l n 0 := by
  apply List.ext_getElem (by rw [knowW_length, refMid_length])
  intro i h1 h2
  have hi : i < n := by rwa [knowW_length] at h1
  rw [refMid_get n l n 0 i hi, if_neg (by omega), ← lw_at _ _ h1]
  apply w_ext
  intro b hb
  rw [refCell_bits l i n (by omega)]
  refine know_bits n (by omega) l (startW n) (fun b => [(b : Int)]) (startW_length n) (fun c hc => in_of_notBad (List.any_eq_false.1 h c hc |> (by simpa using ·))) (fun i hi b hb => ?_) i hi b hb
  rw [lw_at _ _ (by rw [startW_length]; exact hi)]
  simp only [startW, List.getElem_map, List.getElem_range]
  rw [b_one]
  simp [hasB, hb]
  rw [Bool.eq_iff_iff]
  simp
  omega
theorem good_of_check {n : Int} {l : List Cl} (h : callsCheck n l = 0) : ∃ N : Nat, n = N ∧ N ≤ 8 ∧ l.length ≤ 64 ∧ l.any (callBad n) = false := by
  unfold callsCheck at h
  split at h
  · omega
  · split at h
    · omega
    · rename_i h1 h2
      exact ⟨n.toNat, by omega, by omega, by omega, by simpa using h2⟩

set_option maxRecDepth 100000 in
theorem NewsKnows_row (n : Int) (C : Sls Cl) (W : World) (hn : OkI n) (hC : C.Good W W.heap.size 2 ccell (fun c => OkI c.1 ∧ OkI c.2)) :
    Calls Try.prog 9 #[.int .i64 n, C.val] W fun e w' => e = .returned (.bool true) ∧ Below W.heap.size W w' := by
  obtain ⟨A, c, l⟩ := C
  obtain ⟨hm, hc, hr, hg⟩ := hC
  have HK := Lib.hid (news_Know n A l.length c l W rfl hm hr)
  have HR := Lib.hid hr
  clear hc hg hr
  go_enter Try.func9, Try.ntmps9
  go_wp2_with fail
  refine HK.out.mono ?_
  clear HK
  rintro e v1 ⟨A1, k, cap, rfl, hb1, hown, hk⟩
  have HC := Lib.hid (ref_CallsCheck n A l.length c l v1 rfl hm ((HR.out.below hb1).more hb1.size))
  have HB1 := Lib.hid hb1
  have HO := Lib.hid hown
  have HKL := Lib.hid hk
  have hsz := hb1.size
  clear hb1 hown hk
  go_wp2_with fail
  refine HC.out.mono ?_
  clear HC
  rintro e v2 ⟨rfl, hb2⟩
  have HB2 := Lib.hid (HB1.out.trans (hb2.mono hsz))
  have HO2 := Lib.hid (HO.out.below hb2 (Nat.le_refl _))
  have hsz2 := hb2.size
  clear hb2 HB1 HO
  by_cases h0 : callsCheck n l = 0
  · obtain ⟨N, rfl, hN, hl64, hgood⟩ := good_of_check h0
    have HA : Hid (knowAns N l = knowW N l) := if_pos h0
    have hkN : k = N := by rw [← HKL.out, HA.out, knowW_length]
    subst hkN
    have HKE := Lib.hid (know_eq k l hN hgood)
    have HRK := Lib.hid (ref_Know k A l.length c l v2 hN rfl hl64 ((HR.out.below HB2.out).more HB2.out.size))
    have hsz3 := HB2.out.size
    rw [h0]
    clear hgood h0
    go_wp2_with fail
    refine HRK.out.mono ?_
    clear HRK
    rintro e v3 ⟨A2, cap2, rfl, hb3, hown2⟩
    have e1 : Els v3 v3.heap.size 1 ucell A1 (knowW k l) := by
      have := (HO2.out.below hb3 (Nat.le_refl _)).els
      rwa [HA.out] at this
    have e2 : Els v3 v3.heap.size 1 ucell A2 (knowW k l) := by
      have := hown2.els
      rwa [← HKE.out] at this
    have HW := Lib.hid (Words_same A1 A2 k cap cap2 (knowW k l) v3.heap.size v3.heap.size v3 (knowW_length k l) (by unfold maxLen; omega) e1 e2)
    have HB3 := Lib.hid (HB2.out.trans (hb3.mono hsz3))
    clear e1 e2 hb3 hown2
    go_wp2_with fail
    refine HW.out.mono ?_
    clear HW
    rintro e v4 ⟨rfl, q, rfl⟩
    go_wp2_with fail
    go_ret
    exact ⟨rfl, below_drewN HB3.out q⟩
  · have HA : Hid (knowAns n l = []) := if_neg h0
    have hk0 : k = 0 := by rw [← HKL.out, HA.out]; rfl
    subst hk0
    have h1 : (callsCheck n l != 0) = true := by simpa using h0
    have h2 : (callsCheck n l == callsCheck n l) = true := by simp
    generalize callsCheck n l = x at h1 h2
    clear h0
    go_wp2_with fail
    go_ret
    exact ⟨rfl, HB2.out⟩
end Go.Proofs.Ytaldkafibemhnaa
