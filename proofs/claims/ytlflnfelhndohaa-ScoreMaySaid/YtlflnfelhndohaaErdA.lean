/- May there be a graph with such degrees: the program's walk. Conditions: the degrees read as a list. -/
import Derived.Test.YtlflnfelhndohaaErdP
import Derived.Test.YtlflnfelhndohaaRevI
import Derived.Test.YtlflnfelhndohaaClone1
import Derived.Test.YtlflnfelhndohaaTailS
import Derived.Test.YtlflnfelhndohaaHavG
namespace Go.Proofs.Ytlflnfelhndohaa
open Go.RowKit

/-- What the program adds up. -/
def mostF (D : List Int) (k : Nat) : Nat → Int
  | 0 => ((k : Int) + 1) * k
  | j + 1 => IntKind.i64.wrap (mostF D k j + min (D.getD (k + 1 + j) 0) ((k : Int) + 1))
theorem most_good {D : List Int} {n k : Nat} (hl : D.length = n) (hn : n ≤ 10) (hg : ∀ x ∈ D, 0 ≤ x ∧ x < n) (hk : k < n) : ∀ j, k + 1 + j ≤ n → mostF D k j = ((k : Int) + 1) * k + ksum ((k : Int) + 1) ((D.drop (k + 1)).take j)
  | 0, _ => by simp [mostF, ksum]
  | j + 1, h => by
    have hjl : j < (D.drop (k + 1)).length := by rw [List.length_drop]; omega
    have hD : D.getD (k + 1 + j) 0 = (D.drop (k + 1))[j] := by
      rw [getD_at D _ (by omega), List.getElem_drop]
    rw [mostF, most_good hl hn hg hk j (by omega), hD, List.take_succ_eq_append_getElem hjl, ksum_append]
    simp only [ksum, Int.add_zero]
    have hx := hg _ (List.mem_of_mem_drop (List.getElem_mem hjl))
    have h1 := ksum_nn (k := (k : Int) + 1) (by omega) (l := (D.drop (k + 1)).take j) fun x hx => (hg x (List.mem_of_mem_drop (List.mem_of_mem_take hx))).1
    have h2 := ksum_le (k := (k : Int) + 1) (c := 10) (l := (D.drop (k + 1)).take j) fun x hx => by have := hg x (List.mem_of_mem_drop (List.mem_of_mem_take hx)); omega
    have h3 : ((k : Int) + 1) * k ≤ 10 * 10 := Int.mul_le_mul (by omega) (by omega) (by omega) (by omega)
    have h4 : 0 ≤ ((k : Int) + 1) * k := Int.mul_nonneg (by omega) (by omega)
    rw [List.length_take] at h2
    rw [IntWalk.i64_in _ (by omega)]
    omega
/-- The answer. -/
def MayP (sc : List Int) (n : Nat) : Prop := (∀ x ∈ sc, 0 ≤ x ∧ x < n) ∧ EGp sc ∧ lsum sc % 2 = 0
/-- What the program hands back. -/
def MayIs (sc : List Int) (n : Nat) (e : Ending) : Prop := ∃ r : Bool, e = .returned (.tuple #[.bool r, .int .i64 0]) ∧ (r = true ↔ MayP sc n)
def fallI (l : List Int) : List Int := (sortI l).reverse
theorem fallI_len (l : List Int) : (fallI l).length = l.length := by unfold fallI; rw [List.length_reverse, sortI_len]
theorem fallI_perm (l : List Int) : (fallI l).Perm l := (List.reverse_perm _).trans (sortI_perm l)
theorem fallI_sorted (l : List Int) : (fallI l).Pairwise (fun a b => b ≤ a) := by
  unfold fallI
  rw [List.pairwise_reverse]
  exact sortI_sorted l
theorem may_perm {l m : List Int} {n : Nat} (hp : l.Perm m) : MayP l n ↔ MayP m n :=
  ⟨fun h => ⟨fun x hx => h.1 x (hp.mem_iff.2 hx), h.2.1.perm hp, by rw [← lsum_perm hp]; exact h.2.2⟩, fun h => ⟨fun x hx => h.1 x (hp.mem_iff.1 hx), h.2.1.perm hp.symm, by rw [lsum_perm hp]; exact h.2.2⟩⟩
/-- While the places are gone through. -/
structure MayI (D : List Int) (n k : Nat) : Prop where
  in_ : ∀ j, j < k → 0 ≤ D.getD j 0 ∧ D.getD j 0 < n
  eg : (∀ x ∈ D, 0 ≤ x ∧ x < n) → ∀ j, j < k → lsum (D.take (j + 1)) ≤ ((j + 1 : Nat) : Int) * j + ksum ((j + 1 : Nat) : Int) (D.drop (j + 1))
theorem take_sum {D : List Int} {n k : Nat} (hl : D.length = n) (hk : k ≤ n) (h : ∀ j, j < k → 0 ≤ D.getD j 0 ∧ D.getD j 0 < n) : 0 ≤ lsum (D.take k) ∧ lsum (D.take k) ≤ k * n := by
  have hm : ∀ x ∈ D.take k, 0 ≤ x ∧ x ≤ n := fun x hx => by
    rw [List.mem_take_iff_getElem] at hx
    obtain ⟨j, hj, rfl⟩ := hx
    have := h j (by omega)
    rw [getD_at D j (by omega)] at this
    omega
  have h1 := lsum_nn (l := D.take k) fun x hx => (hm x hx).1
  have h2 := lsum_le (c := (n : Int)) (l := D.take k) fun x hx => (hm x hx).2
  rw [List.length_take, Nat.min_eq_left (by omega)] at h2
  exact ⟨h1, h2⟩
theorem take_next {D : List Int} {k : Nat} (hk : k < D.length) : lsum (D.take (k + 1)) = lsum (D.take k) + D.getD k 0 := by
  rw [List.take_succ_eq_append_getElem hk, lsum_append, getD_at D k hk]
  simp [lsum]
theorem MayI.no {D : List Int} {n k : Nat} (hl : D.length = n) (hk : k < n) (hb : D.getD k 0 < 0 ∨ (n : Int) ≤ D.getD k 0) : ¬ MayP D n := fun h => by
  have := h.1 (D.getD k 0) (by rw [getD_at D k (by omega)]; exact List.getElem_mem _)
  omega
theorem MayI.over {D : List Int} {n k : Nat} (hl : D.length = n) (hn : n ≤ 10) (hk : k < n) (hb : mostF D k (n - (k + 1)) < lsum (D.take (k + 1))) : ¬ MayP D n := fun h => by
  have h1 := most_good hl hn h.1 hk (n - (k + 1)) (by omega)
  rw [List.take_of_length_le (by rw [List.length_drop]; omega)] at h1
  have h2 := eg_take h.2.1 (k := k) (by omega)
  rw [show ((k + 1 : Nat) : Int) = (k : Int) + 1 by omega] at h2
  omega
theorem MayI.next {D : List Int} {n k : Nat} (h : MayI D n k) (hl : D.length = n) (hn : n ≤ 10) (hk : k < n) (hin : ¬ (D.getD k 0 < 0 ∨ (n : Int) ≤ D.getD k 0)) (hb : ¬ mostF D k (n - (k + 1)) < lsum (D.take (k + 1))) : MayI D n (k + 1) := by
  refine ⟨fun j hj => ?_, fun hg j hj => ?_⟩
  · by_cases e : j = k
    · subst e; omega
    · exact h.in_ j (by omega)
  · by_cases e : j = k
    · subst e
      have h1 := most_good hl hn hg hk (n - (j + 1)) (by omega)
      rw [List.take_of_length_le (by rw [List.length_drop]; omega)] at h1
      rw [show ((j + 1 : Nat) : Int) = (j : Int) + 1 by omega]
      omega
    · exact h.eg hg j (by omega)
theorem MayI.end_ {D : List Int} {n : Nat} (h : MayI D n n) (hl : D.length = n) (hs : D.Pairwise (fun a b => b ≤ a)) : (lsum D % 2 = 0) ↔ MayP D n := by
  have hg : ∀ x ∈ D, 0 ≤ x ∧ x < n := fun x hx => by
    obtain ⟨j, hj, rfl⟩ := List.mem_iff_getElem.1 hx
    have := h.in_ j (by omega)
    rwa [getD_at D j hj] at this
  exact ⟨fun he => ⟨hg, eg_pre hs (fun x hx => (hg x hx).1) (fun k hk => h.eg hg k (by omega)), he⟩, fun hm => hm.2.2⟩
set_option maxRecDepth 100000 in
set_option maxHeartbeats 2000000 in
theorem score_May (sc : List Int) (A : Option Addr) (n c : Nat) (w : World) (hl : sc.length = n) (hn : n ≤ 10) (hr : Els w w.heap.size 1 icell A sc) :
    Calls Try.prog 20 #[.slice A n c] w fun e w' => MayIs sc n e ∧ Below w.heap.size w w' := by
  have HL := Lib.hid hl
  have HCL := Lib.hid (Clone_ints A n c sc w hl (by omega) hr)
  obtain ⟨S, hS⟩ : ∃ S, S = w.heap.size := ⟨_, rfl⟩
  have HS := Lib.hid hS
  have hn10 : ¬ (10 : Int) < (n : Int) := by omega
  clear hl hr hS
  go_enter Try.func20, Try.ntmps20
  go_wp2_with fail
  refine HCL.out.mono ?_
  clear HCL
  rintro e w1 ⟨A1, cap, rfl, hb1, ho1⟩
  rw [← HS.out] at hb1 ho1
  have HSO := Lib.hid (Sort_ints sc A1 n cap S w1 HL.out (by omega) ho1)
  have HB1 := Lib.hid hb1
  have HLT := Lib.hid ho1.lt
  clear hb1 ho1
  go_wp2_with fail
  refine HSO.out.mono ?_
  clear HSO
  rintro e w2 ⟨rfl, hg2, ho2⟩
  have hb2 := HB1.out.grown hg2 (by have := HB1.out.size; rw [← HS.out] at this; exact this) (fun g hg => (HLT.out g hg).1)
  have HRV := Lib.hid (Reverse_ints (sortI sc) A1 n cap cap S w2 (by rw [sortI_len]; exact HL.out) (by omega) ho2)
  have HB2 := Lib.hid hb2
  clear hg2 ho2 hb2 HB1 HLT
  go_wp2_with fail
  refine HRV.out.mono ?_
  clear HRV
  rintro e w3 ⟨⟨v3, rfl⟩, hb3, ho3⟩
  obtain ⟨D, hD⟩ : ∃ D, D = fallI sc := ⟨_, rfl⟩
  have hDl : D.length = n := by rw [hD, fallI_len, HL.out]
  have hDs : D.Pairwise (fun a b => b ≤ a) := by rw [hD]; exact fallI_sorted sc
  have hDm : MayP D n ↔ MayP sc n := by rw [hD]; exact may_perm (fallI_perm sc)
  have ho3' : Own w3 S 3 1 icell A1 cap D := by rw [hD]; exact ho3
  have hcap := ho3'.cap_le
  rw [hDl] at hcap
  have HB3 := Lib.hid (HB2.out.trans hb3)
  have HO3 := Lib.hid ho3'
  have HDL := Lib.hid hDl
  have HDS := Lib.hid hDs
  have HDM := Lib.hid hDm
  have HCAP := Lib.hid hcap
  clear ho3 ho3' hb3 HB2 hD hDl hDs hDm HL hcap
  go_wp2_with fail
  go_loopw [25, 5, 2, 3] (fun s25 s5 s2 s3 wr => ∃ k : Nat, k ≤ n ∧ s25 = .int .i64 k ∧ s5 = .int .i64 (lsum (D.take k)) ∧ s2 = .bool false ∧ s3 = .int .i64 0 ∧ w3 = wr ∧ MayI D n k) (fun s25 _ _ _ _ => n - (intOf s25).toNat)
  case atStart => exact ⟨0, Nat.zero_le _, rfl, rfl, rfl, rfl, rfl, ⟨fun j hj => by omega, fun _ j hj => by omega⟩⟩
  case round =>
    rename World => wr
    obtain ⟨k, hk, rfl, rfl, rfl, rfl, rfl, hmi⟩ := hrel
    by_cases hlt : k < n
    · have hkl : k < D.length := by rw [HDL.out]; exact hlt
      obtain ⟨b, off, rfl, _, x0⟩ := HO3.out.els.at1 (f := fun x : Int => .int .i64 x) hkl
      obtain ⟨x, hx⟩ : ∃ x, x = D.getD k 0 := ⟨_, rfl⟩
      rw [← getD_at D k hkl 0, ← hx] at x0
      have hsum := take_sum HDL.out (by omega) hmi.in_
      have hkn : (k : Int) * n ≤ 10 * 10 := Int.mul_le_mul (by omega) (by omega) (by omega) (by omega)
      have hnx := take_next hkl
      rw [← hx] at hnx
      obtain ⟨s, hs⟩ : ∃ s, s = lsum (D.take k) := ⟨_, rfl⟩
      rw [← hs] at hsum hnx ⊢
      have HX := Lib.hid hx
      have HMI := Lib.hid hmi
      have HNX := Lib.hid hnx
      clear hmi hx hnx hs
      by_cases hneg : x < 0
      · have HNO := Lib.hid (MayI.no HDL.out hlt (.inl (by rw [← HX.out]; exact hneg)))
        go_wp2_with fail
        refine bodyPost_ret (v := .tuple #[.bool false, .int .i64 0]) (by simp [results, Try.results20, go_sem]) rfl ?_
        exact ⟨⟨false, rfl, fun h => (by cases h), fun h => absurd (HDM.out.2 h) HNO.out⟩, by rw [← HS.out]; exact HB3.out⟩
      · by_cases hbig : (n : Int) ≤ x
        · have HNO := Lib.hid (MayI.no HDL.out hlt (.inr (by rw [← HX.out]; exact hbig)))
          go_wp2_with fail
          refine bodyPost_ret (v := .tuple #[.bool false, .int .i64 0]) (by simp [results, Try.results20, go_sem]) rfl ?_
          exact ⟨⟨false, rfl, fun h => (by cases h), fun h => absurd (HDM.out.2 h) HNO.out⟩, by rw [← HS.out]; exact HB3.out⟩
        · have hct : ∀ W0 : World, (Instr.slice 30 (.slice (some ⟨b, off, none⟩) n cap) (some (.int .i64 ((k : Int) + 1))) none none).run Try.prog W0 = .ok (.slice (if cap = k + 1 then some ⟨b, off, none⟩ else (some ⟨b, off, none⟩ : Option Addr).map (·.add ((k + 1) * 1))) (n - (k + 1)) (cap - (k + 1))) W0 := fun W0 => run_tail Try.underlying30 (fun w => by kernel_rfl) (some ⟨b, off, none⟩) n cap (k + 1) (by omega) HCAP.out (by omega) W0
          have hel := HO3.out.els.cut (k := k + 1) HDL.out HCAP.out
          obtain ⟨A9, hA9⟩ : ∃ A9, A9 = (if cap = k + 1 then some ⟨b, off, none⟩ else (some ⟨b, off, none⟩ : Option Addr).map (·.add ((k + 1) * 1))) := ⟨_, rfl⟩
          obtain ⟨m, hm⟩ : ∃ m, m = n - (k + 1) := ⟨_, rfl⟩
          obtain ⟨c9, hc9⟩ : ∃ c9, c9 = cap - (k + 1) := ⟨_, rfl⟩
          rw [← hA9, ← hm, ← hc9] at hct
          rw [← hA9] at hel
          have hm10 : m ≤ 10 := by omega
          have HEL := Lib.hid hel
          have HMM := Lib.hid hm
          have hDrl : (D.drop (k + 1)).length = m := by rw [List.length_drop, HDL.out, hm]
          have HDR := Lib.hid hDrl
          have hwk : IntKind.i64.wrap ((k : Int) + 1) = (k : Int) + 1 := IntWalk.i64_in _ (by omega)
          have hkk : ((k : Int) + 1) * k ≤ 10 * 10 := Int.mul_le_mul (by omega) (by omega) (by omega) (by omega)
          have hkk0 : 0 ≤ ((k : Int) + 1) * k := Int.mul_nonneg (by omega) (by omega)
          have hwm : IntKind.i64.wrap (((k : Int) + 1) * (k : Int)) = ((k : Int) + 1) * (k : Int) := IntWalk.i64_in _ (by omega)
          have hws : IntKind.i64.wrap (s + x) = s + x := IntWalk.i64_in _ (by omega)
          have HM0 : Hid (mostF D k 0 = ((k : Int) + 1) * (k : Int)) := Lib.hid rfl
          have HIN : Hid (¬ (D.getD k 0 < 0 ∨ (n : Int) ≤ D.getD k 0)) := Lib.hid (by rw [← HX.out]; omega)
          clear hA9 hm hc9 hel hDrl hkk hkk0
          go_wp2_with fail
          go_loopw [49, 9] (fun s49 s9 wr => ∃ j : Nat, j ≤ m ∧ s49 = .int .i64 j ∧ s9 = .int .i64 (mostF D k j) ∧ w3 = wr) (fun s49 _ _ => m - (intOf s49).toNat)
          case atStart => exact ⟨0, Nat.zero_le _, rfl, by rw [HM0.out], rfl⟩
          case round =>
            clear HM0
            rename World => wr
            obtain ⟨j, hj, rfl, rfl, rfl⟩ := hrel
            by_cases hjm : j < m
            · have hjl : j < (D.drop (k + 1)).length := by rw [HDR.out]; exact hjm
              obtain ⟨b2, off2, rfl, _, y0⟩ := HEL.out.at1 (f := fun x : Int => .int .i64 x) hjl
              obtain ⟨y, hy⟩ : ∃ y, y = (D.drop (k + 1))[j] := ⟨_, rfl⟩
              rw [← hy] at y0
              have hMS : mostF D k (j + 1) = IntKind.i64.wrap (mostF D k j + min y ((k : Int) + 1)) := by
                rw [mostF, hy, List.getElem_drop, getD_at D _ (by rw [List.length_drop] at hjl; omega)]
              obtain ⟨M, hM⟩ : ∃ M, M = mostF D k j := ⟨_, rfl⟩
              obtain ⟨mm, hmm⟩ : ∃ mm, mm = min y ((k : Int) + 1) := ⟨_, rfl⟩
              rw [← hM, ← hmm] at hMS
              rw [← hM]
              have hmin : ∀ (ts : Array TypeId) (t : TypeId) (W : World), (Builtin.min_ ts t #[.int .i64 y, .int .i64 ((k : Int) + 1)]).run Try.prog W = .ok (.int .i64 mm) W := fun ts t W => by
                rw [show mm = if ((k : Int) + 1) < y then ((k : Int) + 1) else y by rw [hmm]; split <;> omega]
                simp [Builtin.min_, Builtin.min2]
              have HMS := Lib.hid hMS
              clear hMS hM hmm hy
              go_wp2_with fail
              go_roundw
              case rel => exact ⟨j + 1, by omega, by go_num, by rw [HMS.out, IntWalk.i64_left], trivial⟩
              case measure => simp [intOf]; omega
            · obtain rfl : m = j := by omega
              obtain ⟨M, hM⟩ : ∃ M, M = mostF D k m := ⟨_, rfl⟩
              rw [← hM]
              have HM := Lib.hid hM
              clear hM
              by_cases hov : M < s + x
              · have HNO := Lib.hid (MayI.over HDL.out hn hlt (by rw [← HMM.out, ← HM.out, HNX.out]; exact hov))
                go_wp2_with fail
                refine bodyPost_ret (v := .tuple #[.bool false, .int .i64 0]) (by simp [results, Try.results20, go_sem]) rfl ?_
                exact ⟨⟨false, rfl, fun h => (by cases h), fun h => absurd (HDM.out.2 h) HNO.out⟩, by rw [← HS.out]; exact HB3.out⟩
              · have HMI2 := Lib.hid (HMI.out.next HDL.out hn hlt HIN.out (by rw [← HMM.out, ← HM.out, HNX.out]; exact hov))
                go_wp2_with fail
                go_roundw
                case rel => exact ⟨k + 1, by omega, by go_num, by rw [HNX.out], rfl, rfl, trivial, HMI2.out⟩
                case measure => simp [intOf]; omega
    · obtain rfl : n = k := by omega
      have hend := hmi.end_ HDL.out HDS.out
      rw [List.take_of_length_le (by rw [HDL.out]; exact Nat.le_refl _)]
      have hnn : 0 ≤ lsum D := by
        have := (take_sum HDL.out (Nat.le_refl _) hmi.in_).1
        rwa [List.take_of_length_le (by rw [HDL.out]; exact Nat.le_refl _)] at this
      obtain ⟨s, hs⟩ : ∃ s, s = lsum D := ⟨_, rfl⟩
      rw [← hs] at hend hnn ⊢
      have HEND := Lib.hid (hend.trans HDM.out)
      clear hs hmi hend
      have htm : s.tmod 2 = s % 2 := Int.tmod_eq_emod_of_nonneg hnn
      by_cases hev : s % 2 = 0
      · have h1 : (s % 2 == 0) = true := by simp [hev]
        have h2 : (s.tmod 2 == 0) = true := by rw [htm]; exact h1
        have h3 : s.tmod 2 = 0 := by rw [htm]; exact hev
        go_wp2_with fail
        refine bodyPost_ret (v := .tuple #[.bool true, .int .i64 0]) (by simp [results, Try.results20, go_sem]) rfl ?_
        exact ⟨⟨true, rfl, fun _ => HEND.out.1 hev, fun _ => rfl⟩, by rw [← HS.out]; exact HB3.out⟩
      · have h1 : (s % 2 == 0) = false := by simp; omega
        have h2 : (s.tmod 2 == 0) = false := by rw [htm]; exact h1
        have h3 : ¬ s.tmod 2 = 0 := by rw [htm]; exact hev
        have hev2 : s % 2 = 1 := by omega
        go_wp2_with fail
        refine bodyPost_ret (v := .tuple #[.bool false, .int .i64 0]) (by simp [results, Try.results20, go_sem]) rfl ?_
        exact ⟨⟨false, rfl, fun h => (by cases h), fun h => absurd (HEND.out.2 h) hev⟩, by rw [← HS.out]; exact HB3.out⟩
end Go.Proofs.Ytlflnfelhndohaa
