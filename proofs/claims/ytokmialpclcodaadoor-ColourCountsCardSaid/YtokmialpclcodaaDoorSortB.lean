/- The reference's count of colourings: the sum over the sorts. Conditions: the graph is one; from -1 to 12 colours. -/
import Derived.Test.YtokmialpclcodaaDoorSortA
namespace Go.Proofs.YtokmialpclcodaaDoor
open Go.RowKit Go.Shelf

def bnd (j : Nat) : Int := if j = 0 then 1 else (j : Int) ^ 10
theorem TS_bnd {n : Nat} {A : BitVec 32 → Bool} (hn : n ≤ 10) {w : BitVec 32} (hw : InW n w) {i : Nat} (hi : i ≤ 10) : TS n A i w ≤ bnd i := by
  unfold bnd
  have h1 := TS_le (A := A) (show n ≤ 32 by omega) i hw
  have hp := pop_n (n := n) w
  split
  · rename_i h0
    subst h0
    have : ∀ b : Fin 11, ((0 : Nat) : Int) ^ b.val ≤ 1 := by decide +kernel
    exact Int.le_trans h1 (this ⟨popTo w n, by omega⟩)
  · exact Int.le_trans h1 (pow_up (by omega) hi (by omega))
theorem sum_bnd {t : Nat} (ht : t ≤ 11) : sm (fun j => bnd j * ff 12 j) t ≤ 4000000000000000000 := by
  have h : ∀ b : Fin 12, sm (fun j => bnd j * ff 12 j) b.val ≤ 4000000000000000000 := by decide +kernel
  exact h ⟨t, by omega⟩
theorem sm_abs {f g : Nat → Int} : ∀ t, (∀ j, j < t → -(g j) ≤ f j ∧ f j ≤ g j) → -(sm g t) ≤ sm f t ∧ sm f t ≤ sm g t
  | 0, _ => ⟨Int.le_refl _, Int.le_refl _⟩
  | t + 1, h => by
    have h1 := sm_abs t fun j hj => h j (by omega)
    have h2 := h t (by omega)
    rw [sm_succ, sm_succ]
    omega
theorem term_b {n : Nat} {A : BitVec 32 → Bool} (hn : n ≤ 10) {w : BitVec 32} (hw : InW n w) {K : Int} (h0 : -1 ≤ K) (h1 : K ≤ 12) {i t : Nat} (hi : i ≤ 10) (ht : t ≤ 10) : -3000000000000000000 ≤ TS n A i w * ff K t ∧ TS n A i w * ff K t ≤ 3000000000000000000 := by
  have e1 := ff_b h0 h1 ht
  have e2 := ff_small ht
  have := part_b (TS_nn (show n ≤ 32 by omega) i w) (TS_b (A := A) hn hw hi) (b := 300000000) (y := ff K t) (by omega) (by omega)
  omega
theorem part_sum {n : Nat} {A : BitVec 32 → Bool} (hn : n ≤ 10) {w : BitVec 32} (hw : InW n w) {K : Int} (h0 : -1 ≤ K) (h1 : K ≤ 12) {t : Nat} (ht : t ≤ 11) : -4000000000000000000 ≤ sm (fun j => TS n A j w * ff K j) t ∧ sm (fun j => TS n A j w * ff K j) t ≤ 4000000000000000000 := by
  have h := sm_abs (f := fun j => TS n A j w * ff K j) (g := fun j => bnd j * ff 12 j) t fun j hj => by
    have e1 := ff_b h0 h1 (show j ≤ 10 by omega)
    exact part_b (TS_nn (show n ≤ 32 by omega) j w) (TS_bnd (A := A) hn hw (by omega)) e1.1 e1.2
  have := sum_bnd ht
  omega
theorem in_mask {N : Nat} (hN : N < 32) : InW N (maskW N) := fun j hj => by
  rw [BitVec.getLsbD, toNat_mask hN, Nat.testBit_two_pow_sub_one] at hj
  exact of_decide_eq_true hj
set_option maxRecDepth 100000 in
set_option maxHeartbeats 1000000 in
theorem ref_Count (N n c : Nat) (A : Option Addr) (es : List Ed) (K : Int) (hK0 : -1 ≤ K) (hK1 : K ≤ 12) (w : World) (hl : es.length = n) (hg : GoodG N es) (hr : Els w w.heap.size 3 Ed.cells A es) (h0w : 0 < w.heap.size) :
    Calls Tryd.prog 17 #[.agg #[.int .i64 N, .slice A n c], .int .i64 K] w fun e w' => e = .returned (.int .i64 (PW N (looseB es) (maskW N) K)) ∧ Below w.heap.size w w' := by
  have hN10 := hg.n10
  have b0 := Blk.new w 33 #[.int .i64 N, .slice A n c]
  have c0 := b0.cell 0
  have c1 := b0.cell 1
  have hb1 := (Below.refl w.heap.size w).alloc (Nat.le_refl _) (.cells #[.int .i64 N, .slice A n c] 33)
  have hz1 := hb1.size
  obtain ⟨U, hU⟩ : ∃ U, U = maskW N := ⟨_, rfl⟩
  have hin : InW N U := by rw [hU]; exact in_mask (by omega)
  obtain ⟨m, hm⟩ : ∃ m, m = N + 1 := ⟨_, rfl⟩
  have hso := ref_Sorts N n c A es _ hl hg ((hr.below hb1).more hz1) (by omega)
  rw [← hU, ← hm] at hso
  rw [← hU]
  have HSO := Lib.hid hso
  have hm1 : N < m := by omega
  have hm2 : m ≤ N + 1 := by omega
  have HM := Lib.hid hm
  have HIN := Lib.hid hin
  have HB1 := Lib.hid hb1
  clear hr hb1 hso hU hm hin
  go_enter Tryd.func17, Tryd.ntmps17
  go_wp2_with fail
  refine HSO.out.mono ?_
  clear HSO
  rintro e v1 ⟨R, rfl, hb2, hown⟩
  have HB2 := Lib.hid (HB1.out.trans (hb2.mono hz1))
  have HO := Lib.hid hown
  clear hb2 hown HB1 c0 c1
  go_wp2_with fail
  go_loopw [13, 5] (fun s13 s5 wr => v1 = wr ∧ ∃ i : Nat, i ≤ m ∧ s13 = .int .i64 i ∧ s5 = .int .i64 (sm (fun k => TS N (looseB es) k U * ff K k) i)) (fun s13 _ _ => m - (intOf s13).toNat)
  case atStart => exact ⟨rfl, 0, Nat.zero_le _, rfl, rfl⟩
  case round =>
    rename World => wr
    obtain ⟨rfl, i, hi, rfl, rfl⟩ := hrel
    by_cases hlt : i < m
    · obtain ⟨g1, hg1, _, _, y0, _⟩ := HO.out.cell1 (f := fun x : Int => .int .i64 x) (k := i) (by rw [mapR_len]; exact hlt)
      obtain rfl : R = g1 := by simpa using hg1
      rw [mapR_get] at y0
      obtain ⟨x, hx⟩ : ∃ x, x = TS N (looseB es) i U := ⟨_, rfl⟩
      obtain ⟨a, ha⟩ : ∃ a, a = sm (fun k => TS N (looseB es) k U * ff K k) i := ⟨_, rfl⟩
      rw [← hx] at y0
      rw [← ha]
      have htb : ∀ t, t ≤ 10 → -3000000000000000000 ≤ x * ff K t ∧ x * ff K t ≤ 3000000000000000000 := fun t ht => by
        rw [hx]
        exact term_b hN10 HIN.out hK0 hK1 (by omega) ht
      have hps := part_sum (A := looseB es) hN10 HIN.out hK0 hK1 (t := i + 1) (by omega)
      have hsm : sm (fun k => TS N (looseB es) k U * ff K k) (i + 1) = a + x * ff K i := by rw [sm_succ, ← ha, ← hx]
      rw [hsm] at hps
      have HTB := Lib.hid htb
      have HSM := Lib.hid hsm
      clear hg1 hx ha htb hsm
      go_wp2_with fail
      go_loopw [9, 8] (fun s9 s8 wr => v1 = wr ∧ ∃ t : Nat, t ≤ i ∧ s9 = .int .i64 t ∧ s8 = .int .i64 (x * ff K t)) (fun s9 _ _ => i - (intOf s9).toNat)
      case atStart => exact ⟨rfl, 0, Nat.zero_le _, rfl, by rw [ff, Int.mul_one]⟩
      case round =>
        rename World => wr
        obtain ⟨rfl, t, ht, rfl, rfl⟩ := hrel
        by_cases htn : t < i
        · have hb := HTB.out (t + 1) (by omega)
          have hb0 := HTB.out t (by omega)
          have hst : x * ff K (t + 1) = x * ff K t * (K - t) := by rw [ff, Int.mul_assoc]
          obtain ⟨p, hp⟩ : ∃ p, p = x * ff K t := ⟨_, rfl⟩
          rw [← hp] at hst hb0 ⊢
          rw [hst] at hb
          have hw1 : IntKind.i64.wrap (K - (t : Int)) = K - t := wrap_in (by omega)
          have hw2 : IntKind.i64.wrap (p * (K - (t : Int))) = p * (K - t) := wrap_in (by omega)
          have HST := Lib.hid hst
          clear hp hst hb hb0
          go_wp2_with fail
          go_roundw
          case rel => exact ⟨trivial, t + 1, htn, by go_num, by rw [HST.out]⟩
          case measure => simp [intOf]; omega
        · obtain rfl : i = t := by omega
          obtain ⟨p, hp⟩ : ∃ p, p = x * ff K i := ⟨_, rfl⟩
          rw [← hp] at hps ⊢
          have hw2 : IntKind.i64.wrap (a + p) = a + p := wrap_in (by omega)
          have HSM2 : Hid (sm (fun k => TS N (looseB es) k U * ff K k) (i + 1) = a + p) := Lib.hid (by rw [HSM.out, hp])
          clear hp
          go_wp2_with fail
          go_roundw
          case rel => exact ⟨trivial, i + 1, hlt, by go_num, by rw [HSM2.out]⟩
          case measure => simp [intOf]; omega
    · obtain rfl : m = i := by omega
      have hpw : sm (fun k => TS N (looseB es) k U * ff K k) m = PW N (looseB es) U K := by rw [HM.out]; rfl
      rw [hpw]
      clear hpw
      go_wp2_with fail
      refine bodyPost_ret (v := .int .i64 (PW N (looseB es) U K)) (by simp [results, Tryd.results17, go_sem]) rfl ?_
      exact ⟨rfl, HB2.out⟩
end Go.Proofs.YtokmialpclcodaaDoor
