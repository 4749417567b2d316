/- A row is turned by exchanges of ranges: the program's rotate. Conditions: the row is the caller's own; neither part is empty. -/
import Derived.Test.YtjkfogkpacmdlaaStbA
namespace Go.Proofs.Ytjkfogkpacmdlaa
open Go.RowKit

/-- While a row is turned: what stands now, what is to come. -/
def RotI (B n cp m : Nat) (A : Option Addr) (T : List Int) (w : World) (s10 s11 : Value) (wr : World) : Prop :=
  ∃ (i j : Nat) (X P Q Z : List Int), s10 = .int .i64 i ∧ s11 = .int .i64 j ∧ 0 < i ∧ 0 < j ∧ X.length + i = m ∧ P.length = i ∧ Q.length = j ∧ X ++ (Q ++ (P ++ Z)) = T ∧ Below B w wr ∧ Own wr B 3 1 icell A cp (X ++ (P ++ (Q ++ Z)))
def addI (a b : Value) : Nat := (intOf a).toNat + (intOf b).toNat
set_option maxRecDepth 100000 in
set_option maxHeartbeats 1000000 in
theorem rotate_ (A : Option Addr) (n cp B a m b : Nat) (fv : Value) (X P Q Z : List Int) (w : World) (hB : B ≤ w.heap.size) (ha : X.length = a) (hp : a + P.length = m) (hq : m + Q.length = b) (hp0 : 0 < P.length) (hq0 : 0 < Q.length) (hn : (X ++ (P ++ (Q ++ Z))).length = n) (hn1 : n ≤ 1000) (ho : Own w B 3 1 icell A cp (X ++ (P ++ (Q ++ Z)))) :
    Calls Try.prog 79 #[.slice A n cp, .int .i64 a, .int .i64 m, .int .i64 b, fv] w fun e w' => (∃ v, e = .returned v) ∧ Below B w w' ∧ Own w' B 3 1 icell A cp (X ++ (Q ++ (P ++ Z))) := by
  obtain ⟨T, hT⟩ : ∃ T, T = X ++ (Q ++ (P ++ Z)) := ⟨_, rfl⟩
  have hTl : T.length = n := by
    rw [hT, ← hn]
    simp only [List.length_append]
    omega
  have hst : RotI B n cp m A T w (.int .i64 (P.length : Int)) (.int .i64 (Q.length : Int)) w := ⟨P.length, Q.length, X, P, Q, Z, rfl, rfl, hp0, hq0, by omega, rfl, rfl, hT.symm, Below.refl _ _, ho⟩
  have hbn : b ≤ n := by
    rw [← hn]
    simp only [List.length_append]
    omega
  obtain ⟨pl, hpl⟩ : ∃ pl, pl = P.length := ⟨_, rfl⟩
  obtain ⟨ql, hql⟩ : ∃ ql, ql = Q.length := ⟨_, rfl⟩
  rw [← hpl] at hst hp hp0
  rw [← hql] at hst hq hq0
  rw [← hT]
  have w1 : IntKind.i64.wrap ((m : Int) - a) = (pl : Int) := by rw [IntWalk.i64_in _ (by omega)]; omega
  have w2 : IntKind.i64.wrap ((b : Int) - m) = (ql : Int) := by rw [IntWalk.i64_in _ (by omega)]; omega
  have HST := Lib.hid hst
  have HTL := Lib.hid hTl
  have hmn : m ≤ n := by omega
  clear hst hTl hT hpl hql ho hn hp hq ha
  go_enter Try.func79, Try.ntmps79
  go_wp2_with fail
  go_loopw [10, 11] (fun s10 s11 wr => RotI B n cp m A T w s10 s11 wr) (fun s10 s11 _ => addI s10 s11)
  case atStart => exact HST.out
  case round =>
    clear HST w1 w2
    rename World => wr
    obtain ⟨i, j, X', P', Q', Z', rfl, rfl, hi0, hj0, hX, hP, hQ, hT, hb, ho⟩ := hrel
    have hln : (X' ++ (P' ++ (Q' ++ Z'))).length = n := by
      rw [← HTL.out, ← hT]
      simp only [List.length_append]
      omega
    have hsum : m + j ≤ n := by
      rw [← hln]
      simp only [List.length_append]
      omega
    have hBr : B ≤ wr.heap.size := Nat.le_trans hB hb.size
    obtain ⟨x, hx⟩ : ∃ x, x = X'.length := ⟨_, rfl⟩
    have w1 : IntKind.i64.wrap ((m : Int) - i) = (x : Int) := by rw [IntWalk.i64_in _ (by omega)]; omega
    have HB := Lib.hid hb
    by_cases hij : i = j
    · have hsw := swap_range A n cp B x m i fv X' P' [] Q' Z' wr hBr hP (by rw [hQ, hij]) hx.symm (by simp; omega) (by simpa using hln) hn1 (by simpa using ho)
      have hbeq : ((i : Int) == (j : Int)) = true := by simp [hij]
      have HSW := Lib.hid hsw
      have HT := Lib.hid hT
      clear hsw ho hln hx hX hP hQ hT hb
      have hbne : ((i : Int) != (j : Int)) = false := by simp [hij]
      clear hij
      go_wp2_with fail
      refine HSW.out.mono ?_
      clear HSW
      rintro e w2 ⟨⟨v, rfl⟩, hb2, ho2⟩
      have HB2 := Lib.hid (HB.out.trans hb2)
      have HO2 := Lib.hid ho2
      clear hb2 ho2
      go_wp2_with fail
      go_end0
      exact ⟨⟨_, rfl⟩, HB2.out, by rw [← HT.out]; simpa using HO2.out⟩
    · have hbne : ((i : Int) == (j : Int)) = false := by simp; omega
      by_cases hgt : j < i
      · have hsw := swap_range A n cp B x m j fv X' (P'.take j) (P'.drop j) Q' Z' wr hBr (by rw [List.length_take]; omega) hQ hx.symm (by rw [List.length_drop]; omega) (by rw [← hln]; simp only [List.length_append, List.length_take, List.length_drop]; omega) hn1 (by rw [← List.append_assoc (P'.take j), List.take_append_drop]; exact ho)
        obtain ⟨ij, hijd⟩ : ∃ ij, ij = i - j := ⟨_, rfl⟩
        have w2 : IntKind.i64.wrap ((i : Int) - j) = (ij : Int) := by rw [IntWalk.i64_in _ (by omega)]; omega
        have hgd : decide ((j : Int) < (i : Int)) = true := decide_eq_true (by omega)
        have hnx : ∀ w2, Below B w w2 → Own w2 B 3 1 icell A cp (X' ++ (Q' ++ (P'.drop j ++ (P'.take j ++ Z')))) → RotI B n cp m A T w (.int .i64 (ij : Int)) (.int .i64 (j : Int)) w2 := fun w2 h1 h2 =>
          ⟨ij, j, X' ++ Q', P'.drop j, P'.take j, Z', rfl, rfl, by omega, hj0, by rw [List.length_append]; omega, by rw [List.length_drop]; omega, by rw [List.length_take]; omega, by
            rw [← hT]
            conv => rhs; rw [← List.take_append_drop j P']
            simp only [List.append_assoc], h1, by simpa only [List.append_assoc] using h2⟩
        have hms : ij + j < i + j := by omega
        have HSW := Lib.hid hsw
        have HNX := Lib.hid hnx
        clear hsw ho hln hx hX hP hQ hT hb hnx hijd hij
        go_wp2_with fail
        refine HSW.out.mono ?_
        clear HSW
        rintro e w2 ⟨⟨v, rfl⟩, hb2, ho2⟩
        have HN2 := Lib.hid (HNX.out w2 (HB.out.trans hb2) ho2)
        clear hb2 ho2
        go_wp2_with fail
        go_roundw
        case rel => exact HN2.out
        case measure => simp [addI, intOf]; omega
      · obtain ⟨ji, hji⟩ : ∃ ji, ji = j - i := ⟨_, rfl⟩
        obtain ⟨y, hy⟩ : ∃ y, y = m + j - i := ⟨_, rfl⟩
        have hsw := swap_range A n cp B x y i fv X' P' (Q'.take ji) (Q'.drop ji) Z' wr hBr hP (by rw [List.length_drop]; omega) hx.symm (by rw [List.length_take]; omega) (by rw [← hln]; simp only [List.length_append, List.length_take, List.length_drop]; omega) hn1 (by rw [← List.append_assoc (Q'.take ji), List.take_append_drop]; exact ho)
        have w2 : IntKind.i64.wrap ((j : Int) - i) = (ji : Int) := by rw [IntWalk.i64_in _ (by omega)]; omega
        have w3 : IntKind.i64.wrap ((m : Int) + j) = (m : Int) + j := IntWalk.i64_in _ (by omega)
        have w4 : IntKind.i64.wrap ((m : Int) + j - i) = (y : Int) := by rw [IntWalk.i64_in _ (by omega)]; omega
        have hgd : decide ((j : Int) < (i : Int)) = false := decide_eq_false (by omega)
        have hgn : ¬ j < i := hgt
        have hnx : ∀ w2, Below B w w2 → Own w2 B 3 1 icell A cp (X' ++ (Q'.drop ji ++ (Q'.take ji ++ (P' ++ Z')))) → RotI B n cp m A T w (.int .i64 (i : Int)) (.int .i64 (ji : Int)) w2 := fun w2 h1 h2 =>
          ⟨i, ji, X', Q'.drop ji, Q'.take ji, P' ++ Z', rfl, rfl, hi0, by omega, hX, by rw [List.length_drop]; omega, by rw [List.length_take]; omega, by
            rw [← hT]
            conv => rhs; rw [← List.take_append_drop ji Q']
            simp only [List.append_assoc], h1, h2⟩
        have hms : i + ji < i + j := by omega
        have HSW := Lib.hid hsw
        have HNX := Lib.hid hnx
        clear hsw ho hln hx hX hP hQ hT hb hnx hji hy hij hgt
        go_wp2_with fail
        refine HSW.out.mono ?_
        clear HSW
        rintro e w2 ⟨⟨v, rfl⟩, hb2, ho2⟩
        have HN2 := Lib.hid (HNX.out w2 (HB.out.trans hb2) ho2)
        clear hb2 ho2
        go_wp2_with fail
        go_roundw
        case rel => exact HN2.out
        case measure => simp [addI, intOf]; omega
end Go.Proofs.Ytjkfogkpacmdlaa
