/- Two ranges of a row change places; a row is turned. Conditions: the row is the caller's own. -/
import Derived.Test.YtjkfogkpacmdlaaStbP
import Derived.Test.YtjkfogkpacmdlaaRegC
import Derived.BigRegion
namespace Go.Proofs.Ytjkfogkpacmdlaa
open Go.RowKit

/-- Half way through the change of places. -/
def swL (X P M Q Z : List Int) (i : Nat) : List Int := X ++ (Q.take i ++ (P.drop i ++ (M ++ (P.take i ++ (Q.drop i ++ Z)))))
theorem swL_zero (X P M Q Z : List Int) : swL X P M Q Z 0 = X ++ (P ++ (M ++ (Q ++ Z))) := by simp [swL]
theorem swL_all {X P M Q Z : List Int} {k : Nat} (hp : P.length = k) (hq : Q.length = k) : swL X P M Q Z k = X ++ (Q ++ (M ++ (P ++ Z))) := by
  unfold swL
  rw [List.take_of_length_le (by omega), List.drop_of_length_le (by omega), List.take_of_length_le (by omega), List.drop_of_length_le (by omega)]
  simp
theorem swL_len {X P M Q Z : List Int} {k i : Nat} (hp : P.length = k) (hq : Q.length = k) (hi : i ≤ k) : (swL X P M Q Z i).length = X.length + (P.length + (M.length + (Q.length + Z.length))) := by
  unfold swL
  simp only [List.length_append, List.length_take, List.length_drop]
  omega
theorem swL_at {X P M Q Z : List Int} {k i a b : Nat} (hp : P.length = k) (hq : Q.length = k) (hi : i < k) (ha : X.length = a) (hb : a + k + M.length = b) :
    ∃ p q, (swL X P M Q Z i).getD (a + i) 0 = p ∧ (swL X P M Q Z i).getD (b + i) 0 = q ∧ ((swL X P M Q Z i).set (a + i) q).set (b + i) p = swL X P M Q Z (i + 1) := by
  have e1 : P.drop i = P[i] :: P.drop (i + 1) := List.drop_eq_getElem_cons (by omega)
  have e2 : Q.drop i = Q[i] :: Q.drop (i + 1) := List.drop_eq_getElem_cons (by omega)
  have e3 : P.take (i + 1) = P.take i ++ [P[i]] := List.take_succ_eq_append_getElem (by omega)
  have e4 : Q.take (i + 1) = Q.take i ++ [Q[i]] := List.take_succ_eq_append_getElem (by omega)
  have e : swL X P M Q Z i = (X ++ Q.take i) ++ P[i] :: ((P.drop (i + 1) ++ (M ++ P.take i)) ++ Q[i] :: (Q.drop (i + 1) ++ Z)) := by
    unfold swL
    rw [e1, e2]
    simp only [List.append_assoc, List.cons_append]
  have l1 : (X ++ Q.take i).length = a + i := by simp only [List.length_append, List.length_take]; omega
  have l2 : a + i + 1 + (P.drop (i + 1) ++ (M ++ P.take i)).length = b + i := by simp only [List.length_append, List.length_take, List.length_drop]; omega
  refine ⟨P[i], Q[i], ?_, ?_, ?_⟩
  · rw [e]; exact get_mid _ _ _ _ l1
  · rw [e]; exact get_mid2 _ _ _ _ _ _ (by omega)
  · rw [e, swap_at _ _ _ _ _ l1 l2]
    unfold swL
    rw [e3, e4]
    simp only [List.append_assoc, List.cons_append, List.nil_append]

set_option maxRecDepth 100000 in
set_option maxHeartbeats 1000000 in
theorem swap_range (A : Option Addr) (n cp B a b k : Nat) (fv : Value) (X P M Q Z : List Int) (w : World) (hB : B ≤ w.heap.size) (hp : P.length = k) (hq : Q.length = k) (ha : X.length = a) (hb : a + k + M.length = b) (hn : (X ++ (P ++ (M ++ (Q ++ Z)))).length = n) (hn1 : n ≤ 1000) (ho : Own w B 3 1 icell A cp (X ++ (P ++ (M ++ (Q ++ Z))))) :
    Calls Try.prog 86 #[.slice A n cp, .int .i64 a, .int .i64 b, .int .i64 k, fv] w fun e w' => (∃ v, e = .returned v) ∧ Below B w w' ∧ Own w' B 3 1 icell A cp (X ++ (Q ++ (M ++ (P ++ Z)))) := by
  have hlen : n = a + (k + (b - a - k + (k + Z.length))) := by
    rw [← hn]
    simp only [List.length_append]
    omega
  rw [← swL_zero] at ho
  rw [← swL_all hp hq]
  have HST : ∀ i, i < k → ∃ p q, (swL X P M Q Z i).getD (a + i) 0 = p ∧ (swL X P M Q Z i).getD (b + i) 0 = q ∧ ((swL X P M Q Z i).set (a + i) q).set (b + i) p = swL X P M Q Z (i + 1) := fun i hi => swL_at hp hq hi ha hb
  have HLN : ∀ i, i ≤ k → (swL X P M Q Z i).length = n := fun i hi => by
    rw [swL_len hp hq hi, ← hn]
    simp only [List.length_append]
  have HO := Lib.hid ho
  have hbk : b + k ≤ n := by omega
  have hak : a + k ≤ b := by omega
  clear hp hq ha hb hn hlen ho
  go_enter Try.func86, Try.ntmps86
  go_wp2_with fail
  go_loopw [10] (fun s10 wr => ∃ i : Nat, i ≤ k ∧ s10 = .int .i64 i ∧ Below B w wr ∧ Own wr B 3 1 icell A cp (swL X P M Q Z i)) (fun s10 _ => k - (intOf s10).toNat)
  case atStart => exact ⟨0, Nat.zero_le _, rfl, Below.refl _ _, HO.out⟩
  case round =>
    clear HO
    rename World => wr
    obtain ⟨i, hi, rfl, hb, ho⟩ := hrel
    by_cases hlt : i < k
    · obtain ⟨p, q, h1, h2, h3⟩ := HST i hlt
      have hl := HLN i hi
      have l1 : a + i < (swL X P M Q Z i).length := by omega
      have l2 : b + i < (swL X P M Q Z i).length := by omega
      obtain ⟨g, rfl, hg1, hg2, ca, fa⟩ := ho.cell1 (f := fun x : Int => .int .i64 x) l1
      obtain ⟨g', hgg, _, _, cb, fb⟩ := ho.cell1 (f := fun x : Int => .int .i64 x) l2
      obtain rfl : g = g' := by simpa using hgg
      rw [← getD_at _ _ l1 0, h1] at ca
      rw [← getD_at _ _ l2 0, h2] at cb
      have hnew := (ho.drew.put1 (f := fun x : Int => .int .i64 x) (x := q) l1).put1 (f := fun x : Int => .int .i64 x) (k := b + i) (x := p) (by rw [List.length_set]; exact l2)
      rw [h3] at hnew
      obtain ⟨ai, hai⟩ : ∃ ai, ai = a + i := ⟨_, rfl⟩
      obtain ⟨bi, hbi⟩ : ∃ bi, bi = b + i := ⟨_, rfl⟩
      have w1 : IntKind.i64.wrap ((a : Int) + i) = (ai : Int) := by rw [IntWalk.i64_in _ (by omega)]; omega
      have w2 : IntKind.i64.wrap ((b : Int) + i) = (bi : Int) := by rw [IntWalk.i64_in _ (by omega)]; omega
      have w3 : IntKind.i64.wrap ((i : Int) + 1) = (i : Int) + 1 := IntWalk.i64_in _ (by omega)
      have hai' : ai < n := by omega
      have hbi' : bi < n := by omega
      have hne : ¬ ai = bi := by omega
      have hne' : ¬ bi = ai := by omega
      rw [← hai] at ca fa hnew
      rw [← hbi] at cb fb hnew
      have HN := Lib.hid hnew
      have HB := Lib.hid hb
      clear h1 h2 h3 hl l1 l2 hgg hnew hb ho hai hbi
      go_wp2_with fail
      go_region
      all_goals
        go_wp2_with fail
        go_roundw
        case rel => exact ⟨i + 1, by omega, by go_num, ((HB.out.drew).setCell (p := ⟨g, ai, none⟩) hg1 _).setCell (p := ⟨g, bi, none⟩) hg1 _, HN.out⟩
        case measure => simp [intOf]; omega
    · obtain rfl : i = k := by omega
      go_wp2_with fail
      go_end0
      exact ⟨⟨_, rfl⟩, hb, ho⟩
end Go.Proofs.Ytjkfogkpacmdlaa
