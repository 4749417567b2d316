/- All pairings that hold: rows in memory. Conditions: none. -/
import Derived.Test.YtodbhgbgeiailaaAllsP
import Derived.Test.YtodbhgbgeiailaaHoldE
import Derived.Test.YtodbhgbgeiailaaPushFull
import Derived.Test.YtodbhgbgeiailaaRegD
import Derived.Test.YtodbhgbgeiailaaSnoc
import Derived.Test.YtodbhgbgeiailaaHeldB
namespace Go.Proofs.Ytodbhgbgeiailaa
open Go.RowKit

/-- A row of numbers that lies in a block of numbers. -/
def RowI (w : World) (s : Sls Int) : Prop := s.l = [] ∨ ∃ (g off : Nat) (cur : Array Value), s.A = some ⟨g, off, none⟩ ∧ Blk w g 3 cur ∧ ∀ j, (h : j < s.l.length) → cur[off + j]? = some (.int .i64 s.l[j])
theorem RowI.els {w : World} {s : Sls Int} (h : RowI w s) : Els w w.heap.size 1 icell s.A s.l := by
  intro hne
  rcases h with h | ⟨g, off, cur, hA, hb, hc⟩
  · rw [h] at hne
    simp at hne
  · refine ⟨g, off, hA, hb.lt, fun i a ha j u hu => ?_⟩
    have hi : i < s.l.length := (List.getElem?_eq_some_iff.1 ha).1
    have e : s.l[i] = a := (List.getElem?_eq_some_iff.1 ha).2
    cases j with
    | zero =>
      have hu' : u = .int .i64 a := by simpa [icell] using hu.symm
      rw [hu', ← e, Nat.mul_one, Nat.add_zero, hb.cell]
      exact hc i hi
    | succ j => simp [icell] at hu
theorem RowI.below {w w' : World} {B : Nat} {s : Sls Int} (h : RowI w s) (hb : Below B w w') (hB : w.heap.size ≤ B) : RowI w' s := by
  rcases h with h | ⟨g, off, cur, hA, hk, hc⟩
  · exact .inl h
  · exact .inr ⟨g, off, cur, hA, hk.below hb (by have := hk.lt; omega), hc⟩
theorem RowI.alloc {w : World} {s : Sls Int} (h : RowI w s) (o : Obj) : RowI (w.alloc o) s := h.below ((Below.refl _ w).alloc (Nat.le_refl _) o) (Nat.le_refl _)
theorem RowI.drew {w : World} {s : Sls Int} (h : RowI w s) : RowI w.drew s := h
/-- Another list, in blocks of another type, is appended to. -/
theorem RowI.grown {α : Type} {w w' : World} {s : Sls Int} {lo c cap : Nat} {e : TypeId} {f : α → List Value} {A : Option Addr} {l : List α} (h : RowI w s) (hg : w.grownBy w' (blkOf A)) (ho : Own w lo e c f A cap l) (he : e ≠ 3) : RowI w' s := by
  rcases h with h | ⟨g, off, cur, hA, hk, hc⟩
  · exact .inl h
  · refine .inr ⟨g, off, cur, hA, hk.grown hg (fun hgA => ?_), hc⟩
    rcases ho.2.2 with hn | ⟨g', cp, cur', hv, hb', hg', r⟩
    · have hAn : A = none := by
        have := hn.1
        simp only [Value.slice.injEq] at this
        exact this.1
      rw [hAn] at hgA
      cases hgA
    · have hA' : A = some ⟨g', 0, none⟩ := by
        simp only [Value.slice.injEq] at hv
        exact hv.1
      rw [hA'] at hgA
      have : g = g' := by simpa [blkOf] using hgA
      subst this
      have h2 : Blk w g e cur' := hg'
      exact h2.differ hk he rfl
theorem RowI.of_own {w : World} {lo cap : Nat} {A : Option Addr} {l : List Int} (h : Own w lo 3 1 icell A cap l) : RowI w ⟨A, cap, l⟩ := by
  by_cases hl : l = []
  · exact .inl hl
  · have hpos : 0 < l.length := by
      cases l with
      | nil => exact absurd rfl hl
      | cons x l => simp
    have he := h.els
    rcases h.2.2 with hn | ⟨g', cp, cur', hv, hb', hg', r⟩
    · have := hn.2
      omega
    · have hA' : A = some ⟨g', 0, none⟩ := by
        simp only [Value.slice.injEq] at hv
        exact hv.1
      refine .inr ⟨g', 0, cur', hA', hg', fun j hj => ?_⟩
      obtain ⟨b, off, e, _, f0⟩ := Els.at1 (f := fun x : Int => .int .i64 x) he hj
      rw [hA'] at e
      simp only [Option.some.injEq, Addr.mk.injEq] at e
      obtain ⟨rfl, rfl, _⟩ := e
      have hk : Blk w g' 3 cur' := hg'
      rw [hk.cell] at f0
      exact f0
theorem flat_succ {β : Type} (g : Nat → List β) (q : Nat) : (List.range (q + 1)).flatMap g = (List.range q).flatMap g ++ g q := by
  rw [List.range_succ, List.flatMap_append]
  simp
theorem refA_len (L R : List (Sls Int)) (n : Nat) : ∀ (f : Nat) (l : List Int), (refA L R n f l).length ≤ (n + 1) ^ f
  | 0, l => by
    unfold refA
    split <;> simp
  | f + 1, l => by
    unfold refA
    have h : ∀ q, ((List.range q).flatMap fun q : Nat => if refJ L R l ((q : Int) - 1) then [] else refA L R n f (l ++ [(q : Int) - 1])).length ≤ q * (n + 1) ^ f := by
      intro q
      induction q with
      | zero => simp
      | succ q ih =>
        rw [flat_succ, List.length_append, Nat.succ_mul]
        have h2 : (if refJ L R l ((q : Int) - 1) then [] else refA L R n f (l ++ [(q : Int) - 1])).length ≤ (n + 1) ^ f := by
          split
          · simp
          · exact refA_len L R n f _
        omega
    rw [Nat.pow_succ, Nat.mul_comm]
    exact h (n + 1)
theorem pow_le9 {n f : Nat} (hn : n ≤ 8) (hf : f ≤ 8) : (n + 1) ^ f ≤ 43046721 := by
  have h1 : (n + 1) ^ f ≤ 9 ^ f := Nat.pow_le_pow_left (by omega) f
  have h2 : 9 ^ f ≤ 9 ^ 8 := Nat.pow_le_pow_right (by omega) hf
  have h3 : (9 : Nat) ^ 8 = 43046721 := by decide
  omega
/-- 'append([]int{}, l...)'. -/
theorem app_l (v : World) (E Z m c : Nat) (A : Option Addr) (l : List Int) (hO : Own v Z 3 1 icell (some ⟨E, 0, none⟩) 0 ([] : List Int)) (hrow : RowI v ⟨A, c, l⟩) (hlm : l.length = m) (hm : m ≤ 1000) (hZ : Z ≤ v.heap.size) :
    ∃ A4 c4 w4, (Builtin.append_ #[39, 39] 39 #[.slice (some ⟨E, 0, none⟩) 0 0, .slice A m c]).run Try.prog v = .ok (.slice A4 m c4) w4 ∧ Own w4 Z 3 1 icell A4 c4 l ∧ v.grownBy w4 (some E) := by
  obtain ⟨A4, c4, w4, h1, h2, h3, _⟩ := run_append_els (P := Try.prog) 39 39 Z 1 3 (.int .i64 0) 8 Try.underlying39 (by kernel_rfl) rfl (by omega) icell v (some ⟨E, 0, none⟩) 0 0 [] rfl hO A m c l hlm v.heap.size hrow.els
    (fun u hu => by
      obtain ⟨a, _, ha⟩ := List.mem_flatMap.1 hu
      have : u = .int .i64 a := by simpa [icell] using ha
      rw [this]
      rfl) (by unfold maxLen; omega) (by omega) hZ
  rw [Nat.zero_add] at h1
  rw [List.nil_append] at h2
  exact ⟨A4, c4, w4, h1, h2, h3⟩
/-- 'append(l, j)'. -/
theorem app_j (v : World) (J Z m c4 : Nat) (A4 : Option Addr) (l : List Int) (j : Int) (hO : Own v Z 3 1 icell A4 c4 l) (hJ : Blk v J 3 #[.int .i64 j]) (hlm : l.length = m) (hm : m ≤ 1000) (hZ : Z ≤ v.heap.size) :
    ∃ A7 c7 w7, (Builtin.append_ #[39, 39] 39 #[.slice A4 m c4, .slice (some ⟨J, 0, none⟩) 1 1]).run Try.prog v = .ok (.slice A7 (m + 1) c7) w7 ∧ RowI w7 ⟨A7, c7, l ++ [j]⟩ ∧ v.grownBy w7 (blkOf A4) := by
  obtain ⟨A7, c7, w7, h1, h2, h3, _⟩ := run_append_els (P := Try.prog) 39 39 Z 1 3 (.int .i64 0) 8 Try.underlying39 (by kernel_rfl) rfl (by omega) icell v A4 m c4 l hlm hO (some ⟨J, 0, none⟩) 1 1 [j] rfl v.heap.size
    (fun _ => ⟨J, 0, rfl, hJ.lt, fun i a ha k u hu => by
      cases i with
      | zero =>
        simp at ha
        subst ha
        cases k with
        | zero =>
          have : u = .int .i64 j := by simpa [icell] using hu.symm
          rw [this]
          exact hJ.cell 0
        | succ k => simp [icell] at hu
      | succ i => simp at ha⟩)
    (fun u hu => by
      obtain ⟨a, _, ha⟩ := List.mem_flatMap.1 hu
      have : u = .int .i64 a := by simpa [icell] using ha
      rw [this]
      rfl) (by unfold maxLen; omega) (by omega) hZ
  exact ⟨A7, c7, w7, h1, RowI.of_own h2, h3⟩
theorem empty_own (w : World) {Z : Nat} (hZ : Z ≤ w.heap.size) : Own (w.alloc (.cells #[] 3)) Z 3 1 icell (some ⟨w.heap.size, 0, none⟩) 0 ([] : List Int) :=
  Own.lit (f := icell) (c := 1) w Z 3 #[] (fun _ => rfl) [] 0 rfl rfl (by unfold maxLen; omega) hZ
/-- The three orders: in each the longer list lies in a row of its own, and nothing that lay there has turned. -/
theorem ord_a (wr : World) (Z m c : Nat) (A : Option Addr) (l : List Int) (j : Int) (hZ : Z = wr.heap.size) (hrow : RowI wr ⟨A, c, l⟩) (hlm : l.length = m) (hm : m ≤ 1000) :
    ∃ A4 c4 w4 A7 c7 w7, (Builtin.append_ #[39, 39] 39 #[.slice (some ⟨Z, 0, none⟩) 0 0, .slice A m c]).run Try.prog (wr.alloc (.cells #[] 3)).drew = .ok (.slice A4 m c4) w4 ∧ Below Z wr w4 ∧
      (Builtin.append_ #[39, 39] 39 #[.slice A4 m c4, .slice (some ⟨w4.heap.size, 0, none⟩) 1 1]).run Try.prog (w4.alloc (.cells #[.int .i64 j] 3)) = .ok (.slice A7 (m + 1) c7) w7 ∧ RowI w7 ⟨A7, c7, l ++ [j]⟩ ∧ Below Z wr w7 := by
  have b2 : Below Z wr (wr.alloc (.cells #[] 3)).drew := ((Below.refl Z wr).alloc (by omega) _).drew
  have hz2 : (wr.alloc (.cells #[] 3)).drew.heap.size = Z + 1 := by show (wr.alloc _).heap.size = _; rw [size_alloc', hZ]
  obtain ⟨A4, c4, w4, h1, h2, h3⟩ := app_l (wr.alloc (.cells #[] 3)).drew Z Z m c A l (by have := (empty_own wr (Z := Z) (by omega)).drew; rw [← hZ] at this; exact this) (hrow.alloc _).drew hlm hm (by omega)
  have b4 : Below Z wr w4 := b2.grown h3 (by omega) (fun g e => by injection e with e; omega)
  have hz4 : Z ≤ w4.heap.size := by rw [hZ]; exact b4.size
  have ho := h2.alloc (.cells #[.int .i64 j] 3)
  obtain ⟨A7, c7, w7, g1, g2, g3⟩ := app_j (w4.alloc (.cells #[.int .i64 j] 3)) w4.heap.size Z m c4 A4 l j ho (Blk.new w4 _ _) hlm hm (by rw [size_alloc']; omega)
  exact ⟨A4, c4, w4, A7, c7, w7, h1, b4, g1, g2, (b4.alloc hz4 _).grown g3 (by rw [size_alloc']; omega) (fun g e => (h2.lt g e).1)⟩
theorem ord_b (wr : World) (Z m c : Nat) (A : Option Addr) (l : List Int) (j : Int) (hZ : Z = wr.heap.size) (hrow : RowI wr ⟨A, c, l⟩) (hlm : l.length = m) (hm : m ≤ 1000) :
    ∃ A4 c4 w4 A7 c7 w7, (Builtin.append_ #[39, 39] 39 #[.slice (some ⟨Z, 0, none⟩) 0 0, .slice A m c]).run Try.prog ((wr.alloc (.cells #[] 3)).alloc (.cells #[.int .i64 j] 3)).drew = .ok (.slice A4 m c4) w4 ∧ Below Z wr w4 ∧
      (Builtin.append_ #[39, 39] 39 #[.slice A4 m c4, .slice (some ⟨Z + 1, 0, none⟩) 1 1]).run Try.prog w4 = .ok (.slice A7 (m + 1) c7) w7 ∧ RowI w7 ⟨A7, c7, l ++ [j]⟩ ∧ Below Z wr w7 := by
  have b2 : Below Z wr ((wr.alloc (.cells #[] 3)).alloc (.cells #[.int .i64 j] 3)).drew := (((Below.refl Z wr).alloc (by omega) _).alloc (by rw [size_alloc']; omega) _).drew
  have hz2 : ((wr.alloc (.cells #[] 3)).alloc (.cells #[.int .i64 j] 3)).drew.heap.size = Z + 1 + 1 := by show ((wr.alloc _).alloc _).heap.size = _; rw [size_alloc', size_alloc', hZ]
  have hJ : Blk ((wr.alloc (.cells #[] 3)).alloc (.cells #[.int .i64 j] 3)).drew (Z + 1) 3 #[.int .i64 j] := by
    have := (Blk.new (wr.alloc (.cells #[] 3)) 3 #[.int .i64 j]).drew
    rw [size_alloc', ← hZ] at this
    exact this
  obtain ⟨A4, c4, w4, h1, h2, h3⟩ := app_l _ Z Z m c A l (by have := ((empty_own wr (Z := Z) (by omega)).alloc (.cells #[.int .i64 j] 3)).drew; rw [← hZ] at this; exact this) ((hrow.alloc _).alloc _).drew hlm hm (by omega)
  have b4 : Below Z wr w4 := b2.grown h3 (by omega) (fun g e => by injection e with e; omega)
  have hz4 : Z ≤ w4.heap.size := by rw [hZ]; exact b4.size
  obtain ⟨A7, c7, w7, g1, g2, g3⟩ := app_j w4 (Z + 1) Z m c4 A4 l j h2 (hJ.grown h3 (by simp)) hlm hm hz4
  exact ⟨A4, c4, w4, A7, c7, w7, h1, b4, g1, g2, b4.grown g3 hz4 (fun g e => (h2.lt g e).1)⟩
theorem ord_c (wr : World) (Z m c : Nat) (A : Option Addr) (l : List Int) (j : Int) (hZ : Z = wr.heap.size) (hrow : RowI wr ⟨A, c, l⟩) (hlm : l.length = m) (hm : m ≤ 1000) :
    ∃ A4 c4 w4 A7 c7 w7, (Builtin.append_ #[39, 39] 39 #[.slice (some ⟨Z + 1, 0, none⟩) 0 0, .slice A m c]).run Try.prog ((wr.alloc (.cells #[.int .i64 j] 3)).alloc (.cells #[] 3)).drew = .ok (.slice A4 m c4) w4 ∧ Below Z wr w4 ∧
      (Builtin.append_ #[39, 39] 39 #[.slice A4 m c4, .slice (some ⟨Z, 0, none⟩) 1 1]).run Try.prog w4 = .ok (.slice A7 (m + 1) c7) w7 ∧ RowI w7 ⟨A7, c7, l ++ [j]⟩ ∧ Below Z wr w7 := by
  have b2 : Below Z wr ((wr.alloc (.cells #[.int .i64 j] 3)).alloc (.cells #[] 3)).drew := (((Below.refl Z wr).alloc (by omega) _).alloc (by rw [size_alloc']; omega) _).drew
  have hz2 : ((wr.alloc (.cells #[.int .i64 j] 3)).alloc (.cells #[] 3)).drew.heap.size = Z + 1 + 1 := by show ((wr.alloc _).alloc _).heap.size = _; rw [size_alloc', size_alloc', hZ]
  have hJ : Blk ((wr.alloc (.cells #[.int .i64 j] 3)).alloc (.cells #[] 3)).drew Z 3 #[.int .i64 j] := by
    have := ((Blk.new wr 3 #[.int .i64 j]).alloc (.cells #[] 3)).drew
    rw [← hZ] at this
    exact this
  have hE := (empty_own (wr.alloc (.cells #[.int .i64 j] 3)) (Z := Z) (by rw [size_alloc']; omega)).drew
  rw [size_alloc', ← hZ] at hE
  obtain ⟨A4, c4, w4, h1, h2, h3⟩ := app_l _ (Z + 1) Z m c A l hE ((hrow.alloc _).alloc _).drew hlm hm (by omega)
  have b4 : Below Z wr w4 := b2.grown h3 (by omega) (fun g e => by injection e with e; omega)
  have hz4 : Z ≤ w4.heap.size := by rw [hZ]; exact b4.size
  obtain ⟨A7, c7, w7, g1, g2, g3⟩ := app_j w4 Z Z m c4 A4 l j h2 (hJ.grown h3 (by simp)) hlm hm hz4
  exact ⟨A4, c4, w4, A7, c7, w7, h1, b4, g1, g2, b4.grown g3 hz4 (fun g e => (h2.lt g e).1)⟩
end Go.Proofs.Ytodbhgbgeiailaa
