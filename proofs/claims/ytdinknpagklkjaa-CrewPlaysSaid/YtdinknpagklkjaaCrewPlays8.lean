/- append to a slice that is cut to its length: a new row; the cut 's[:len(s):len(s)]'. Conditions: ints. -/
import Derived.Test.YtdinknpagklkjaaCrewPlays7
import Derived.Test.YtdinknpagklkjaaCrewPlays3
import Derived.Test.YtdinknpagklkjaaCrewPlays1
import Derived.Test.YtdinknpagklkjaaCrewPlays6
import Derived.Lib.SliceRun
import Derived.WalkSpells
import Derived.Test.YtdinknpagklkjaaCrewPlays4
import Derived.Laws.CopyOwn
namespace Go.Proofs.Ytdinknpagklkjaa
open Go.RowKit Go.Shelf

theorem els_kept {α : Type} {f : α → List Value} {X Y : World} {row : Option Nat} {R : Option Addr} {l : List α} {c : Nat} (hf : ∀ a, (f a).length = c) (hc0 : 0 < c) (h : Els X X.heap.size c f R l) (hg : X.grownBy Y row) (hrow : ∀ r, row = some r → ∃ o : Obj, X.heap[r]? = some o ∧ o.isCells = false) : Els Y Y.heap.size c f R l := fun h0 => by
  obtain ⟨b, off, e, hb, hc⟩ := h h0
  have hne : some b ≠ row := fun he => by
    obtain ⟨o, ho, hcl⟩ := hrow b he.symm
    have hx := hc 0 l[0] (by rw [List.getElem?_eq_getElem h0]) 0 ((f l[0])[0]'(by rw [hf]; exact hc0)) (by rw [List.getElem?_eq_getElem])
    unfold World.cell? at hx
    simp only [ho] at hx
    cases o <;> first | (cases hcl; done) | (cases hx; done)
  refine ⟨b, off, e, Nat.lt_of_lt_of_le hb hg.size, fun k a ha j u hu => ?_⟩
  have := hc k a ha j u hu
  unfold World.cell? at this ⊢
  rw [hg.block b hb hne]
  exact this

theorem els_shut {α : Type} {f : α → List Value} {X Y : World} {B : Nat} {R : Option Addr} {l : List α} {c : Nat} (hf : ∀ a, (f a).length = c) (hc0 : 0 < c) (h : Els X X.heap.size c f R l) (hs : Shut B X Y) : Els Y Y.heap.size c f R l := fun h0 => by
  obtain ⟨b, off, e, hb, hc⟩ := h h0
  have hx := hc 0 l[0] (by rw [List.getElem?_eq_getElem h0]) 0 ((f l[0])[0]'(by rw [hf]; exact hc0)) (by rw [List.getElem?_eq_getElem])
  unfold World.cell? at hx
  cases ho : X.heap[b]? with
  | none => simp only [ho] at hx; cases hx
  | some o =>
    have hne : o ≠ Obj.deferred (some []) := fun he => by
      subst he
      simp only [ho] at hx
      cases hx
    have hy := hs.2 b o ho hne
    refine ⟨b, off, e, Nat.lt_of_lt_of_le hb hs.1.size, fun k a ha j u hu => ?_⟩
    have := hc k a ha j u hu
    unfold World.cell? at this ⊢
    rw [hy, ← ho]
    exact this
theorem els_far {w : World} {R : Option Addr} {l : List Int} {g : Nat} {t : TypeId} {sv : Value} (h : Els w w.heap.size 1 icell R l) (hk : Blk w g t #[sv]) (hne : ∀ z, sv ≠ .int .i64 z) (v : Value) : Els (w.setCell ⟨g, 0, none⟩ v) (w.setCell ⟨g, 0, none⟩ v).heap.size 1 icell R l := fun h0 => by
  obtain ⟨b, off, e, hb, hc⟩ := h h0
  have hbg : b ≠ g := by
    rintro rfl
    have hx := hc 0 l[0] (by rw [List.getElem?_eq_getElem h0]) 0 _ rfl
    rw [hk.cell] at hx
    rw [show off + 0 * 1 + 0 = off from by omega] at hx
    cases off with
    | zero => simp at hx; exact hne _ hx
    | succ o => simp at hx
  refine ⟨b, off, e, by simpa [World.setCell] using hb, fun k a ha j u hu => ?_⟩
  have := hc k a ha j u hu
  unfold World.cell? at this ⊢
  rw [Below.heap_setCell w ⟨g, 0, none⟩ v b hbg]
  exact this
theorem wp_append_run {P : Program} {o : Oper} {a : Act} {w : World} {K : Act → World → Prop} {Q : Exit → Act → World → Prop} (s x : Operand) (t : TypeId) (ho : o.op = .call { callee := .builtin .append, args := #[s, x], argTypes := #[t, t] })
    (vs vx : Value) (hs : a.eval s = vs) (hx : a.eval x = vx) (v' : Value) (w' : World) (hrun : (Builtin.append_ #[t, t] o.type #[vs, vx]).run P w = .ok v' w') (h : K (a.put o.dst v') w') : o.wp P a w K Q := by
  unfold Oper.wp execOp
  simp only [ho, resolve, invoke, builtin, Sem.run_bind, Sem.run_pure, Result.andThen_ok, List.map_toArray, List.map_cons, List.map_nil, hs, hx, hrun]
  exact h
theorem run_cut_full {P : Program} {t e : TypeId} (ht : P.underlying t = some (.slice e)) {s : Nat} (hs : ∀ w, (sizeOf e).run P w = .ok s w) (A : Option Addr) (m cap : Nat) (hm : m ≤ cap) (w : World) :
    (Instr.slice t (.slice A m cap) none (some (.int .i64 m)) (some (.int .i64 m))).run P w = .ok (.slice A m m) w := by
  have h1 : (0 : Int) ≤ (m : Int) ∧ (m : Int) ≤ (cap : Int) := by omega
  have h2 : (0 : Int) ≤ (m : Int) ∧ (m : Int) ≤ (m : Int) := by omega
  have ha : ∀ p : Addr, p.add 0 = p := fun p => by simp [Addr.add]
  have hA : (if m = 0 then A else A.map (·.add 0)) = A := by
    cases A <;> simp [ha]
  simp [Instr.slice, run_underlying ht, Instr.sliceBounds, Instr.sliceBound, asIntOf, hm, hs, Result.andThen]
  cases A <;> simp [ha]
theorem run_push_full {P : Program} {t ty e : TypeId} {i : TypeInfo} (ht : P.underlying t = some (.slice e)) (hi : P.info? e = some i) (hz : i.zero = some (.int .i64 0)) (hs1 : i.size = 1) (hby : i.bytes = 8)
    (A : Option Addr) (m : Nat) (l : List Int) (hl : l.length = m) (hm : m ≤ 64) (h0 : m = 0 → A = none) (w : World) (BA : Nat) (hr : Els w BA 1 icell A l) (S : Nat) (x : Int) (hx : w.cell? ⟨S, 0, none⟩ = some (.int .i64 x)) :
    ∃ (cap : Nat) (w' : World), (Builtin.append_ #[t, t] ty #[.slice A m m, .slice (some ⟨S, 0, none⟩) 1 1]).run P w = .ok (.slice (some ⟨w.heap.size, 0, none⟩) (m + 1) cap) w' ∧ m + 1 ≤ cap ∧ Below w.heap.size w w' ∧ w'.heap.size = w.heap.size + 1 ∧
      Els w' w'.heap.size 1 icell (some ⟨w.heap.size, 0, none⟩) (l ++ [x]) := by
  have fin : ∀ (w1 : World) (ys : Array Value), w1.heap.size = w.heap.size → (∀ (k : Nat) (a : Int), (l ++ [x])[k]? = some a → ys[k]? = some (Value.int .i64 a)) → Els (w1.alloc (.cells ys e)) (w1.alloc (.cells ys e)).heap.size 1 icell (some ⟨w.heap.size, 0, none⟩) (l ++ [x]) := by
    intro w1 ys hsz hys _
    refine ⟨w.heap.size, 0, rfl, by rw [size_alloc', hsz]; omega, fun k a ha j u hu => ?_⟩
    have hk := Blk.new w1 e ys
    rw [hsz] at hk
    cases j with
    | zero =>
      simp only [List.getElem?_cons_zero, Option.some.injEq] at hu
      subst hu
      have := hk.cell (k * 1)
      rw [show 0 + k * 1 + 0 = k * 1 from by omega, this, Nat.mul_one]
      exact hys k a ha
    | succ j => simp at hu
  have hcapB : ∀ need old bytes, need ≤ 65 → old < need → bytes = 8 → Builtin.nextslicecap need old * bytes ≤ 281474976710656 := fun need old bytes h1 h2 h3 => growslice_fits h2 (by subst h3; omega)
  have hnews : ∀ j v, [Value.int .i64 x][j]? = some v → w.cell? ((⟨S, 0, none⟩ : Addr).add j) = some v := fun j v hv => by
    cases j with
    | zero =>
      simp at hv
      subst hv
      rw [addr_add]
      exact hx
    | succ j => simp at hv
  have hb : ∀ o, Below w.heap.size w (w.drew.alloc o) := fun o => (Below.refl _ w).drew.alloc (Nat.le_refl _) o
  rcases Nat.eq_zero_or_pos m with hm0 | hmp
  · have hA := h0 hm0
    subst hA hm0
    have hln : l = [] := List.length_eq_zero_iff.1 hl
    subst hln
    refine ⟨_, _, run_append_nil w t ty e i _ ht hi hz ⟨S, 0, none⟩ 1 1 [.int .i64 x] (by rw [hs1]; rfl) hnews (by omega) (by omega) (by rw [hby]; omega), ?_, hb _, size_alloc' _ _, ?_⟩
    · exact grownCap_ge _ _ _ _
    · refine fin w.drew _ rfl fun k a ha => ?_
      cases k with
      | zero => simp at ha; subst ha; first | rfl | (rw [Array.getElem?_append_left (by simp)]; rfl)
      | succ k => simp at ha
  · obtain ⟨b, off, rfl, hbb, hc⟩ := hr (by omega)
    have holds : ∀ j v, (l.map fun a => Value.int .i64 a)[j]? = some v → w.cell? ((⟨b, off, none⟩ : Addr).add j) = some v := fun j v hv => by
      rw [List.getElem?_map] at hv
      cases hlj : l[j]? with
      | none => rw [hlj] at hv; cases hv
      | some a =>
        rw [hlj] at hv
        simp at hv
        subst hv
        have := hc j a hlj 0 _ rfl
        rw [addr_add]
        rwa [Nat.mul_one, Nat.add_zero] at this
    refine ⟨_, _, run_append_grow w t ty e i _ ht hi hz ⟨b, off, none⟩ m m (l.map fun a => Value.int .i64 a) (by rw [hs1, List.length_map, hl, Nat.mul_one]) holds ⟨S, 0, none⟩ 1 1 [.int .i64 x] (by rw [hs1]; rfl) hnews (by omega) (by omega) (by rw [hby]; exact hcapB _ _ _ (by omega) (by omega) rfl), ?_, hb _, size_alloc' _ _, ?_⟩
    · exact grownCap_ge _ _ _ _
    · refine fin w.drew _ rfl fun k a ha => ?_
      have hka : (l.map (fun a => Value.int .i64 a) ++ [Value.int .i64 x])[k]? = some (.int .i64 a) := by
        have := congrArg (Option.map fun a => Value.int .i64 a) ha
        rw [← List.getElem?_map] at this
        simpa using this
      rw [Array.getElem?_append_left (by
        have := (List.getElem?_eq_some_iff.1 ha).1
        simpa using this)]
      simpa using hka
end Go.Proofs.Ytdinknpagklkjaa

/- A slice's tail, as the model cuts it. Conditions: none. -/
namespace Go.Proofs.Ytdinknpagklkjaa
open Go.RowKit

theorem run_tail {P : Program} {t e : TypeId} (ht : P.underlying t = some (.slice e)) (hs : ∀ w, (sizeOf e).run P w = .ok 1 w) (A : Option Addr) (m cap k : Nat) (hk : k ≤ m) (hm : m ≤ cap) (hb : m < 2 ^ 62) (w : World) :
    (Instr.slice t (.slice A m cap) (some (.int .i64 (k : Int))) none none).run P w = .ok (.slice (if cap = k then A else A.map (·.add (k * 1))) (m - k) (cap - k)) w := by
  have h1 : (0 : Int) ≤ (k : Int) ∧ (k : Int) ≤ (m : Int) := by omega
  have h2 : (0 : Int) ≤ (m : Int) ∧ (m : Int) ≤ (cap : Int) := by omega
  simp [Instr.slice, run_underlying ht, Instr.sliceBounds, Instr.sliceBound, asIntOf, hk, hm, hs, Result.andThen]
  done
end Go.Proofs.Ytdinknpagklkjaa

/- First fit in plain Lean: what lies in a box, the box that a thing goes into, all things in an order. Conditions: none. -/
namespace Go.Proofs.Ytdinknpagklkjaa

/-- What is in box j, of the first k. -/
def inTo (sz R : List Int) (j : Int) : Nat → Int
  | 0 => 0
  | k + 1 => inTo sz R j k + if R.getD k 0 = j then sz.getD k 0 else 0
def inB (sz R : List Int) (j : Int) : Int := inTo sz R j R.length
theorem inTo_set (sz R : List Int) (j b : Int) (i : Nat) (hi : i < R.length) (hne : R.getD i 0 ≠ j) : ∀ k, inTo sz (R.set i b) j k = inTo sz R j k + if i < k ∧ b = j then sz.getD i 0 else 0
  | 0 => by simp [inTo]
  | k + 1 => by
    rw [inTo, inTo, inTo_set sz R j b i hi hne k]
    by_cases hik : i = k
    · subst hik
      have h1 : (R.set i b).getD i 0 = b := by simp [List.getD_eq_getElem?_getD, hi]
      rw [h1]
      repeat' split
      all_goals omega
    · have h1 : (R.set i b).getD k 0 = R.getD k 0 := by simp [List.getD_eq_getElem?_getD, List.getElem?_set, hik]
      rw [h1]
      repeat' split
      all_goals omega
theorem inTo_none (sz R : List Int) (j : Int) : ∀ k, (∀ i, i < k → R.getD i 0 ≠ j) → inTo sz R j k = 0
  | 0, _ => rfl
  | k + 1, h => by
    rw [inTo, inTo_none sz R j k (fun i hi => h i (by omega)), if_neg (h k (by omega))]
    rfl
theorem inTo_bounds (sz R : List Int) (j M : Int) (hs : ∀ i, 0 ≤ sz.getD i 0 ∧ sz.getD i 0 ≤ M) : ∀ k, 0 ≤ inTo sz R j k ∧ inTo sz R j k ≤ M * k
  | 0 => by simp [inTo]
  | k + 1 => by
    have h1 := inTo_bounds sz R j M hs k
    have h2 := hs k
    have h3 : M * ((k + 1 : Nat) : Int) = M * (k : Int) + M := by rw [Int.natCast_add, Int.mul_add]; simp
    rw [inTo, h3]
    split <;> omega
theorem inTo_mono (sz R : List Int) (j M : Int) (hs : ∀ i, 0 ≤ sz.getD i 0 ∧ sz.getD i 0 ≤ M) {k m : Nat} (h : k ≤ m) : inTo sz R j k ≤ inTo sz R j m := by
  induction m with
  | zero =>
    obtain rfl : k = 0 := by omega
    exact Int.le_refl _
  | succ m ih =>
    by_cases hk : k = m + 1
    · subst hk; exact Int.le_refl _
    · have := ih (by omega)
      have := hs m
      rw [inTo]
      split <;> omega
/-- j is the first box with room for x. -/
def IsFit (sz R : List Int) (room x : Int) (j : Nat) : Prop := inB sz R j + x ≤ room ∧ ∀ k : Nat, k < j → room < inB sz R k + x
theorem IsFit.unique {sz R : List Int} {room x : Int} {i j : Nat} (h : IsFit sz R room x i) (h' : IsFit sz R room x j) : i = j := by
  rcases Nat.lt_trichotomy i j with hlt | rfl | hgt
  · have := h'.2 i hlt; have := h.1; omega
  · rfl
  · have := h.2 j hgt; have := h'.1; omega
/-- All of a list of things that have found their box, one after the other. -/
inductive Fits (sz : List Int) (room : Int) : List Int → List Int → List Int → Prop
  | nil (R : List Int) : Fits sz room R [] R
  | cons (R R' : List Int) (i : Nat) (l : List Int) (j : Nat) (h : IsFit sz R room (sz.getD i 0) j) (t : Fits sz room (R.set i j) l R') : Fits sz room R ((i : Int) :: l) R'
theorem Fits.unique {sz : List Int} {room : Int} {R l R1 R2 : List Int} (h : Fits sz room R l R1) (h' : Fits sz room R l R2) : R1 = R2 := by
  generalize hl : l = l' at h'
  induction h generalizing l' R2 with
  | nil R => subst hl; cases h'; rfl
  | cons R R' i l j h t ih =>
    subst hl
    generalize hm : (i : Int) :: l = m at h'
    cases h' with
    | nil => cases hm
    | cons _ _ i' l' j' h2 t2 =>
      injection hm with h3 h4
      have h3 : i = i' := by omega
      subst h3
      subst h4
      have := h.unique h2
      subst this
      exact ih _ rfl t2
theorem Fits.snoc {sz : List Int} {room : Int} {R l R1 : List Int} (h : Fits sz room R l R1) (i j : Nat) (hf : IsFit sz R1 room (sz.getD i 0) j) : Fits sz room R (l ++ [(i : Int)]) (R1.set i j) := by
  induction h with
  | nil R => exact .cons _ _ i _ j hf (.nil _)
  | cons R R' i' l j' h' t ih => exact .cons _ _ i' _ j' h' (ih hf)
/-- Things stand in boxes below m, those not yet placed at -1. -/
structure Placed (n m : Nat) (R : List Int) : Prop where
  len : R.length = n
  lo : ∀ i, i < n → -1 ≤ R.getD i 0
  hi : ∀ i, i < n → R.getD i 0 < m
theorem Placed.empty {n m : Nat} {R : List Int} (h : Placed n m R) (sz : List Int) {j : Nat} (hj : m ≤ j) : inB sz R j = 0 := by
  unfold inB
  rw [h.len]
  exact inTo_none sz R j n fun i hi => by have := h.hi i hi; omega
theorem Placed.set_ {n m : Nat} {R : List Int} (h : Placed n m R) {i j : Nat} (hi : i < n) (hj : j ≤ m) : Placed n (max m (j + 1)) (R.set i j) := by
  refine ⟨by rw [List.length_set, h.len], fun k hk => ?_, fun k hk => ?_⟩
  · by_cases hik : i = k
    · subst hik
      have : (R.set i (j : Int)).getD i 0 = j := by simp [List.getD_eq_getElem?_getD, h.len, hi]
      omega
    · have : (R.set i (j : Int)).getD k 0 = R.getD k 0 := by simp [List.getD_eq_getElem?_getD, List.getElem?_set, hik]
      have := h.lo k hk
      omega
  · by_cases hik : i = k
    · subst hik
      have : (R.set i (j : Int)).getD i 0 = j := by simp [List.getD_eq_getElem?_getD, h.len, hi]
      omega
    · have : (R.set i (j : Int)).getD k 0 = R.getD k 0 := by simp [List.getD_eq_getElem?_getD, List.getElem?_set, hik]
      have := h.hi k hk
      omega
theorem inB_set {n m : Nat} {R : List Int} (h : Placed n m R) (sz : List Int) {i b : Nat} (hi : i < n) (hno : R.getD i 0 = -1) (j : Nat) : inB sz (R.set i b) j = inB sz R j + if b = j then sz.getD i 0 else 0 := by
  unfold inB
  rw [List.length_set, inTo_set sz R j b i (by rw [h.len]; exact hi) (by omega), h.len]
  congr 1
  by_cases hb : b = j
  · rw [if_pos hb, if_pos ⟨hi, by omega⟩]
  · rw [if_neg hb, if_neg (fun h => hb (by omega))]
/-- Which have their box. -/
def filled (R : List Int) : List Int := R.map fun v => if v < 0 then 0 else v
theorem filled_set (R : List Int) (i j : Nat) : filled (R.set i j) = (filled R).set i j := by
  unfold filled
  rw [List.map_set]
  congr 1
theorem filled_all {n m : Nat} {R : List Int} (h : Placed n m R) (hall : ∀ i, i < n → R.getD i 0 ≠ -1) : filled R = R := by
  apply List.ext_getElem (by simp [filled])
  intro i h1 h2
  have hi : i < n := by rw [← h.len]; exact h2
  have e : R.getD i 0 = R[i] := by simp [List.getD_eq_getElem?_getD, h2]
  have := h.lo i hi
  have := hall i hi
  simp only [filled, List.getElem_map]
  rw [if_neg (by rw [← e]; omega)]
/-- The boxes as the program keeps them. -/
structure Boxes (sz R bs : List Int) (n : Nat) : Prop where
  pl : Placed n bs.length R
  sum : ∀ j, j < bs.length → bs.getD j 0 = inB sz R j
theorem getD_set_eq (l : List Int) (i : Nat) (x : Int) (hi : i < l.length) : (l.set i x).getD i 0 = x := by simp [List.getD_eq_getElem?_getD, hi]
theorem getD_set_ne (l : List Int) (i k : Nat) (x : Int) (h : i ≠ k) : (l.set i x).getD k 0 = l.getD k 0 := by simp [List.getD_eq_getElem?_getD, List.getElem?_set, h]
theorem Boxes.into {sz R bs : List Int} {n i j : Nat} (h : Boxes sz R bs n) (hi : i < n) (hj : j < bs.length) (hno : R.getD i 0 = -1) : Boxes sz (R.set i j) (bs.set j (bs.getD j 0 + sz.getD i 0)) n := by
  refine ⟨?_, fun k hk => ?_⟩
  · have := h.pl.set_ (i := i) (j := j) hi (by omega)
    rw [Nat.max_eq_left (by omega)] at this
    rw [List.length_set]
    exact this
  · rw [List.length_set] at hk
    rw [inB_set h.pl sz hi hno]
    by_cases hjk : j = k
    · subst hjk
      rw [getD_set_eq _ _ _ hj, if_pos rfl, h.sum j hj]
    · rw [getD_set_ne _ _ _ _ hjk, if_neg hjk, h.sum k hk]
      omega
theorem Boxes.more {sz R bs : List Int} {n : Nat} (h : Boxes sz R bs n) : Boxes sz R (bs ++ [0]) n := by
  refine ⟨⟨h.pl.len, h.pl.lo, fun i hi => ?_⟩, fun j hj => ?_⟩
  · have := h.pl.hi i hi
    rw [List.length_append]
    simp only [List.length_cons, List.length_nil]
    omega
  · by_cases hb : j < bs.length
    · rw [← h.sum j hb]
      simp [List.getD_eq_getElem?_getD, List.getElem?_append, hb]
    · have hj' : j = bs.length := by simp at hj; omega
      subst hj'
      rw [h.pl.empty sz (Nat.le_refl _)]
      simp [List.getD_eq_getElem?_getD]
theorem idxF_some {α : Type} {p : α → Bool} {l : List α} (h : l.any p = true) : ∃ k, ∃ hk : k < l.length, idxF p l = k ∧ p l[k] = true ∧ ∀ j, ∀ hj : j < k, p (l[j]'(by omega)) = false := by
  obtain ⟨x, hx, hp⟩ := List.any_eq_true.1 h
  have hlt : l.findIdx p < l.length := List.findIdx_lt_length_of_exists ⟨x, hx, hp⟩
  refine ⟨l.findIdx p, hlt, ?_, List.findIdx_getElem (w := hlt), fun j hj => ?_⟩
  · unfold idxF
    rw [if_pos h]
  · have := List.not_of_lt_findIdx hj
    simpa using this
theorem idxF_no {α : Type} {p : α → Bool} {l : List α} (h : l.any p = false) : idxF p l = -1 := by
  unfold idxF
  rw [if_neg (by rw [h]; simp)]
/-- The program's box is the first one with room. -/
theorem Boxes.fit {sz R bs : List Int} {n : Nat} (h : Boxes sz R bs n) (room x : Int) (hx : x ≤ room) :
    (bs.any (fun y => decide (y + x ≤ room)) = false ∧ IsFit sz R room x bs.length) ∨ ∃ k, k < bs.length ∧ idxF (fun y => decide (y + x ≤ room)) bs = k ∧ IsFit sz R room x k := by
  rcases ha : bs.any (fun y => decide (y + x ≤ room)) with _ | _
  · left
    refine ⟨rfl, by rw [h.pl.empty sz (Nat.le_refl _)]; omega, fun k hk => ?_⟩
    have := List.any_eq_false.1 ha bs[k] (List.getElem_mem hk)
    have e : bs.getD k 0 = bs[k] := by simp [List.getD_eq_getElem?_getD, hk]
    rw [← h.sum k hk, e]
    simpa using this
  · right
    obtain ⟨k, hk, h1, h2, h3⟩ := idxF_some ha
    refine ⟨k, hk, h1, ?_, fun j hj => ?_⟩
    · have e : bs.getD k 0 = bs[k] := by simp [List.getD_eq_getElem?_getD, hk]
      rw [← h.sum k hk, e]
      simpa using h2
    · have e : bs.getD j 0 = bs[j]'(by omega) := by simp [List.getD_eq_getElem?_getD, show j < bs.length by omega]
      have := h3 j hj
      rw [← h.sum j (by omega), e]
      simpa using this
def placesL (n : Nat) : List Int := (List.range n).map fun i : Nat => (i : Int)
theorem placesL_length (n : Nat) : (placesL n).length = n := by simp [placesL]
theorem placesL_succ (n : Nat) : placesL (n + 1) = placesL n ++ [(n : Int)] := by simp [placesL, List.range_succ]
theorem placesL_mem {n i : Nat} (h : i < n) : (i : Int) ∈ placesL n := by
  unfold placesL
  exact List.mem_map.2 ⟨i, List.mem_range.2 h, rfl⟩
theorem placesL_get {n k : Nat} (h : k < n) : (placesL n).getD k 0 = k := by simp [placesL, List.getD_eq_getElem?_getD, h]
theorem placesL_nodup (n : Nat) : (placesL n).Nodup := by
  unfold placesL
  refine List.Pairwise.map _ ?_ List.nodup_range
  intro a b h
  omega
end Go.Proofs.Ytdinknpagklkjaa

/- slices.DeleteFunc at slices of ints, whatever the closure. Conditions: the slice is a row of its own; the closure answers p and changes nothing. -/
namespace Go.Proofs.Ytdinknpagklkjaa
open Go.RowKit

theorem gb_trans {a b c : World} {row : Option Nat} (h : a.grownBy b row) (k : b.grownBy c row) : a.grownBy c row :=
  ⟨k.os.trans h.os, k.tape.trans h.tape, k.output.trans h.output, Nat.le_trans h.size k.size, fun i hi hn => (k.block i (Nat.lt_of_lt_of_le hi h.size) hn).trans (h.block i hi hn)⟩
theorem gb_setCell (w : World) (g i : Nat) (v : Value) : w.grownBy (w.setCell ⟨g, i, none⟩ v) (some g) :=
  ⟨rfl, rfl, rfl, by simp [World.setCell], fun k _ hn => Below.heap_setCell w ⟨g, i, none⟩ v k (fun e => hn (by rw [e]))⟩
theorem gb_below {w w' : World} {row : Option Nat} (h : Below w.heap.size w w') : w.grownBy w' row := ⟨h.os, h.tape, h.output, h.size, fun k hk _ => h.block k hk⟩
theorem Own.cut {α : Type} {w : World} {B c cap g : Nat} {e : TypeId} {f : α → List Value} {X : List α} : ∀ (m : Nat) (Y : List α), Y.length = m → Own w B e c f (some ⟨g, 0, none⟩) cap (X ++ Y) → Own w B e c f (some ⟨g, 0, none⟩) cap X
  | 0, Y, h, ho => by
    rw [List.length_eq_zero_iff.1 h, List.append_nil] at ho
    exact ho
  | m + 1, Y, h, ho => by
    have hne : Y ≠ [] := fun e => by rw [e] at h; simp at h
    refine Own.cut m Y.dropLast (by rw [List.length_dropLast]; omega) (Own.pop (x := Y.getLast hne) ?_)
    rw [List.append_assoc, List.dropLast_concat_getLast]
    exact ho
theorem Own.first {α : Type} {w : World} {B c cap g : Nat} {e : TypeId} {f : α → List Value} {L : List α} (h : Own w B e c f (some ⟨g, 0, none⟩) cap L) (i : Nat) : Own w B e c f (some ⟨g, 0, none⟩) cap (L.take i) := by
  refine Own.cut _ (L.drop i) rfl ?_
  rw [List.take_append_drop]
  exact h
theorem own_setCells {w : World} {B cap g : Nat} {e : TypeId} {f : Int → Value} (z : Int) : ∀ (k o : Nat) (w : World) (L : List Int), o + k ≤ L.length → Own w B e 1 (fun a => [f a]) (some ⟨g, 0, none⟩) cap L → ∃ L', L'.length = L.length ∧ L'.take o = L.take o ∧ Own (w.setCells g o (List.replicate k (f z))) B e 1 (fun a => [f a]) (some ⟨g, 0, none⟩) cap L' ∧ w.grownBy (w.setCells g o (List.replicate k (f z))) (some g)
  | 0, o, w, L, _, h => ⟨L, rfl, rfl, h, World.grownBy.refl w _⟩
  | k + 1, o, w, L, hk, h => by
    obtain ⟨L', h1, h2, h3, h4⟩ := own_setCells (w := w) z k (o + 1) (w.setCell ⟨g, o, none⟩ (f z)) (L.set o z) (by rw [List.length_set]; omega) (h.put1 (by omega))
    refine ⟨L', by rw [h1, List.length_set], ?_, h3, gb_trans (gb_setCell w g o _) h4⟩
    have := congrArg (List.take o) h2
    rw [List.take_take, List.take_take, Nat.min_eq_left (by omega), List.take_set_of_le (Nat.le_refl _)] at this
    exact this
/-- While the second loop goes: j places looked at, i kept. -/
structure DelAt (p : Int → Bool) (l L : List Int) (i j : Nat) : Prop where
  len : L.length = l.length
  lt : i < j
  le : j ≤ l.length
  head : L.take i = (l.take j).filter fun x => !p x
  tail : L.drop j = l.drop j
theorem DelAt.start {p : Int → Bool} {l : List Int} {k : Nat} (hk : k < l.length) (h : p l[k] = true) (hno : ∀ j, ∀ hj : j < k, p (l[j]'(by omega)) = false) : DelAt p l l k (k + 1) := by
  refine ⟨rfl, Nat.lt_succ_self _, hk, ?_, rfl⟩
  rw [List.take_succ_eq_append_getElem hk, List.filter_append]
  have e1 : (l.take k).filter (fun x => !p x) = l.take k := by
    rw [List.filter_eq_self]
    intro x hx
    obtain ⟨j, hj, rfl⟩ := List.mem_iff_getElem.1 hx
    rw [List.getElem_take, hno j (by rw [List.length_take] at hj; omega)]
    rfl
  rw [e1]
  simp [h]
theorem DelAt.at {p : Int → Bool} {l L : List Int} {i j : Nat} (h : DelAt p l L i j) (hj : j < l.length) : L[j]'(by rw [h.len]; exact hj) = l[j] := by
  have := congrArg (fun m : List Int => m[0]?) h.tail
  simp only [List.getElem?_drop, Nat.add_zero] at this
  rw [List.getElem?_eq_getElem (by rw [h.len]; exact hj), List.getElem?_eq_getElem hj] at this
  simpa using this
theorem DelAt.skip {p : Int → Bool} {l L : List Int} {i j : Nat} (h : DelAt p l L i j) (hj : j < l.length) (hp : p l[j] = true) : DelAt p l L i (j + 1) := by
  have := h.lt
  refine ⟨h.len, by omega, hj, ?_, ?_⟩
  · rw [List.take_succ_eq_append_getElem hj, List.filter_append, h.head]
    simp [hp]
  · have := congrArg (List.drop 1) h.tail
    rwa [List.drop_drop, List.drop_drop] at this
theorem DelAt.keep {p : Int → Bool} {l L : List Int} {i j : Nat} (h : DelAt p l L i j) (hj : j < l.length) (hp : p l[j] = false) : DelAt p l (L.set i l[j]) (i + 1) (j + 1) := by
  have h1 := h.lt
  have h2 := h.le
  have h3 := h.len
  refine ⟨by rw [List.length_set]; exact h.len, by omega, hj, ?_, ?_⟩
  · rw [List.take_succ_eq_append_getElem (by rw [List.length_set]; omega), List.getElem_set_self, List.take_set_of_le (Nat.le_refl _), h.head, List.take_succ_eq_append_getElem hj, List.filter_append]
    simp [hp]
  · have := congrArg (List.drop 1) h.tail
    rw [List.drop_drop, List.drop_drop] at this
    rw [List.drop_set_of_lt (by omega)]
    exact this
theorem gb_own {w wx : World} {B cap n : Nat} {A : Option Addr} {l : List Int} (hb : Below n w wx) (hn : w.heap.size ≤ n) : w.grownBy wx (blkOf A) := ⟨hb.os, hb.tape, hb.output, hb.size, fun k hk _ => hb.block k (by omega)⟩

set_option maxRecDepth 100000 in
set_option maxHeartbeats 1000000 in
theorem DeleteFunc_ints (F : FuncId) (hF : Ent Try.prog F) (lb : Array Value) (p : Int → Bool) (A : Option Addr) (n B cap : Nat) (l : List Int) (w : World) (hl : l.length = n) (hn : n ≤ 65536) (ho : Own w B 3 1 icell A cap l)
    (H : ∀ (a : Int) (wx : World), w.grownBy wx (blkOf A) → Calls Try.prog F (#[.int .i64 a] ++ lb) wx fun e w' => e = .returned (.bool (p a)) ∧ w' = wx) :
    Calls Try.prog 116 #[.slice A n cap, .func (.func F) #[] lb] w fun e w' => e = .returned (.slice A (l.filter fun x => !p x).length cap) ∧ Own w' B 3 1 icell A cap (l.filter fun x => !p x) ∧ w.grownBy w' (blkOf A) := by
  have HIX := Lib.hid (IndexFunc_ints F hF lb p A n cap l w hl (by unfold maxLen; omega) ho.els (fun a wx _ hb => (H a wx (gb_below hb)).mono fun e w' ⟨he, hw⟩ => ⟨he, by rw [hw]; exact Below.refl _ _⟩))
  rcases hany : l.any p with _ | _
  · rw [idxF_no hany] at HIX
    have hfil : (l.filter fun x => !p x) = l := by
      rw [List.filter_eq_self]
      intro x hx
      have := List.any_eq_false.1 hany x hx
      simpa using this
    rw [hfil, hl]
    have HO := Lib.hid ho
    clear hany ho H hfil hl
    go_enter Try.func116, Try.ntmps116
    go_wp2_with fail
    refine HIX.out.mono ?_
    clear HIX
    rintro e w1 ⟨rfl, hb⟩
    have HG := Lib.hid (gb_below (row := blkOf A) hb)
    have HO1 := Lib.hid (HO.out.below hb (Nat.le_refl _))
    clear hb
    go_wp2_with fail
    go_ret
    exact ⟨rfl, HO1.out, HG.out⟩
  · obtain ⟨k, hk, hix, hpk, hno⟩ := idxF_some hany
    rw [hix] at HIX
    have hd0 := DelAt.start hk hpk hno
    obtain ⟨g, rfl, hgB, -, -, -⟩ := ho.cell1 hk
    have hcap := ho.cap_le
    have HO := Lib.hid ho
    have HH := Lib.hid H
    have HL := Lib.hid hl
    have HD0 := Lib.hid hd0
    have hkn : k < n := by omega
    rw [hl] at hcap
    unfold Ent at hF
    clear ho H hl hpk hno hix hany hd0 hk
    go_enter Try.func116, Try.ntmps116
    go_wp2_with fail
    refine HIX.out.mono ?_
    clear HIX
    rintro e w1 ⟨rfl, hb⟩
    have HG := Lib.hid (gb_below (row := some g) hb)
    have HO1 := Lib.hid (HO.out.below hb (Nat.le_refl _))
    clear hb
    have hk1 : ¬ ((k : Int) = -1) := by omega
    have hk2 : ((k : Int) == -1) = false := by simp
    go_wp2_with fail
    go_loopw [5, 6] (fun s5 s6 wr => ∃ (i j : Nat) (L : List Int), s5 = .int .i64 i ∧ s6 = .int .i64 j ∧ DelAt p l L i j ∧ Own wr B 3 1 icell (some ⟨g, 0, none⟩) cap L ∧ w.grownBy wr (some g)) (fun _ s6 _ => n - (intOf s6).toNat)
    case atStart => exact ⟨k, k + 1, l, rfl, by go_num, HD0.out, HO1.out, HG.out⟩
    case round =>
      clear HG HO1 HD0
      rename World => wr
      obtain ⟨i, j, L, rfl, rfl, hd, ho, hg⟩ := hrel
      have h1 := hd.lt
      have h2 := hd.le
      have h3 := hd.len
      rw [HL.out] at h2 h3
      have HD := Lib.hid hd
      have HO2 := Lib.hid ho
      have HG2 := Lib.hid hg
      by_cases hjn : j < n
      · have hjl : j < l.length := by rw [HL.out]; exact hjn
        have hjL : j < L.length := by omega
        have hiL : i < L.length := by omega
        obtain ⟨g', hg', _, _, r0, _⟩ := ho.cell1 hjL
        have : g = g' := by simpa using hg'
        subst this
        rw [hd.at hjl] at r0
        obtain ⟨g'', hg'', _, _, r1, f1⟩ := ho.cell1 hiL
        have : g = g'' := by simpa using hg''
        subst this
        have hsk := hd.skip hjl
        have hkp := hd.keep hjl
        have hput := ho.put1 (x := l[j]) hiL
        obtain ⟨x, hx⟩ : ∃ x, x = l[j] := ⟨_, rfl⟩
        rw [← hx] at r0 hsk hkp hput
        have hcall := HH.out x wr hg
        have HC := Lib.hid hcall
        have HS := Lib.hid hsk
        have HK := Lib.hid hkp
        have HPUT := Lib.hid hput
        generalize L[i] = y1 at r1
        clear hd ho hg hcall hsk hkp hput hx
        rcases Bool.eq_false_or_eq_true (p x) with hp | hp
        · have HD2 := Lib.hid (HS.out hp)
          rw [hp] at HC
          clear hp HS HK HPUT
          go_wp2_with fail
          refine HC.out.mono ?_
          rintro e w2 ⟨rfl, rfl⟩
          go_wp2_with fail
          go_roundw
          case rel => exact ⟨i, j + 1, L, rfl, by go_num, HD2.out, HO2.out, HG2.out⟩
          case measure => simp [intOf]; omega
        · have HD2 := Lib.hid (HK.out hp)
          rw [hp] at HC
          clear hp HS HK
          go_wp2_with fail
          refine HC.out.mono ?_
          rintro e w2 ⟨rfl, rfl⟩
          go_wp2_with fail
          go_roundw
          case rel => exact ⟨i + 1, j + 1, _, by go_num, by go_num, HD2.out, HPUT.out, gb_trans HG2.out (gb_setCell _ _ _ _)⟩
          case measure => simp [intOf]; omega
      · obtain rfl : j = n := by omega
        have hct : ∀ W0 : World, (Instr.slice 27 (.slice (some ⟨g, 0, none⟩) j cap) (some (.int .i64 (i : Int))) none none).run Try.prog W0 = .ok (.slice (some ⟨g, i, none⟩) (j - i) (cap - i)) W0 := fun W0 => by
          have := run_tail Try.underlying27 (fun w => by kernel_rfl) (some ⟨g, 0, none⟩) j cap i (by omega) hcap (by omega) W0
          rw [this, if_neg (by omega)]
          simp [addr_add]
        have hcl := Lib.run_clear_slice (P := Try.prog) wr 27 3 0 (.int .i64 0) Try.underlying27 (fun w => by kernel_rfl) rfl rfl g i (j - i) (cap - i) (by omega) (fun q hq => by
          obtain ⟨g', hg', _, _, r, _⟩ := ho.cell1 (k := i + q) (by omega)
          have : g' = g := by simpa using hg'.symm
          subst this
          rw [r]; rfl) (fun q hq => by
          obtain ⟨g', hg', _, _, _, f⟩ := ho.cell1 (k := i + q) (by omega)
          have : g' = g := by simpa using hg'.symm
          subst this
          exact f)
        obtain ⟨L', e1, e2, e3, e4⟩ := own_setCells (w := wr) (f := fun x : Int => Value.int .i64 x) 0 (j - i) i wr L (by omega) ho
        have hfin := e3.first i
        rw [e2, hd.head, List.take_of_length_le (by rw [HL.out]; exact Nat.le_refl _)] at hfin
        have hlen : (l.filter fun x => !p x).length = i := by
          have := congrArg List.length hd.head
          rw [List.length_take, List.take_of_length_le (by rw [HL.out]; exact Nat.le_refl _)] at this
          omega
        have HF := Lib.hid hfin
        have HG3 := Lib.hid (gb_trans hg e4)
        have HLEN := Lib.hid hlen
        obtain ⟨w9, hw9⟩ : ∃ w9, w9 = wr.setCells g i (List.replicate (j - i) (.int .i64 0)) := ⟨_, rfl⟩
        rw [← hw9] at hcl HF HG3
        clear hd ho hg e1 e2 e3 e4 hfin hlen hw9
        go_wp2_with fail
        go_ret
        exact ⟨by rw [HLEN.out]; rfl, HF.out, HG3.out⟩
end Go.Proofs.Ytdinknpagklkjaa

/- A copy of a slice with one element behind: 'append(append([]T{}, l...), x)'. Conditions: none. -/
namespace Go.Proofs.Ytdinknpagklkjaa
open Go.RowKit

theorem snoc_size {W w5 : World} {o : Obj} {S : Nat} {row : Option Nat} (hS : W.heap.size = S) (g2 : (W.alloc o).grownBy w5 row) : S ≤ w5.heap.size := by
  have := g2.size
  rw [size_alloc'] at this
  omega
theorem snoc_done {α : Type} {W w5 w6 : World} {o o2 : Obj} {S c cap2 cap3 : Nat} {e : TypeId} {f : α → List Value} {A2 A3 : Option Addr} {l : List α} {x : α} (hS : W.heap.size = S)
    (h2 : Own w5 S e c f A2 cap2 ([] ++ l)) (g2 : (W.alloc o).grownBy w5 (blkOf (some ⟨S, 0, none⟩))) (h3 : Own w6 S e c f A3 cap3 ([] ++ l ++ [x])) (g3 : (w5.alloc o2).grownBy w6 (blkOf A2)) :
    Below S W w6 ∧ Own w6 S e c f A3 cap3 (l ++ [x]) ∧ S < w6.heap.size := by
  have b1 : Below S W (W.alloc o) := (Below.refl S W).alloc (by omega) o
  have b2 : Below S W w5 := b1.grown g2 (by rw [size_alloc']; omega) (fun g hg => by
    have : S = g := by simpa [blkOf] using hg
    omega)
  have z5 : S < w5.heap.size := by
    have := g2.size
    rw [size_alloc'] at this
    omega
  have b3 : Below S W (w5.alloc o2) := b2.alloc (by omega) o2
  have b4 : Below S W w6 := b3.grown g3 (by rw [size_alloc']; omega) (fun g hg => (h2.lt g hg).1)
  refine ⟨b4, by rw [List.nil_append] at h3; exact h3, ?_⟩
  have := g3.size
  rw [size_alloc'] at this
  omega
/-- The empty literal. -/
theorem Own.empty {α : Type} (w : World) (e : TypeId) (c : Nat) (f : α → List Value) (hf : ∀ a, (f a).length = c) : Own (w.alloc (.cells #[] e)) w.heap.size e c f (some ⟨w.heap.size, 0, none⟩) 0 ([] : List α) :=
  Own.lit (f := f) (c := c) w w.heap.size e #[] hf [] 0 rfl rfl (by unfold maxLen; omega) (Nat.le_refl _)
theorem Own.empty_at {α : Type} {w : World} {S : Nat} (hS : w.heap.size = S) (e : TypeId) (c : Nat) (f : α → List Value) (hf : ∀ a, (f a).length = c) : Own (w.alloc (.cells #[] e)) S e c f (some ⟨S, 0, none⟩) 0 ([] : List α) := by
  subst hS
  exact Own.empty w e c f hf
end Go.Proofs.Ytdinknpagklkjaa

/- slices.Clone at workers. Conditions: the slice reads as a list. -/
namespace Go.Proofs.Ytdinknpagklkjaa
open Go.RowKit

set_option maxRecDepth 100000 in
theorem Clone_workers (A : Option Addr) (n c : Nat) (l : List Wk) (w : World) (hl : l.length = n) (hn : n ≤ 65536) (hr : Els w w.heap.size 2 wkcell A l) :
    Calls Try.prog 114 #[.slice A n c] w fun e w' => ∃ A' cap, e = .returned (.slice A' n cap) ∧ Below w.heap.size w w' ∧ Own w' w.heap.size 39 2 wkcell A' cap l := by
  have HL := Lib.hid hl
  have HR := Lib.hid hr
  clear hl hr
  cases A with
  | none =>
    have h0 : n = 0 := by
      by_cases h : 0 < l.length
      · obtain ⟨b, off, he, _⟩ := HR.out h
        cases he
      · have := HL.out; omega
    subst h0
    have hnil : l = [] := List.length_eq_zero_iff.1 HL.out
    subst hnil
    clear HR HL
    have hq : ∀ W : World, (binOp .eql 22 (.slice none 0 c) (.slice none 0 0)).run Try.prog W = .ok (.bool true) W := fun W => Lib.run_eql_slice_nil W 22 39 none 0 c 0 0 Try.underlying22
    go_enter Try.func114, Try.ntmps114
    go_wp2_with fail
    go_ret
    exact ⟨none, 0, rfl, Below.refl _ _, Own.nil _ _ _ (fun _ => rfl)⟩
  | some p =>
    have HO2 := Lib.hid (Own.empty w 39 2 wkcell (fun _ => rfl))
    have hb0 := (Below.refl w.heap.size w).alloc (Nat.le_refl _) (.cells #[] 39)
    have HB0 := Lib.hid hb0
    have HE2 := Lib.hid (HR.out.below hb0)
    clear hb0
    have hq : ∀ W : World, (binOp .eql 22 (.slice (some p) n c) (.slice none 0 0)).run Try.prog W = .ok (.bool false) W := fun W => Lib.run_eql_slice_nil W 22 39 (some p) n c 0 0 Try.underlying22
    go_enter Try.func114, Try.ntmps114
    go_wp2_with (at_builtin; go_loud (refine wpList_append_els rfl _ _ _ rfl w.heap.size 2 39 (.agg #[.int .i64 0, .int .u32 0]) 16 Try.underlying22 (by kernel_rfl) rfl (by omega) wkcell _ (some ⟨w.heap.size, 0, none⟩) 0 0 [] rfl rfl HO2.out _ _ _ l HL.out rfl _ HE2.out (one_flat (fun a u hu => by simp at hu; rcases hu with rfl | rfl <;> rfl) _) (by unfold maxLen; omega) (by omega) (by rw [size_alloc']; exact Nat.le_succ _) ?_; intro A2 cap2 w3 hown2 hgrow2 hloc2))
    rw [List.nil_append] at hown2
    have HO := Lib.hid hown2
    have HB := Lib.hid (HB0.out.grown hgrow2 (by rw [size_alloc']; omega) (fun g hg => by simp [blkOf] at hg; omega))
    clear hown2 hgrow2 hloc2
    go_ret
    exact ⟨A2, cap2, rfl, HB.out, HO.out⟩
end Go.Proofs.Ytdinknpagklkjaa

/- copy: a whole row filled with a slice of its length. Conditions: none. -/
namespace Go.Proofs.Ytdinknpagklkjaa
open Go.RowKit

theorem run_copy_all {P : Program} {α : Type} {f : α → Value} (w : World) (dT sT ty e : TypeId) (g n dc : Nat) (A : Option Addr) (sc B : Nat) (cur : Array Value) (xs : List α) (hu : P.underlying dT = some (.slice e)) (hs : (P.info? e).map (·.size) = some 1)
    (hg : Blk w g e cur) (hc : cur.size = n) (hx : Els w B 1 (fun a => [f a]) A xs) (hn : xs.length = n) (h1 : ∀ a, (f a).oneCell' = true) :
    ∃ w' : World, (Builtin.copy_ #[dT, sT] ty #[.slice (some ⟨g, 0, none⟩) n dc, .slice A n sc]).run P w = .ok (goInt n) w' ∧ Blk w' g e (xs.map f).toArray ∧ Below g w w' ∧ ∀ k, k ≠ g → w'.heap[k]? = w.heap[k]? := by
  by_cases h0 : n = 0
  · subst h0
    have hx0 : xs = [] := List.length_eq_zero_iff.1 hn
    have hcur : cur = #[] := Array.eq_empty_of_size_eq_zero hc
    subst hx0 hcur
    exact ⟨w, run_copy_none w dT sT ty e _ A 0 dc 0 sc hu hs (by simp), hg, Below.refl _ _, fun _ _ => rfl⟩
  · obtain ⟨b, off, rfl, _, _⟩ := hx (by omega)
    have hcs : ∀ j v, (xs.map f)[j]? = some v → w.cell? ((⟨b, off, none⟩ : Addr).add j) = some v := fun j v hv => hx.cells (fun _ => rfl) rfl j v (by rw [flat1]; exact hv)
    have hone : ∀ v ∈ xs.map f, v.oneCell' = true := fun v hv => by
      obtain ⟨a, _, rfl⟩ := List.mem_map.1 hv
      exact h1 a
    have hlen : (xs.map f).length = n := by rw [List.length_map, hn]
    have := run_copy_row (P := P) w dT sT ty e g 0 n dc ⟨b, off, none⟩ n sc cur e (xs.map f) hu hs hg (by rw [hlen]; simp) hcs (by rw [hlen, hc]; omega) hone
    rw [hlen] at this
    have hdrop : cur.toList.take 0 ++ xs.map f ++ cur.toList.drop (0 + n) = xs.map f := by
      rw [List.drop_of_length_le (by simp [hc]), List.take_zero, List.nil_append, List.append_nil]
    rw [hdrop] at this
    exact ⟨_, this, setRow_heap w g cur _ e (0, 0) hg, below_setRow (Below.refl g w) (Nat.le_refl _) _, fun k hk => setRow_other w g k _ hk⟩
end Go.Proofs.Ytdinknpagklkjaa
