/- The crew: what each change does, and what is true of it always, in plain Lean. Conditions: none. -/
import Derived.Test.YtdinknpagklkjaaCrewPlays6
import Derived.RangeFuncLeaves
import Derived.RangeFuncRecord
import Derived.LoopIn
import Derived.Test.YtdinknpagklkjaaCrewPlays1
import Derived.RangeFuncNested
import Derived.RangeFuncBound
import Derived.RangeFuncCalls
import Derived.Shelf.Abstract
import Derived.Shelf.RegionOpen
import Derived.OwnWalkIn
import Derived.TacticsInMore
import Derived.LoopNIn
import Derived.Test.YtdinknpagklkjaaCrewPlays3
namespace Go.Proofs.Ytdinknpagklkjaa
open Go.RowKit

abbrev Chg := Int × Int × Int
structure Cw where
  codes : List Int
  inn : BitVec 32
  wants : List Int
  tasks : List (List Int)
def nowAt (inn : BitVec 32) (ws : List Wk) (i : Nat) : Wk := if bitB inn i = true then wk ws i else (0, (wk ws i).2)
def nowF (ws : List Wk) (inn : BitVec 32) : List Wk := (List.range ws.length).map (nowAt inn ws)
def tasksF : List Int → List (BitVec 32) → List (BitVec 32)
  | n :: ns, t :: ts => List.replicate n.toNat t ++ tasksF ns ts
  | _, _ => []
def cutF : List Int → List Int → List (List Int)
  | [], _ => []
  | n :: ns, l => (l.take n.toNat).filter (fun j => decide (0 ≤ j)) :: cutF ns (l.drop n.toNat)
noncomputable def tickF (ws : List Wk) (svs : List (BitVec 32)) (inn : BitVec 32) (wants : List Int) : List (List Int) := cutF wants (mostF (nowF ws inn) (tasksF wants svs))
/-- The sum of the first k but s. -/
def othTo (l : List Int) (s : Nat) : Nat → Int
  | 0 => 0
  | k + 1 => if k = s then othTo l s k else othTo l s k + l.getD k 0
def leftF (tasks : List (List Int)) (j : Int) : List (List Int) := tasks.map fun l => l.filter fun x => x != j
noncomputable def chgF (ws : List Wk) (svs : List (BitVec 32)) (c : Cw) (x : Chg) : Cw × Int :=
  if x.1 < 1 ∨ 4 < x.1 then (c, 6)
  else if x.1 = 4 then ({ c with tasks := tickF ws svs c.inn c.wants }, 0)
  else if x.2.1 < 0 ∨ ((if x.1 = 3 then svs.length else ws.length : Nat) : Int) ≤ x.2.1 then (c, 2)
  else if x.1 = 3 then (if x.2.2 < 0 then (c, 4) else if 12 - othTo c.wants x.2.1.toNat c.wants.length < x.2.2 then (c, 1) else ({ c with wants := c.wants.set x.2.1.toNat x.2.2 }, 0))
  else if bitB c.inn x.2.1 = decide (x.1 = 1) then (c, 7)
  else if x.1 = 1 then ({ c with inn := wOr c.inn (wShl w1 x.2.1.toNat) }, 0)
  else ({ c with inn := wBut c.inn (wShl w1 x.2.1.toNat), tasks := leftF c.tasks x.2.1 }, 0)
noncomputable def stepF (ws : List Wk) (svs : List (BitVec 32)) (c : Cw) (x : Chg) : Cw := { (chgF ws svs c x).1 with codes := c.codes ++ [(chgF ws svs c x).2] }
def startF (n : Nat) : Cw := ⟨[], w0, List.replicate n 0, List.replicate n []⟩
noncomputable def playF (ws : List Wk) (svs : List (BitVec 32)) (l : List Chg) : Cw := l.foldl (stepF ws svs) (startF svs.length)
theorem playF_snoc (ws : List Wk) (svs : List (BitVec 32)) (l : List Chg) (x : Chg) : playF ws svs (l ++ [x]) = stepF ws svs (playF ws svs l) x := by
  unfold playF
  rw [List.foldl_append]
  rfl
/-! Sums. -/
theorem othTo_succ (l : List Int) (s k : Nat) : othTo l s (k + 1) = if k = s then othTo l s k else othTo l s k + l.getD k 0 := rfl
theorem sum_set : ∀ (l : List Int) (s : Nat) (n : Int), s < l.length → (l.set s n).sum = l.sum - l.getD s 0 + n
  | [], _, _, h => by cases h
  | a :: l, 0, n, _ => by simp; omega
  | a :: l, s + 1, n, h => by
    have := sum_set l s n (by simpa using h)
    simp only [List.set_cons_succ, List.sum_cons, List.getD_cons_succ]
    omega
theorem oth_sum (l : List Int) (s : Nat) : ∀ k, k ≤ l.length → othTo l s k + (if s < k then l.getD s 0 else 0) = (l.take k).sum
  | 0, _ => by simp [othTo]
  | k + 1, h => by
    have ih := oth_sum l s k (by omega)
    rw [List.take_succ_eq_append_getElem (by omega), List.sum_append, ← ih]
    have e : l.getD k 0 = l[k] := by simp [List.getD_eq_getElem?_getD, List.getElem?_eq_getElem (show k < l.length by omega)]
    rw [othTo_succ]
    by_cases hk : k = s
    · subst hk
      rw [if_pos rfl, if_pos (by omega), if_neg (by omega), e]
      simp
    · rw [if_neg hk, e]
      by_cases h2 : s < k
      · rw [if_pos (by omega), if_pos h2]; simp; omega
      · rw [if_neg (by omega), if_neg h2]; simp
theorem sum_nonneg : ∀ (l : List Int), (∀ n ∈ l, 0 ≤ n) → 0 ≤ l.sum
  | [], _ => by simp
  | a :: l, h => by
    have := sum_nonneg l fun n hn => h n (List.mem_cons_of_mem _ hn)
    have := h a List.mem_cons_self
    rw [List.sum_cons]; omega
theorem mem_le_sum : ∀ (l : List Int), (∀ n ∈ l, 0 ≤ n) → ∀ n ∈ l, n ≤ l.sum
  | [], _, _, h => by cases h
  | a :: l, h, n, hn => by
    have h1 := sum_nonneg l fun n hn => h n (List.mem_cons_of_mem _ hn)
    have h2 := h a List.mem_cons_self
    rw [List.sum_cons]
    rcases List.mem_cons.1 hn with rfl | hn
    · omega
    · have := mem_le_sum l (fun n hn => h n (List.mem_cons_of_mem _ hn)) n hn
      omega
theorem oth_bound {l : List Int} (h : ∀ n ∈ l, 0 ≤ n) (s : Nat) : ∀ k, k ≤ l.length → 0 ≤ othTo l s k ∧ othTo l s k ≤ l.sum := fun k hk => by
  have h1 : (l.take k).sum ≤ l.sum := by
    have e : l.sum = (l.take k).sum + (l.drop k).sum := by rw [← List.sum_append, List.take_append_drop]
    have := sum_nonneg (l.drop k) fun n hn => h n (List.mem_of_mem_drop hn)
    omega
  have h2 := oth_sum l s k hk
  have h3 : 0 ≤ l.getD s 0 := by
    rw [List.getD_eq_getElem?_getD]
    rcases Nat.lt_or_ge s l.length with hs | hs
    · rw [List.getElem?_eq_getElem hs]; exact h _ (List.getElem_mem hs)
    · rw [List.getElem?_eq_none hs]; simp
  have h4 : ∀ k, k ≤ l.length → 0 ≤ othTo l s k := by
    intro k
    induction k with
    | zero => intro _; exact Int.le_refl _
    | succ k ih =>
      intro hk
      have := ih (by omega)
      rw [othTo_succ]
      split
      · exact this
      · have : 0 ≤ l.getD k 0 := by
          rw [List.getD_eq_getElem?_getD, List.getElem?_eq_getElem (by omega)]; exact h _ (List.getElem_mem (by omega))
        omega
  refine ⟨h4 k hk, ?_⟩
  split at h2 <;> omega
/-! The placing: what is true of it. -/
theorem pickJ_spec {ws : List Wk} {t : BitVec 32} {ts : List (BitVec 32)} {room : List Int} {left : Int} {j : Nat} (h : pickJ ws t ts room left = some j) : j < ws.length ∧ mayW t (wk ws j) = true ∧ room.getD j 0 ≠ 0 := by
  unfold pickJ at h
  have h1 := List.mem_of_find?_eq_some h
  have h2 := List.find?_some h
  unfold seatB at h2
  rw [Bool.and_eq_true, Bool.and_eq_true] at h2
  exact ⟨List.mem_range.1 h1, h2.1.1, by simpa using h2.1.2⟩
theorem getD_set_ite (l : List Int) (j q : Nat) (x : Int) (hj : j < l.length) : (l.set j x).getD q 0 = if j = q then x else l.getD q 0 := by
  rw [List.getD_eq_getElem?_getD, List.getElem?_set]
  by_cases h : j = q
  · subst h; rw [if_pos rfl, if_pos rfl, if_pos hj]; rfl
  · rw [if_neg h, if_neg h, ← List.getD_eq_getElem?_getD]
theorem mostG_may (ws : List Wk) : ∀ (ts : List (BitVec 32)) (room : List Int) (left : Int) (i : Nat) (x : Int), (mostG ws ts room left)[i]? = some x → x = -1 ∨ ∃ q : Nat, x = q ∧ q < ws.length ∧ mayW (lw ts i) (wk ws q) = true
  | [], _, _, i, x, h => by simp [mostG] at h
  | t :: ts, room, left, i, x, h => by
    unfold mostG at h
    split at h
    · rename_i j hp
      obtain ⟨h1, h2, _⟩ := pickJ_spec hp
      cases i with
      | zero =>
        simp only [List.getElem?_cons_zero, Option.some.injEq] at h
        exact .inr ⟨j, h.symm, h1, h2⟩
      | succ i =>
        rw [List.getElem?_cons_succ] at h
        exact mostG_may ws ts _ _ i x h
    · cases i with
      | zero =>
        simp only [List.getElem?_cons_zero, Option.some.injEq] at h
        exact .inl h.symm
      | succ i =>
        rw [List.getElem?_cons_succ] at h
        exact mostG_may ws ts _ _ i x h
theorem mostG_count (ws : List Wk) : ∀ (ts : List (BitVec 32)) (room : List Int) (left : Int), room.length = ws.length → (∀ j, 0 ≤ room.getD j 0) → ∀ q : Nat, ((mostG ws ts room left).count (q : Int) : Int) ≤ room.getD q 0
  | [], room, _, _, h, q => by simpa [mostG] using h q
  | t :: ts, room, left, hl, h, q => by
    unfold mostG
    split
    · rename_i j hp
      obtain ⟨h1, h2, h3⟩ := pickJ_spec hp
      have ih := mostG_count ws ts (room.set j (room.getD j 0 - 1)) (left - 1) (by rw [List.length_set]; exact hl) (fun y => by
        rw [getD_set_ite _ _ _ _ (by omega)]
        have := h y
        have := h j
        split <;> omega) q
      rw [getD_set_ite _ _ _ _ (by omega)] at ih
      rw [List.count_cons]
      by_cases hq : j = q
      · subst hq
        rw [if_pos rfl] at ih
        simp only [beq_self_eq_true, if_true]
        omega
      · rw [if_neg hq] at ih
        have : ¬ ((j : Int) == (q : Int)) = true := by simp; omega
        rw [if_neg this]
        omega
    · have ih := mostG_count ws ts room left hl h q
      rw [List.count_cons]
      have : ¬ ((-1 : Int) == (q : Int)) = true := by simp
      rw [if_neg this]
      omega
theorem cutF_length : ∀ (wants l : List Int), (cutF wants l).length = wants.length
  | [], _ => rfl
  | n :: ns, l => by rw [cutF, List.length_cons, cutF_length, List.length_cons]
theorem cutF_mem : ∀ (wants : List Int) (svs : List (BitVec 32)) (l : List Int) (s : Nat) (j : Int), wants.length = svs.length → j ∈ (cutF wants l).getD s [] → ∃ i : Nat, l[i]? = some j ∧ 0 ≤ j ∧ (tasksF wants svs)[i]? = some (lw svs s)
  | [], svs, l, s, j, _, h => by simp [cutF] at h
  | n :: ns, [], l, s, j, hl, h => by cases hl
  | n :: ns, t :: ts, l, 0, j, hl, h => by
    rw [cutF, List.getD_cons_zero, List.mem_filter] at h
    obtain ⟨h1, h2⟩ := h
    obtain ⟨i, hi⟩ := List.mem_iff_getElem?.1 h1
    rw [List.getElem?_take] at hi
    split at hi
    · rename_i hin
      refine ⟨i, hi, by simpa using h2, ?_⟩
      rw [tasksF, List.getElem?_append_left (by rw [List.length_replicate]; exact hin), List.getElem?_replicate, if_pos hin]
      rfl
    · cases hi
  | n :: ns, t :: ts, l, s + 1, j, hl, h => by
    rw [cutF, List.getD_cons_succ] at h
    obtain ⟨i, h1, h2, h3⟩ := cutF_mem ns ts _ s j (by simpa using hl) h
    rw [List.getElem?_drop] at h1
    refine ⟨n.toNat + i, h1, h2, ?_⟩
    rw [tasksF, List.getElem?_append_right (by rw [List.length_replicate]; omega), List.length_replicate, show n.toNat + i - n.toNat = i by omega, h3]
    rfl
theorem cutF_count : ∀ (wants l : List Int) (q : Int), (cutF wants l).flatten.count q ≤ l.count q
  | [], l, q => by simp [cutF]
  | n :: ns, l, q => by
    rw [cutF, List.flatten_cons, List.count_append]
    have h1 := cutF_count ns (l.drop n.toNat) q
    have h2 : ((l.take n.toNat).filter (fun j => decide (0 ≤ j))).count q ≤ (l.take n.toNat).count q := List.Sublist.count_le _ List.filter_sublist
    have h3 : l.count q = (l.take n.toNat).count q + (l.drop n.toNat).count q := by rw [← List.count_append, List.take_append_drop]
    omega
theorem cutF_len : ∀ (wants l : List Int) (s : Nat), ((cutF wants l).getD s []).length ≤ (wants.getD s 0).toNat
  | [], l, s => by simp [cutF]
  | n :: ns, l, 0 => by
    rw [cutF, List.getD_cons_zero, List.getD_cons_zero]
    refine Nat.le_trans (List.length_filter_le _ _) ?_
    rw [List.length_take]; omega
  | n :: ns, l, s + 1 => by
    rw [cutF, List.getD_cons_succ, List.getD_cons_succ]
    exact cutF_len ns _ s
theorem nowF_length (ws : List Wk) (inn : BitVec 32) : (nowF ws inn).length = ws.length := by unfold nowF; simp
theorem nowF_at (ws : List Wk) (inn : BitVec 32) {q : Nat} (h : q < ws.length) : wk (nowF ws inn) q = nowAt inn ws q := by
  unfold wk nowF
  rw [List.getD_eq_getElem?_getD, List.getElem?_map, List.getElem?_range h]
  rfl
theorem nowF_room (ws : List Wk) (inn : BitVec 32) (q : Nat) : ((nowF ws inn).map (·.1)).getD q 0 = if bitB inn q = true then (wk ws q).1 else 0 := by
  rcases Nat.lt_or_ge q ws.length with h | h
  · have h1 := nowF_at ws inn h
    unfold wk at h1
    rw [List.getD_eq_getElem?_getD] at h1 ⊢
    rw [List.getElem?_map]
    have h2 : (nowF ws inn)[q]? = some ((nowF ws inn)[q]'(by rw [nowF_length]; exact h)) := List.getElem?_eq_getElem _
    rw [h2] at h1 ⊢
    simp only [Option.getD_some, Option.map_some] at h1 ⊢
    rw [h1]
    unfold nowAt
    split <;> rfl
  · rw [List.getD_eq_getElem?_getD, List.getElem?_eq_none (by rw [List.length_map, nowF_length]; exact h)]
    unfold wk
    rw [List.getD_eq_getElem?_getD, List.getElem?_eq_none h]
    split <;> rfl
/-! What is true of a crew always. -/
structure CwOk (ws : List Wk) (svs : List (BitVec 32)) (c : Cw) : Prop where
  wl : c.wants.length = svs.length
  tl : c.tasks.length = svs.length
  w0 : ∀ n ∈ c.wants, 0 ≤ n
  w12 : c.wants.sum ≤ 12
  tk : ∀ s j, j ∈ c.tasks.getD s [] → ∃ q : Nat, j = q ∧ q < ws.length ∧ bitB c.inn q = true ∧ mayW (lw svs s) (wk ws q) = true
  cnt : ∀ q : Nat, ((c.tasks.flatten.count (q : Int) : Nat) : Int) ≤ (wk ws q).1
  t12 : ∀ s, (c.tasks.getD s []).length ≤ 12
theorem CwOk.start {ws : List Wk} {svs : List (BitVec 32)} (hr : ∀ q, 0 ≤ (wk ws q).1) : CwOk ws svs (startF svs.length) := by
  refine ⟨List.length_replicate, List.length_replicate, fun n hn => ?_, ?_, fun s j h => ?_, fun q => ?_, fun s => ?_⟩
  · rw [(List.mem_replicate.1 hn).2]; exact Int.le_refl _
  · have : ∀ n, (List.replicate n (0 : Int)).sum = 0 := fun n => by
      induction n with
      | zero => rfl
      | succ n ih => rw [List.replicate_succ, List.sum_cons, ih]; rfl
    unfold startF
    rw [this]; decide
  · exfalso
    unfold startF at h
    simp only [List.getD_eq_getElem?_getD, List.getElem?_replicate] at h
    split at h <;> simp at h
  · have : (startF svs.length).tasks.flatten = [] := by
      unfold startF
      simp
    rw [this]
    exact hr q
  · unfold startF
    simp only [List.getD_eq_getElem?_getD, List.getElem?_replicate]
    split <;> simp
theorem tick_ok {ws : List Wk} {svs : List (BitVec 32)} (hr : ∀ q, 0 ≤ (wk ws q).1) {inn : BitVec 32} {wants : List Int} (hl : wants.length = svs.length) :
    (∀ s j, j ∈ (tickF ws svs inn wants).getD s [] → ∃ q : Nat, j = q ∧ q < ws.length ∧ bitB inn q = true ∧ mayW (lw svs s) (wk ws q) = true) ∧ ∀ q : Nat, (((tickF ws svs inn wants).flatten.count (q : Int) : Nat) : Int) ≤ (wk ws q).1 := by
  have hroom : ∀ q, 0 ≤ ((nowF ws inn).map (·.1)).getD q 0 := fun q => by
    rw [nowF_room]
    split
    · exact hr q
    · exact Int.le_refl _
  have hcnt : ∀ q : Nat, (((mostF (nowF ws inn) (tasksF wants svs)).count (q : Int) : Nat) : Int) ≤ if bitB inn q = true then (wk ws q).1 else 0 := fun q => by
    have := mostG_count (nowF ws inn) (tasksF wants svs) ((nowF ws inn).map (·.1)) (manyV (nowF ws inn) (tasksF wants svs) ((nowF ws inn).map (·.1))) (by rw [List.length_map]) hroom q
    rw [nowF_room] at this
    exact this
  constructor
  · intro s j hj
    obtain ⟨i, h1, h2, h3⟩ := cutF_mem wants svs _ s j hl hj
    rcases mostG_may _ _ _ _ i j h1 with h | ⟨q, rfl, hq, hm⟩
    · omega
    · rw [nowF_length] at hq
      have hlw : lw (tasksF wants svs) i = lw svs s := by
        rw [lw, List.getD_eq_getElem?_getD, h3]
        rfl
      rw [hlw, nowF_at ws inn hq] at hm
      have hb : bitB inn q = true := by
        rcases Bool.eq_false_or_eq_true (bitB inn q) with h | h
        · exact h
        · exfalso
          have := hcnt q
          rw [h, if_neg (by simp)] at this
          have h5 : 0 < (mostF (nowF ws inn) (tasksF wants svs)).count (q : Int) := List.count_pos_iff.2 (List.mem_of_getElem? h1)
          omega
      refine ⟨q, rfl, hq, hb, ?_⟩
      unfold nowAt at hm
      rwa [if_pos hb] at hm
  · intro q
    have h1 := cutF_count wants (mostF (nowF ws inn) (tasksF wants svs)) (q : Int)
    have h2 := hcnt q
    have h3 := hr q
    unfold tickF
    split at h2 <;> omega
theorem left_getD (tasks : List (List Int)) (j : Int) (s : Nat) : (leftF tasks j).getD s [] = (tasks.getD s []).filter fun x => x != j := by
  unfold leftF
  rw [List.getD_eq_getElem?_getD, List.getD_eq_getElem?_getD, List.getElem?_map]
  cases tasks[s]? <;> rfl
theorem left_count (j q : Int) : ∀ tasks : List (List Int), (leftF tasks j).flatten.count q ≤ tasks.flatten.count q
  | [] => Nat.le_refl _
  | l :: tasks => by
    have ih := left_count j q tasks
    unfold leftF at ih ⊢
    rw [List.map_cons, List.flatten_cons, List.flatten_cons, List.count_append, List.count_append]
    have : (l.filter fun x => x != j).count q ≤ l.count q := List.Sublist.count_le _ List.filter_sublist
    omega
theorem bit_or (x : BitVec 32) (i : Nat) (q : Nat) (h : bitB x q = true) : bitB (wOr x (wShl w1 i)) q = true := by
  rw [bitB_nat] at h ⊢
  rw [b_or, h]
  rfl
theorem bit_but (x : BitVec 32) (i : Nat) (q : Nat) (h : bitB x q = true) (hq : q ≠ i) : bitB (wBut x (wShl w1 i)) q = true := by
  rw [bitB_nat] at h ⊢
  rw [b_but, h]
  unfold wShl w1
  rw [BitVec.getLsbD_shiftLeft]
  simp
  omega
theorem CwOk.step {ws : List Wk} {svs : List (BitVec 32)} {c : Cw} (hr : ∀ q, 0 ≤ (wk ws q).1) (h : CwOk ws svs c) (x : Chg) : CwOk ws svs (stepF ws svs c x) := by
  have hc : CwOk ws svs (chgF ws svs c x).1 := by
    unfold chgF
    split
    · exact h
    split
    · obtain ⟨h1, h2⟩ := tick_ok hr (inn := c.inn) h.wl
      exact ⟨h.wl, by show (tickF _ _ _ _).length = _; unfold tickF; rw [cutF_length]; exact h.wl, h.w0, h.w12, h1, h2, fun s => by
        have h3 := cutF_len c.wants (mostF (nowF ws c.inn) (tasksF c.wants svs)) s
        have h4 : c.wants.getD s 0 ≤ 12 := by
          rw [List.getD_eq_getElem?_getD]
          rcases Nat.lt_or_ge s c.wants.length with h5 | h5
          · rw [List.getElem?_eq_getElem h5]
            have := mem_le_sum c.wants h.w0 _ (List.getElem_mem h5)
            have := h.w12
            simp only [Option.getD_some]
            omega
          · rw [List.getElem?_eq_none h5]; decide
        show ((tickF _ _ _ _).getD s []).length ≤ 12
        unfold tickF
        omega⟩
    by_cases h3 : x.1 = 3
    · rw [if_pos h3, if_pos h3]
      split
      · exact h
      rename_i hwho
      split
      · exact h
      split
      · exact h
      rename_i hn0 hn
      obtain ⟨s, hs⟩ := Int.eq_ofNat_of_zero_le (show 0 ≤ x.2.1 by omega)
      rw [hs] at hn ⊢
      have hsl : s < c.wants.length := by rw [h.wl]; omega
      have ho := oth_sum c.wants s c.wants.length (Nat.le_refl _)
      rw [if_pos hsl, List.take_length] at ho
      simp only [Int.toNat_natCast] at hn ⊢
      refine ⟨by show (c.wants.set _ _).length = _; rw [List.length_set]; exact h.wl, h.tl, fun n hm => ?_, ?_, h.tk, h.cnt, h.t12⟩
      · rcases List.mem_or_eq_of_mem_set hm with hm | rfl
        · exact h.w0 _ hm
        · omega
      · show (c.wants.set _ _).sum ≤ 12
        rw [sum_set _ _ _ hsl]
        omega
    rw [if_neg h3, if_neg h3]
    split
    · exact h
    rename_i hwho
    split
    · exact h
    split
    · exact ⟨h.wl, h.tl, h.w0, h.w12, fun s j hj => by
        obtain ⟨q, h1, h2, h3, h4⟩ := h.tk s j hj
        exact ⟨q, h1, h2, bit_or _ _ _ h3, h4⟩, h.cnt, h.t12⟩
    · refine ⟨h.wl, by show (leftF _ _).length = _; unfold leftF; rw [List.length_map]; exact h.tl, h.w0, h.w12, fun s j hj => ?_, fun q => ?_, fun s => ?_⟩
      · have hj' : j ∈ (leftF c.tasks x.2.1).getD s [] := hj
        rw [left_getD, List.mem_filter] at hj'
        obtain ⟨q, h1, h2, h3, h4⟩ := h.tk s j hj'.1
        refine ⟨q, h1, h2, bit_but _ _ _ h3 ?_, h4⟩
        intro e
        have hne := hj'.2
        rw [h1] at hne
        simp only [bne_iff_ne, ne_eq] at hne
        apply hne
        omega
      · have h1 := left_count x.2.1 (q : Int) c.tasks
        have h2 := h.cnt q
        show (((leftF c.tasks x.2.1).flatten.count (q : Int) : Nat) : Int) ≤ _
        omega
      · show ((leftF c.tasks x.2.1).getD s []).length ≤ 12
        rw [left_getD]
        exact Nat.le_trans (List.length_filter_le _ _) (h.t12 s)
  exact ⟨hc.wl, hc.tl, hc.w0, hc.w12, hc.tk, hc.cnt, hc.t12⟩
theorem CwOk.play {ws : List Wk} {svs : List (BitVec 32)} (hr : ∀ q, 0 ≤ (wk ws q).1) (l : List Chg) : CwOk ws svs (playF ws svs l) := by
  have : ∀ (l : List Chg) (c : Cw), CwOk ws svs c → CwOk ws svs (l.foldl (stepF ws svs) c) := by
    intro l
    induction l with
    | nil => intro c h; exact h
    | cons x l ih => intro c h; exact ih _ (h.step hr x)
  exact this l _ (CwOk.start hr)
theorem step_codes (ws : List Wk) (svs : List (BitVec 32)) (l : List Chg) : (playF ws svs l).codes.length = l.length := by
  have : ∀ (l : List Chg) (c : Cw), (l.foldl (stepF ws svs) c).codes.length = c.codes.length + l.length := by
    intro l
    induction l with
    | nil => intro c; rfl
    | cons x l ih =>
      intro c
      rw [List.foldl_cons, ih]
      unfold stepF
      simp
      omega
  unfold playF
  rw [this]
  simp [startF]
end Go.Proofs.Ytdinknpagklkjaa

/- The deferred calls of a function that holds ranges over a function within loops: a list of marks; a loop whose frame's marks may grow; the way out. -/
namespace Go.Proofs.Ytdinknpagklkjaa
open Go.RowKit Go.Shelf

def markOf (D : Nat) : Deferred := { target := .collected D, args := #[] }

/-- The marks of some loops' boxes, from B on, each box open and none in it. -/
def Marks (B : Nat) (ds : List Deferred) (w : World) : Prop :=
  ∃ Ds : List Nat, ds = Ds.map markOf ∧ Ds.Nodup ∧ ∀ D ∈ Ds, B ≤ D ∧ w.heap[D]? = some (Obj.deferred (some []))

theorem Marks.nil (B : Nat) (w : World) : Marks B [] w := ⟨[], rfl, List.nodup_nil, fun _ h => by cases h⟩
theorem Marks.imp {B : Nat} {ds : List Deferred} {w w' : World} (h : Marks B ds w) (hk : ∀ D : Nat, w.heap[D]? = some (Obj.deferred (some [])) → w'.heap[D]? = some (Obj.deferred (some []))) : Marks B ds w' := by
  obtain ⟨Ds, h1, h2, h3⟩ := h
  exact ⟨Ds, h1, h2, fun D hD => ⟨(h3 D hD).1, hk D (h3 D hD).2⟩⟩
theorem lt_of_block {w : World} {D : Nat} {o : Obj} (h : w.heap[D]? = some o) : D < w.heap.size := (Array.getElem?_eq_some_iff.1 h).1
theorem Marks.below {B b : Nat} {ds : List Deferred} {w w' : World} (h : Marks B ds w) (hb : Below b w w') (hs : w.heap.size ≤ b) : Marks B ds w' :=
  h.imp fun D hD => (hb.block D (Nat.lt_of_lt_of_le (lt_of_block hD) hs)).trans hD
theorem Marks.alloc {B : Nat} {ds : List Deferred} {w : World} (h : Marks B ds w) (o : Obj) : Marks B ds (w.alloc o) :=
  h.below ((Below.refl _ w).alloc (Nat.le_refl _) _) (Nat.le_refl _)
theorem Marks.setCell {B : Nat} {ds : List Deferred} {w : World} (h : Marks B ds w) {p : Addr} (v : Value) (hp : ∀ o, w.heap[p.block]? = some o → o ≠ Obj.deferred (some [])) : Marks B ds (w.setCell p v) :=
  h.imp fun D hD => (Below.heap_setCell w p v D (fun he => hp _ (he ▸ hD) rfl)).trans hD
/-- A new mark, of a box at or behind the size the old ones were laid in. -/
theorem Marks.cons {B D S : Nat} {ds : List Deferred} {w w' : World} (h : Marks B ds w) (hS : w.heap.size = S) (hD : S ≤ D) (hB : B ≤ S) (hk : ∀ k : Nat, k < S → w.heap[k]? = some (Obj.deferred (some [])) → w'.heap[k]? = some (Obj.deferred (some [])))
    (hnew : w'.heap[D]? = some (Obj.deferred (some []))) : Marks B ({ target := .collected D, args := #[] } :: ds) w' := by
  obtain ⟨Ds, h1, h2, h3⟩ := h
  have hlt : ∀ E ∈ Ds, E < S := fun E hE => hS ▸ lt_of_block (h3 E hE).2
  refine ⟨D :: Ds, by rw [h1]; rfl, List.nodup_cons.2 ⟨fun hm => ?_, h2⟩, fun E hE => ?_⟩
  · have := hlt D hm
    omega
  · rcases List.mem_cons.1 hE with rfl | hE
    · exact ⟨by omega, hnew⟩
    · exact ⟨(h3 E hE).1, hk E (hlt E hE) (h3 E hE).2⟩

/-- What the way out leaves as it was: all but the marks' boxes. -/
def Shut (B : Nat) (w w' : World) : Prop := Below B w w' ∧ ∀ (k : Nat) (o : Obj), w.heap[k]? = some o → o ≠ Obj.deferred (some []) → w'.heap[k]? = some o
theorem Shut.refl (B : Nat) (w : World) : Shut B w w := ⟨Below.refl _ _, fun _ _ h _ => h⟩
theorem Shut.trans {B : Nat} {a b c : World} (h : Shut B a b) (k : Shut B b c) : Shut B a c := ⟨h.1.trans k.1, fun i o hi ho => k.2 i o (h.2 i o hi ho) ho⟩

theorem Below.putObj' {B : Nat} (w : World) {D : Nat} (o : Obj) (h : B ≤ D) : Below B w (w.putObj D o) :=
  ⟨rfl, rfl, rfl, Nat.le_of_eq World.putObj_size.symm, fun k hk => World.putObj_heap_other (by omega)⟩

theorem leaves_marks {F : Fence} {n : Nat} {P : Program} {fn : Func} {tmps : Array Value} {R : Ending → World → Prop} {B : Nat} : ∀ (Ds : List Nat) (w : World), Ds.Nodup → (∀ D ∈ Ds, B ≤ D ∧ w.heap[D]? = some (Obj.deferred (some []))) →
    (∀ w', Shut B w w' → LeavesIn F n P fn tmps R [] .returning w') → LeavesInM F n P fn tmps R (Ds.map markOf) .returning w
  | [], w, _, _, h => h w (Shut.refl B w)
  | D :: Ds, w, hn, hD, h => by
    obtain ⟨hDn, hn'⟩ := List.nodup_cons.1 hn
    obtain ⟨hBD, hbox⟩ := hD D List.mem_cons_self
    refine ⟨by simp, .inl ⟨D, w.putObj D (.deferred none), rfl, run_takeDeferred hbox, leaves_marks Ds _ hn' (fun E hE => ?_) fun w' hw' => h w' (Shut.trans ?_ hw')⟩⟩
    · obtain ⟨h1, h2⟩ := hD E (List.mem_cons_of_mem _ hE)
      exact ⟨h1, (World.putObj_heap_other (show E ≠ D from fun he => hDn (he ▸ hE))).trans h2⟩
    · refine ⟨Below.putObj' w _ hBD, fun k o hk ho => ?_⟩
      by_cases hkD : k = D
      · subst hkD
        rw [hbox] at hk
        cases hk
        exact absurd rfl ho
      · exact (World.putObj_heap_other hkD).trans hk

/-- The function's end, behind its marks. -/
theorem bodyPostM_ret {F : Fence} {n : Nat} {P : Program} {fn : Func} {a : Act} {w : World} {R : Ending → World → Prop} {B : Nat} (hm : Marks B a.defers w)
    (h : ∀ w', Shut B w w' → ∃ v, (results fn a.tmps).run P w' = .ok v w' ∧ R (.returned v) w') : bodyPostM F n P fn R .ret a w := by
  obtain ⟨Ds, h1, h2, h3⟩ := hm
  show LeavesInM F n P fn a.tmps R a.defers .returning w
  rw [h1]
  exact leaves_marks Ds w h2 h3 h

/-- The frame with some slots' values put in. -/
def patch (t : List Value) (ws : List Nat) (g : Nat → Value) : List Value := ws.foldl (fun t k => t.set k (g k)) t
/-- What a frame holds in a slot. -/
def slot (t : List Value) (k : Nat) : Value := t.getD k undef

theorem slot_other (g : Nat → Value) (k : Nat) : ∀ (ws : List Nat) (t : List Value), k ∉ ws → slot (patch t ws g) k = slot t k
  | [], _, _ => rfl
  | i :: ws, t, hk => by
    show slot (patch (t.set i (g i)) ws g) k = _
    rw [slot_other g k ws _ (fun h => hk (List.mem_cons_of_mem _ h))]
    have : i ≠ k := fun h => hk (h ▸ List.mem_cons_self)
    simp [slot, List.getD_eq_getElem?_getD, List.getElem?_set, this]
theorem slot_patch (g : Nat → Value) : ∀ (ws : List Nat) (t : List Value), ws.Nodup → (∀ k ∈ ws, k < t.length) → ∀ k ∈ ws, slot (patch t ws g) k = g k
  | [], _, _, _, _, hk => by cases hk
  | j :: ws, t, hn, hl, k, hk => by
    obtain ⟨hj, hn'⟩ := List.nodup_cons.1 hn
    show slot (patch (t.set j (g j)) ws g) k = g k
    by_cases hkw : k ∈ ws
    · exact slot_patch g ws _ hn' (fun i hi => by simpa using hl i (List.mem_cons_of_mem _ hi)) k hkw
    · have hkj : k = j := by
        rcases List.mem_cons.1 hk with h | h
        · exact h
        · exact absurd h hkw
      subst hkj
      rw [slot_other g k ws _ hkw]
      have := hl k List.mem_cons_self
      simp [slot, List.getD_eq_getElem?_getD, this]

/-- A loop whose frame may change in the slots ws and in its marks. -/
theorem wpIn_loop_marks {F : Fence} {n : Nat} {P : Program} {c : Code} {Q : Exit → Act → World → Prop} {t : List Value} {ds : List Deferred} {w : World} (ws : List Nat)
    (Rel : (Nat → Value) → List Deferred → World → Prop) (μ : (Nat → Value) → World → Nat) (ht : t = patch t ws (slot t)) (h0 : Rel (slot t) ds w)
    (round : ∀ (g : Nat → Value) (ds' : List Deferred) (wr : World) (K : Act → World → Prop), Rel g ds' wr →
      (∀ (t' : List Value) (ds'' : List Deferred) (w' : World), t' = patch t ws (slot t') → Rel (slot t') ds'' w' → μ (slot t') w' < μ g wr → K { tmps := t'.toArray, defers := ds'' } w') →
      c.wpIn F n P (Exit.then K Q) { tmps := (patch t ws g).toArray, defers := ds' } wr)
    (hμ : ∀ g g' w, (∀ k ∈ ws, g k = g' k) → μ g w = μ g' w) (hws : ws.Nodup) (N : Nat) (hN : t.length = N) (hlt : ∀ k ∈ ws, k < N) :
    (Code.loop c).wpIn F n P Q { tmps := t.toArray, defers := ds } w := by
  refine wpIn_loop (fun a' w' => ∃ g, a'.tmps = (patch t ws g).toArray ∧ Rel g a'.defers w') (fun a' w' => μ (slot a'.tmps.toList) w') ⟨_, by rw [← ht], h0⟩ ?_
  rintro ⟨t1, ds1⟩ w1 ⟨g, h1, h2⟩
  simp only at h1 h2
  subst h1
  refine round g ds1 w1 _ h2 fun t' ds'' w' ht' hr hm => ⟨⟨_, by rw [← ht'], hr⟩, ?_⟩
  have : μ (slot (patch t ws g)) w1 = μ g w1 := hμ _ _ _ fun k hk => slot_patch g ws t hws (fun k hk => hN ▸ hlt k hk) k hk
  simp only
  rw [this]
  exact hm
end Go.Proofs.Ytdinknpagklkjaa

/- What a call or a range leaves as it was: all blocks but some. Conditions: none. -/
namespace Go.Proofs.Ytdinknpagklkjaa
open Go.RowKit Go.Shelf

/-- Of what lay in W0 nothing has turned but the blocks ex. -/
structure Held (ex : List Nat) (W0 W : World) : Prop where
  os : W.os = W0.os
  tape : W.tape = W0.tape
  output : W.output = W0.output
  size : W0.heap.size ≤ W.heap.size
  block : ∀ k : Nat, k < W0.heap.size → k ∉ ex → W.heap[k]? = W0.heap[k]?
theorem Held.refl (ex : List Nat) (W : World) : Held ex W W := ⟨rfl, rfl, rfl, Nat.le_refl _, fun _ _ _ => rfl⟩
theorem Held.trans {ex : List Nat} {a b c : World} (h : Held ex a b) (k : Held ex b c) : Held ex a c :=
  ⟨k.os.trans h.os, k.tape.trans h.tape, k.output.trans h.output, Nat.le_trans h.size k.size, fun i hi hx => (k.block i (Nat.lt_of_lt_of_le hi h.size) hx).trans (h.block i hi hx)⟩
theorem Held.below {ex : List Nat} {b : Nat} {a w w' : World} (h : Held ex a w) (k : Below b w w') (hb : w.heap.size ≤ b) : Held ex a w' :=
  ⟨k.os.trans h.os, k.tape.trans h.tape, k.output.trans h.output, Nat.le_trans h.size k.size, fun i hi hx => (k.block i (by have := h.size; omega)).trans (h.block i hi hx)⟩
theorem Held.alloc {ex : List Nat} {a w : World} (h : Held ex a w) (o : Obj) : Held ex a (w.alloc o) := h.below ((Below.refl _ w).alloc (Nat.le_refl _) o) (Nat.le_refl _)
theorem Held.drew {ex : List Nat} {a w : World} (h : Held ex a w) (n : Nat) : Held ex a (w.drewN n) := h.below (below_drewN (Below.refl _ w) n) (Nat.le_refl _)
theorem Held.setCell {ex : List Nat} {a w : World} (h : Held ex a w) {p : Addr} (hp : p.block ∈ ex) (v : Value) : Held ex a (w.setCell p v) :=
  ⟨h.os, h.tape, h.output, by simpa [World.setCell] using h.size, fun k hk hx => (Below.heap_setCell w p v k (fun e => hx (e ▸ hp))).trans (h.block k hk hx)⟩
theorem Held.to {ex : List Nat} {W0 W : World} (h : Held ex W0 W) {B : Nat} (hB : B ≤ W0.heap.size) (hx : ∀ k ∈ ex, B ≤ k) : Below B W0 W :=
  ⟨h.os, h.tape, h.output, h.size, fun k hk => h.block k (by omega) (fun hm => by have := hx k hm; omega)⟩
theorem Held.boxed {ex : List Nat} {W0 W : World} (h : Held ex W0 W) {b : Nat} {t : TypeId} {v : Value} (hb : Boxed W0 b t v) (hx : b ∉ ex) : Boxed W b t v := (h.block b hb.lt hx).trans hb
theorem Held.marks {ex : List Nat} {W0 W : World} (h : Held ex W0 W) {B : Nat} {ds : List Deferred} (hm : Marks B ds W0) (hx : ∀ k ∈ ex, W0.heap[k]? ≠ some (Obj.deferred (some []))) : Marks B ds W :=
  hm.imp fun D hD => (h.block D (lt_of_block hD) (fun hmem => hx D hmem hD)).trans hD
theorem Held.own {β : Type} {ex : List Nat} {W0 : World} : OwnFrom W0.heap.size (fun (_ : β) W => Held ex W0 W) :=
  fun _ X Y row hs hg hr => ⟨hg.os.trans hs.os, hg.tape.trans hs.tape, hg.output.trans hs.output, Nat.le_trans hs.size hg.size, fun k hk hx =>
    (hg.block k (Nat.lt_of_lt_of_le hk hs.size) (fun e => by have := (hr k e.symm).1; omega)).trans (hs.block k hk hx)⟩
theorem Held.drew1 {ex : List Nat} {a w : World} (h : Held ex a w) : Held ex a w.drew := ⟨h.os, h.tape, h.output, h.size, h.block⟩
theorem KeepsFrom.drew {B : Nat} {W W' : World} (h : KeepsFrom B W W') : KeepsFrom B W W'.drew := ⟨h.size, h.same⟩
theorem Boxed.drew {W : World} {b : Nat} {t : TypeId} {v : Value} (h : Boxed W b t v) : Boxed W.drew b t v := h
theorem Boxed.noMark {W : World} {b : Nat} {t : TypeId} {v : Value} (h : Boxed W b t v) : W.heap[b]? ≠ some (Obj.deferred (some [])) := fun e => by
  rw [show W.heap[b]? = _ from h] at e
  cases e
/-- A store to one box; what a round must tell of the world. -/
theorem KeepsFrom.box {B : Nat} {W : World} {b : Nat} {t : TypeId} {v : Value} (h : Boxed W b t v) (u : Value) : KeepsFrom B W (W.setCell ⟨b, 0, none⟩ u) :=
  ⟨by simp [World.setCell], fun k o _ hk ho => by
    refine (Below.heap_setCell W ⟨b, 0, none⟩ u k (fun e => ?_)).trans hk
    have e' : k = b := e
    subst e'
    rw [show W.heap[k]? = _ from h] at hk
    cases hk
    cases ho⟩
theorem KeepsFrom.below {B b : Nat} {W W' : World} (h : Below b W W') (hb : W.heap.size ≤ b) : KeepsFrom B W W' :=
  ⟨h.size, fun k o _ hk _ => (h.block k (Nat.lt_of_lt_of_le (lt_of_block hk) hb)).trans hk⟩

theorem Held.mark {ex : List Nat} {W0 W : World} {B D : Nat} {ds : List Deferred} (h : Held ex W0 W) (hm : Marks B ds W0) (hx : ∀ k ∈ ex, ∃ t v, Boxed W0 k t v) (hB : B ≤ W0.heap.size) (hD : W0.heap.size ≤ D)
    (hd : W.heap[D]? = some (Obj.deferred (some []))) : Marks B ({ target := .collected D, args := #[] } :: ds) W :=
  hm.cons rfl hD hB (fun i hi he => (h.block i hi (fun hmem => by obtain ⟨t, v, hb⟩ := hx i hmem; exact Boxed.noMark hb he)).trans he) hd

theorem Own.pop {α : Type} {w : World} {B c cap g : Nat} {e : TypeId} {f : α → List Value} {l : List α} {x : α} (h : Own w B e c f (some ⟨g, 0, none⟩) cap (l ++ [x])) : Own w B e c f (some ⟨g, 0, none⟩) cap l := by
  have hlen : ∀ l : List α, (l.flatMap f).length = l.length * c := fun l => by
    induction l with
    | nil => simp
    | cons y ys ih => rw [List.flatMap_cons, List.length_append, ih, h.1, List.length_cons, Nat.add_mul]; omega
  refine ⟨h.1, hlen l, ?_⟩
  rcases h.2.2 with ⟨hv, _⟩ | ⟨g', cp, cur, hv, hb, hh, hn, hm, hcs, ht⟩
  · cases hv
  · injection hv with h1 h2 h3
    injection h1 with h1
    injection h1 with h1 _ _
    subst h1 h3
    refine .inr ⟨g, cap, cur, rfl, hb, hh, ?_, hm, hcs, ?_⟩
    · rw [List.length_append] at hn; omega
    · have h4 := congrArg (List.take (l.length * c)) ht
      rw [List.take_take, List.flatMap_append] at h4
      rw [List.take_left' (hlen l)] at h4
      rw [← h4]
      congr 1
      rw [List.length_append, Nat.add_mul]
      omega
theorem KeepsFrom.held {B : Nat} {ex : List Nat} {W W' : World} (h : Held ex W W') (hx : ∀ k ∈ ex, ∀ o : Obj, W.heap[k]? = some o → o.isCells = true) : KeepsFrom B W W' :=
  ⟨h.size, fun k o _ hk ho => by
    by_cases hm : k ∈ ex
    · rw [hx k hm o hk] at ho
      cases ho
    · exact (h.block k (lt_of_block hk) hm).trans hk⟩
theorem Held.mono {ex ex' : List Nat} {W W' : World} (h : Held ex W W') (hs : ∀ k ∈ ex, k < W.heap.size → k ∈ ex') : Held ex' W W' :=
  ⟨h.os, h.tape, h.output, h.size, fun k hk hx => h.block k hk (fun hm => hx (hs k hm hk))⟩
theorem Held.then {ex ex' : List Nat} {a b c : World} (h : Held ex a b) (k : Held ex' b c) (hs : ∀ i ∈ ex', i < a.heap.size → i ∈ ex) : Held ex a c :=
  ⟨k.os.trans h.os, k.tape.trans h.tape, k.output.trans h.output, Nat.le_trans h.size k.size, fun i hi hx => (k.block i (Nat.lt_of_lt_of_le hi h.size) (fun hm => hx (hs i hm hi))).trans (h.block i hi hx)⟩
theorem Blk.held {ex : List Nat} {W W' : World} {g : Nat} {t : TypeId} {cs : Array Value} (h : Held ex W W') (hk : Blk W g t cs) (hg : g ∉ ex) : Blk W' g t cs := (h.block g hk.lt hg).trans hk
theorem Blk.isCells {W : World} {g : Nat} {t : TypeId} {cs : Array Value} (hk : Blk W g t cs) (o : Obj) (h : W.heap[g]? = some o) : o.isCells = true := by
  unfold Blk at hk
  rw [hk] at h
  cases h
  rfl
theorem Own.isCells {α : Type} {w : World} {B c cap g : Nat} {e : TypeId} {f : α → List Value} {l : List α} (h : Own w B e c f (some ⟨g, 0, none⟩) cap l) (o : Obj) (ho : w.heap[g]? = some o) : o.isCells = true := by
  rcases h.2.2 with ⟨hv, _⟩ | ⟨g', cp, cur, hv, hb, hh, _⟩
  · cases hv
  · injection hv with h1 h2 h3
    injection h1 with h1
    injection h1 with h1 _ _
    subst h1
    rw [hh] at ho
    cases ho
    rfl
theorem own_blk_ne {α : Type} {w : World} {B c cap g k : Nat} {e t : TypeId} {f : α → List Value} {l : List α} {cs : Array Value} (h : Own w B e c f (some ⟨g, 0, none⟩) cap l) (hk : Blk w k t cs) (hne : e ≠ t) : g ≠ k := fun he => by
  subst he
  rcases h.2.2 with ⟨hv, _⟩ | ⟨g', cp, cur, hv, hb, hh, _⟩
  · cases hv
  · injection hv with h1 h2 h3
    injection h1 with h1
    injection h1 with h1 _ _
    subst h1
    unfold Blk at hk
    rw [hh] at hk
    injection hk with hk
    injection hk with h1 h2 h3
    exact hne h2
theorem own_lt {α : Type} {w : World} {B c cap g : Nat} {e : TypeId} {f : α → List Value} {l : List α} (h : Own w B e c f (some ⟨g, 0, none⟩) cap l) : B ≤ g ∧ g < w.heap.size := h.lt g rfl
theorem own_held {α : Type} {ex : List Nat} {w w' : World} {B c cap g : Nat} {e : TypeId} {f : α → List Value} {l : List α} (h : Own w B e c f (some ⟨g, 0, none⟩) cap l) (hh : Held ex w w') (hg : g ∉ ex) : Own w' B e c f (some ⟨g, 0, none⟩) cap l := by
  have hlt := (own_lt h).2
  refine ⟨h.1, h.2.1, ?_⟩
  rcases h.2.2 with ⟨hv, _⟩ | ⟨g', cp, cur, hv, hb, hb2, r⟩
  · cases hv
  · have hgg : g = g' := by
      injection hv with h1 h2 h3
      injection h1 with h1
      injection h1
    subst hgg
    exact .inr ⟨g, cp, cur, hv, hb, (hh.block g hlt hg).trans hb2, r⟩
end Go.Proofs.Ytdinknpagklkjaa

/- append inside a fence; what a range over a function keeps of slices and blocks. Conditions: none. -/
namespace Go.Proofs.Ytdinknpagklkjaa
open Go.RowKit Go.Shelf

theorem wpListIn_append_run {F : Fence} {n : Nat} {P : Program} {ops : Array Oper} {rest : List Oper} {o : Oper} {a : Act} {w : World} {Q : Exit → Act → World → Prop} (hgd : o.guard = none) (s x : Operand) (t : TypeId) (hop : o.op = .call { callee := .builtin .append, args := #[s, x], argTypes := #[t, t] })
    (vs vx v' : Value) (w' : World) (hs : a.eval s = vs) (hx : a.eval x = vx) (hrun : (Builtin.append_ #[t, t] o.type #[vs, vx]).run P w = .ok v' w') (h : wpListIn F n P ops Q rest (a.put o.dst v') w') :
    wpListIn F n P ops Q (o :: rest) a w := by
  refine wpListIn_plain hgd fun K hK' => ?_
  unfold Oper.wpIn
  refine ⟨?_, ?_⟩
  · simp [Oper.about, hop, resolve, Target.leads, Sem.run_pure]
  · rw [Oper.semAt_plain F _ _ (by rw [hop]; intro c hc'; cases hc')]
    simp [execOp, hop, resolve, invoke, builtin, hs, hx, hrun, Result.andThen]
    exact hK' _ _ h
/-- 'append(s, xs...)', xs a slice that reads as a list, inside a fence. -/
theorem wpListIn_append_els {F : Fence} {n0 : Nat} {P : Program} {ops : Array Oper} {rest : List Oper} {o : Oper} {a : Act} {Q : Exit → Act → World → Prop} {α : Type} (hgd : o.guard = none) (s x : Operand) (t : TypeId) (ho : o.op = .call { callee := .builtin .append, args := #[s, x], argTypes := #[t, t] })
    (B c : Nat) (e : TypeId) (z : Value) (bytes : Nat) (ht : P.underlying t = some (.slice e)) (hI : (P.info? e).map (fun i => (i.zero, i.size, i.bytes)) = some (some z, c, bytes)) (hz1 : z.cells.size = c) (hc : 0 < c)
    (f : α → List Value) (w : World) (A : Option Addr) (n cap : Nat) (l : List α) (hl : l.length = n) (hs : a.eval s = .slice A n cap) (hown : Own w B e c f A cap l)
    (X : Option Addr) (m cx : Nat) (xs : List α) (hm : xs.length = m) (hx : a.eval x = .slice X m cx) (BX : Nat) (hX : Els w BX c f X xs) (h1 : ∀ u ∈ xs.flatMap f, u.oneCell' = true)
    (h63 : n + m ≤ maxLen) (hn : (n + m) * bytes ≤ 140737488355328) (hB : B ≤ w.heap.size)
    (h : ∀ (A' : Option Addr) (cap' : Nat) (w' : World), Own w' B e c f A' cap' (l ++ xs) → w.grownBy w' (blkOf A) → (blkOf A' = blkOf A ∨ blkOf A' = some w.heap.size) → wpListIn F n0 P ops Q rest (a.put o.dst (.slice A' (n + m) cap')) w') :
    wpListIn F n0 P ops Q (o :: rest) a w := by
  obtain ⟨A', cap', w', hrun, h2, h3, h4⟩ := run_append_els (P := P) t o.type B c e z bytes ht hI hz1 hc f w A n cap l hl hown X m cx xs hm BX hX h1 h63 hn hB
  exact wpListIn_append_run hgd s x t ho _ _ _ _ hs hx hrun (h A' cap' w' h2 h3 h4)
theorem wpListIn_push {F : Fence} {n0 : Nat} {P : Program} {ops : Array Oper} {rest : List Oper} {o : Oper} {a : Act} {Q : Exit → Act → World → Prop} {α : Type} (hgd : o.guard = none) (s x : Operand) (t : TypeId) (ho : o.op = .call { callee := .builtin .append, args := #[s, x], argTypes := #[t, t] })
    (B c : Nat) (e : TypeId) (z : Value) (bytes : Nat) (ht : P.underlying t = some (.slice e)) (hI : (P.info? e).map (fun i => (i.zero, i.size, i.bytes)) = some (some z, c, bytes)) (hz1 : z.cells.size = c) (hc : 0 < c)
    (f : α → List Value) (W : World) (ys : Array Value) (A : Option Addr) (n cap : Nat) (l : List α) (hl : l.length = n) (hs : a.eval s = .slice A n cap) (hown : Own W B e c f A cap l)
    (m : Nat) (xs : List α) (hm : xs.length = m) (hys : ys.toList = xs.flatMap f) (S : Nat) (hx : a.eval x = .slice (some ⟨S, 0, none⟩) m m) (hS : W.heap.size = S) (h1 : ∀ u ∈ ys.toList, u.oneCell' = true)
    (h63 : n + m ≤ maxLen) (hn : (n + m) * bytes ≤ 140737488355328) (hB : B ≤ S)
    (h : ∀ (A' : Option Addr) (cap' : Nat) (w' : World), Own w' B e c f A' cap' (l ++ xs) → (W.alloc (.cells ys e)).grownBy w' (blkOf A) → (blkOf A' = blkOf A ∨ blkOf A' = some (S + 1)) → wpListIn F n0 P ops Q rest (a.put o.dst (.slice A' (n + m) cap')) w') :
    wpListIn F n0 P ops Q (o :: rest) a (W.alloc (.cells ys e)) := by
  subst hS
  refine wpListIn_append_els hgd s x t ho B c e z bytes ht hI hz1 hc f _ A n cap l hl hs (hown.alloc _) _ m m xs hm hx (W.alloc (.cells ys e)).heap.size (els_of_blk (Blk.new W e ys) c f hown.1 xs hys) (by rw [← hys]; exact h1) h63 hn (by rw [size_alloc']; omega) (fun A' cap' w' o g e => h A' cap' w' o g (by rwa [size_alloc'] at e))

/-- What the range's own bookkeeping leaves as it was. -/
theorem own_kept {α : Type} {X Y : World} {B c cap : Nat} {e : TypeId} {f : α → List Value} {A : Option Addr} {l : List α} {row : Option Nat} (h : Own X B e c f A cap l) (hg : X.grownBy Y row) (hrow : ∀ r, row = some r → ∃ o : Obj, X.heap[r]? = some o ∧ o.isCells = false) : Own Y B e c f A cap l := by
  refine h.kept hg ?_
  rcases h.2.2 with ⟨hv, _⟩ | ⟨g, cp, cur, hv, _, hh, _⟩
  · injection hv with hv
    rw [hv]
    exact .inl rfl
  · injection hv with hv
    subst hv
    refine .inr fun he => ?_
    obtain ⟨o, ho, hc⟩ := hrow g he.symm
    rw [hh] at ho
    cases ho
    cases hc
theorem blk_kept {X Y : World} {g : Nat} {t : TypeId} {cs : Array Value} {row : Option Nat} (h : Blk X g t cs) (hg : X.grownBy Y row) (hrow : ∀ r, row = some r → ∃ o : Obj, X.heap[r]? = some o ∧ o.isCells = false) : Blk Y g t cs := by
  refine h.grown hg fun he => ?_
  obtain ⟨o, ho, hc⟩ := hrow g he.symm
  unfold Blk at h
  rw [h] at ho
  cases ho
  cases hc
theorem KeepsFrom.own {α : Type} {B0 : Nat} {W w4 : World} {B c cap : Nat} {e : TypeId} {f : α → List Value} {A : Option Addr} {l : List α} (h : Own W B e c f A cap l) (hg : W.grownBy w4 (blkOf A)) : KeepsFrom B0 W w4 := by
  refine ⟨hg.size, fun k o _ hk ho => ?_⟩
  refine (hg.block k (lt_of_block hk) ?_).trans hk
  intro he
  rcases h.2.2 with ⟨hv, _⟩ | ⟨g, cp, cur, hv, _, hh, _⟩
  · injection hv with hv
    rw [hv] at he; cases he
  · injection hv with hv
    subst hv
    have hkg : k = g := by simpa [blkOf] using he
    subst hkg
    rw [hh] at hk
    cases hk
    cases ho
theorem Own.shut {α : Type} {X Y : World} {B c cap b : Nat} {e : TypeId} {f : α → List Value} {A : Option Addr} {l : List α} (h : Own X B e c f A cap l) (hs : Shut b X Y) : Own Y B e c f A cap l := by
  refine ⟨h.1, h.2.1, ?_⟩
  rcases h.2.2 with hn | ⟨g, cp, cur, hv, hb, hh, r⟩
  · exact .inl hn
  · exact .inr ⟨g, cp, cur, hv, hb, hs.2 g _ hh (fun h => by cases h), r⟩
theorem Blk.shut {X Y : World} {b g : Nat} {t : TypeId} {cs : Array Value} (h : Blk X g t cs) (hs : Shut b X Y) : Blk Y g t cs := hs.2 g _ h (fun h => by cases h)
theorem Held.grown {ex : List Nat} {a w w' : World} {row : Option Nat} (h : Held ex a w) (hg : w.grownBy w' row) (hr : ∀ g, row = some g → a.heap.size ≤ g) : Held ex a w' :=
  ⟨hg.os.trans h.os, hg.tape.trans h.tape, hg.output.trans h.output, Nat.le_trans h.size hg.size, fun k hk hx => (hg.block k (Nat.lt_of_lt_of_le hk h.size) (fun e => by have := hr k e.symm; omega)).trans (h.block k hk hx)⟩
end Go.Proofs.Ytdinknpagklkjaa
