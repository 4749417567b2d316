/- Places found one by one are the most; task by task: the program's placing is the reference's, in plain Lean. Conditions: none. -/
import Derived.Test.YtdinknpagklkjaaPlaceMost7
import Derived.Test.YtdinknpagklkjaaPlaceMost6
import Derived.Test.YtdinknpagklkjaaPlaceMost1
namespace Go.Proofs.Ytdinknpagklkjaa
open Go.RowKit

def seatsTo (ws : List Wk) (ts : List (BitVec 32)) (room : List Int) : Nat → List Int × Int
  | 0 => (List.replicate ts.length (-1), 0)
  | i + 1 => if (seatF ws ts room (seatsTo ws ts room i).1 (ws.length + 1) i (List.replicate ws.length false)).1 = true then ((seatF ws ts room (seatsTo ws ts room i).1 (ws.length + 1) i (List.replicate ws.length false)).2.1, (seatsTo ws ts room i).2 + 1) else seatsTo ws ts room i
theorem qa_none (W q : Nat) : qa (List.replicate W false) q = false := by
  unfold qa
  rw [List.getD_eq_getElem?_getD, List.getElem?_replicate]
  split <;> rfl
theorem un_none (W : Nat) : un W (List.replicate W false) ≤ W := by
  have : ∀ n, sm (fun q => ind (!qa (List.replicate W false) q)) n = (n : Int) := fun n => by
    induction n with
    | zero => rfl
    | succ n ih => rw [sm_succ, ih, qa_none]; rfl
  unfold un
  rw [this]
  exact Int.le_refl _
structure SeatsI (ws : List Wk) (ts : List (BitVec 32)) (room : List Int) (i : Nat) (l : List Int) (n : Int) : Prop where
  asg : Asg ws ts room l
  late : ∀ k, i ≤ k → k < ts.length → la l k = -1
  num : n = sizeA l ts.length
  cut : ∃ X, ClS ws ts room l X ∧ ∀ k, k < i → k < ts.length → la l k = -1 → ∀ q', q' < ws.length → mayW (lw ts k) (wk ws q') = true → X q' = true
theorem la_none (M k : Nat) (hk : k < M) : la (List.replicate M (-1)) k = -1 := by
  unfold la
  rw [List.getD_eq_getElem?_getD, List.getElem?_replicate, if_pos hk]
  rfl
theorem seats_inv {ws : List Wk} {ts : List (BitVec 32)} {room : List Int} (hroom : ∀ q, 0 ≤ room.getD q 0) : ∀ i, i ≤ ts.length → SeatsI ws ts room i (seatsTo ws ts room i).1 (seatsTo ws ts room i).2
  | 0, _ => by
    have hc : ∀ q : Nat, cntA (List.replicate ts.length (-1)) ts.length q = 0 := fun q => by
      unfold cntA
      rw [sm_congr (g := fun _ => 0) _ fun k hk => by
        rw [la_none _ _ hk]
        have : ((-1 : Int) == (q : Int)) = false := by rw [beq_eq_false_iff_ne]; omega
        rw [this]; rfl]
      exact sm_zero _
    refine ⟨⟨List.length_replicate, fun k hk => .inl (la_none _ _ hk), fun q _ => by rw [show (seatsTo ws ts room 0).1 = List.replicate ts.length (-1) from rfl, hc]; exact hroom q⟩, fun k _ hk => la_none _ _ hk, ?_, fun _ => false, ⟨fun _ _ h => (by cases h), fun _ _ _ _ _ h => (by cases h)⟩, fun k hk => by omega⟩
    show (0 : Int) = sizeA (List.replicate ts.length (-1)) ts.length
    unfold sizeA
    rw [sm_congr (g := fun _ => 0) _ fun k hk => by rw [la_none _ _ hk]; rfl]
    exact (sm_zero _).symm
  | i + 1, hi => by
    have ih := seats_inv (ws := ws) (ts := ts) (room := room) hroom i (by omega)
    obtain ⟨l, hl⟩ : ∃ l, l = (seatsTo ws ts room i).1 := ⟨_, rfl⟩
    obtain ⟨n, hn⟩ : ∃ n, n = (seatsTo ws ts room i).2 := ⟨_, rfl⟩
    rw [← hl, ← hn] at ih
    obtain ⟨asg, late, num, X, hX, hleft⟩ := ih
    have hil : la l i = -1 := late i (Nat.le_refl _) (by omega)
    obtain ⟨hy, hno⟩ := seatF_spec (ws := ws) (ts := ts) (room := room) (l := l) asg.len asg.cap (ws.length + 1) i (List.replicate ws.length false) (by omega) List.length_replicate (.inl hil) (by have := un_none ws.length; push_cast; omega)
    have he : seatsTo ws ts room (i + 1) = if (seatF ws ts room l (ws.length + 1) i (List.replicate ws.length false)).1 = true then ((seatF ws ts room l (ws.length + 1) i (List.replicate ws.length false)).2.1, n + 1) else (l, n) := by
      rw [hl, hn, seatsTo]
    rw [he]
    by_cases hr : (seatF ws ts room l (ws.length + 1) i (List.replicate ws.length false)).1 = true
    · rw [if_pos hr]
      have y := hy hr
      obtain ⟨l', hl'⟩ : ∃ l', l' = (seatF ws ts room l (ws.length + 1) i (List.replicate ws.length false)).2.1 := ⟨_, rfl⟩
      rw [← hl'] at y ⊢
      obtain ⟨qn, hqn, hln, _, hmn⟩ := y.new
      obtain ⟨f1, f2⟩ := y.free X hX
      refine ⟨⟨by show l'.length = _; rw [y.len, asg.len], fun k hk => ?_, y.cap⟩, fun k hk hkM => ?_, ?_, X, ⟨fun q hq hXq => ?_, fun k q hk hq hkq hXq => ?_⟩, fun k hk hkM hk1 => ?_⟩
      · by_cases hki : k = i
        · subst hki; exact .inr ⟨qn, hqn, hln, hmn⟩
        · rcases y.oth k hk hki with h | ⟨_, q', _, h2, _, _, h5, _, h7⟩
          · show la l' k = -1 ∨ _
            rw [h]; exact asg.ok k hk
          · exact .inr ⟨q', h2, h5, h7⟩
      · rcases y.oth k hkM (by omega) with h | ⟨q, _, _, _, h3, _⟩
        · show la l' k = -1
          rw [h]; exact late k (by omega) hkM
        · have := late k (by omega) hkM
          omega
      · show n + 1 = sizeA l' ts.length
        have : sizeA l' ts.length = sm (fun k => ind (la l k != -1) + ind (k == i)) ts.length := sm_congr _ fun k hk => by
          by_cases hki : k = i
          · subst hki
            have e1 : (la l' k != -1) = true := by rw [hln]; simp
            have e2 : (la l k != -1) = false := by rw [hil]; rfl
            rw [e1, e2]; simp [ind]
          · have e2 : (k == i) = false := by simpa using hki
            rw [e2]
            rcases y.oth k hk hki with h | ⟨q, q', _, _, h3, _, h5, _⟩
            · rw [h]; simp [ind]
            · rw [h3, h5]
              have e3 : (((q : Int)) != -1) = true := by simp
              have e4 : (((q' : Int)) != -1) = true := by simp
              rw [e3, e4]; simp [ind]
        rw [this, sm_add, sm_one, decide_eq_true (show i < ts.length by omega), num]
        rfl
      · have : cntA l' ts.length q = cntA l ts.length q := sm_congr _ fun k hk => by
          by_cases hki : k = i
          · subst hki
            have e1 : (la l' k == (q : Int)) = false := by
              rw [beq_eq_false_iff_ne]
              intro e
              have := f2 q hq e
              rw [hXq] at this; cases this
            have e2 : (la l k == (q : Int)) = false := by rw [beq_eq_false_iff_ne, hil]; omega
            rw [e1, e2]
          · have := f1 k q hk hq hXq hki
            congr 1
            rw [Bool.eq_iff_iff, beq_iff_eq, beq_iff_eq]
            exact this
        show room.getD q 0 ≤ cntA l' ts.length q
        rw [this]
        exact hX.full q hq hXq
      · have hkq : la l' k = (q : Int) := hkq
        by_cases hki : k = i
        · subst hki
          have := f2 q hq hkq
          rw [hXq] at this; cases this
        · exact hX.stay k q hk hq ((f1 k q hk hq hXq hki).1 hkq) hXq
      · have hk1 : la l' k = -1 := hk1
        have hki : k ≠ i := by
          rintro rfl
          rw [hln] at hk1; omega
        rcases y.oth k hkM hki with h | ⟨_, q', _, _, _, _, h5, _⟩
        · rw [h] at hk1
          exact hleft k (by omega) hkM hk1
        · omega
    · rw [if_neg hr]
      obtain ⟨_, no⟩ := hno (by simpa using hr)
      obtain ⟨b, hb⟩ : ∃ b, b = (seatF ws ts room l (ws.length + 1) i (List.replicate ws.length false)).2.2 := ⟨_, rfl⟩
      rw [← hb] at no
      refine ⟨asg, fun k hk hkM => late k (by omega) hkM, num, fun q => X q || qa b q, ⟨fun q hq hXq => ?_, fun k q hk hq hkq hXq q' hq' hm => ?_⟩, fun k hk hkM hk1 q' hq' hm => ?_⟩
      · rw [Bool.or_eq_true] at hXq
        rcases hXq with h | h
        · exact hX.full q hq h
        · exact (no.full q hq h (qa_none _ _)).1
      · rw [Bool.or_eq_true] at hXq ⊢
        rcases hXq with h | h
        · exact .inl (hX.stay k q hk hq hkq h q' hq' hm)
        · exact .inr ((no.full q hq h (qa_none _ _)).2 k hk hkq q' hq' hm)
      · rw [Bool.or_eq_true]
        by_cases hki : k = i
        · subst hki
          exact .inr (no.all q' trivial hq' hm)
        · exact .inl (hleft k (by omega) hkM hk1 q' hq' hm)
theorem seats_mx {ws : List Wk} {ts : List (BitVec 32)} {room : List Int} (hroom : ∀ q, 0 ≤ room.getD q 0) : ∃ l, Asg ws ts room l ∧ (seatsTo ws ts room ts.length).2 = sizeA l ts.length ∧ IsMx (ws.length + ts.length + 2) (netOf ws ts room) (ws.length + ts.length) (ws.length + ts.length + 1) (seatsTo ws ts room ts.length).2 := by
  obtain ⟨asg, _, num, X, hX, hleft⟩ := seats_inv (ws := ws) (ts := ts) hroom ts.length (Nat.le_refl _)
  refine ⟨_, asg, num, ?_⟩
  rw [num]
  exact asg_most asg hX fun k hk => hleft k hk hk
theorem seats_many {ws : List Wk} {ts : List (BitVec 32)} {room : List Int} (hroom : ∀ q, 0 ≤ room.getD q 0) : (seatsTo ws ts room ts.length).2 = manyV ws ts room := by
  obtain ⟨_, _, _, h⟩ := seats_mx (ws := ws) (ts := ts) hroom
  exact (manyV_of h).symm
theorem many_ex {ws : List Wk} {ts : List (BitVec 32)} {room : List Int} (hroom : ∀ q, 0 ≤ room.getD q 0) : ∃ l, Asg ws ts room l ∧ sizeA l ts.length = manyV ws ts room := by
  obtain ⟨l, h1, h2, h3⟩ := seats_mx (ws := ws) (ts := ts) hroom
  exact ⟨l, h1, by rw [← h2, manyV_of h3]⟩
theorem many_le {ws : List Wk} {ts : List (BitVec 32)} {room l : List Int} (hroom : ∀ q, 0 ≤ room.getD q 0) (h : Asg ws ts room l) : sizeA l ts.length ≤ manyV ws ts room := by
  obtain ⟨_, _, _, h3⟩ := seats_mx (ws := ws) (ts := ts) hroom
  rw [manyV_of h3]
  exact asg_le h h3
/-! One task more ahead. -/
theorem sm_shift (f : Nat → Int) : ∀ n, sm f (n + 1) = f 0 + sm (fun i => f (i + 1)) n
  | 0 => by simp [sm]
  | n + 1 => by rw [sm_succ, sm_shift f n, sm_succ]; omega
theorem cnt_cons (x : Int) (l : List Int) (M q : Nat) : cntA (x :: l) (M + 1) q = ind (x == (q : Int)) + cntA l M q := by
  unfold cntA
  rw [sm_shift]
  rfl
theorem size_cons (x : Int) (l : List Int) (M : Nat) : sizeA (x :: l) (M + 1) = ind (x != -1) + sizeA l M := by
  unfold sizeA
  rw [sm_shift]
  rfl
theorem asg_cons {ws : List Wk} {t : BitVec 32} {ts : List (BitVec 32)} {room l : List Int} {x : Int} : Asg ws (t :: ts) room (x :: l) ↔ (l.length = ts.length ∧ (∀ k, k < ts.length → la l k = -1 ∨ ∃ q : Nat, q < ws.length ∧ la l k = q ∧ mayW (lw ts k) (wk ws q) = true) ∧ (x = -1 ∨ ∃ q : Nat, q < ws.length ∧ x = q ∧ mayW t (wk ws q) = true) ∧ ∀ q, q < ws.length → ind (x == (q : Int)) + cntA l ts.length q ≤ room.getD q 0) := by
  constructor
  · intro h
    exact ⟨by simpa using h.len, fun k hk => h.ok (k + 1) (by simpa using hk), h.ok 0 (by simp), fun q hq => by rw [← cnt_cons]; exact h.cap q hq⟩
  · rintro ⟨h1, h2, h3, h4⟩
    refine ⟨by simp [h1], fun k hk => ?_, fun q hq => by rw [List.length_cons, cnt_cons]; exact h4 q hq⟩
    cases k with
    | zero => exact h3
    | succ k => exact h2 k (by simpa using hk)
theorem less_nn {room : List Int} (hroom : ∀ q, 0 ≤ room.getD q 0) {j : Nat} (hj : room.getD j 0 ≠ 0) (hjl : j < room.length) : ∀ q, 0 ≤ (room.set j (room.getD j 0 - 1)).getD q 0 := fun q => by
  have h1 := hroom q
  have h2 := hroom j
  have : (room.set j (room.getD j 0 - 1)).getD q 0 = if j = q then room.getD j 0 - 1 else room.getD q 0 := la_set hjl
  rw [this]
  split <;> omega
theorem many_pick {ws : List Wk} {t : BitVec 32} {ts : List (BitVec 32)} {room : List Int} {j : Nat} (h : pickJ ws t ts room (manyV ws (t :: ts) room) = some j) : manyV ws (t :: ts) room - 1 = manyV ws ts (room.set j (room.getD j 0 - 1)) := by
  unfold pickJ at h
  have h2 := List.find?_some h
  unfold seatB at h2
  rw [Bool.and_eq_true, beq_iff_eq] at h2
  omega
theorem many_skip {ws : List Wk} {t : BitVec 32} {ts : List (BitVec 32)} {room : List Int} (hroom : ∀ q, 0 ≤ room.getD q 0) (hrl : room.length = ws.length) (h : pickJ ws t ts room (manyV ws (t :: ts) room) = none) : manyV ws (t :: ts) room = manyV ws ts room := by
  refine Int.le_antisymm ?_ ?_
  · obtain ⟨l, ha, hs⟩ := many_ex (ws := ws) (ts := t :: ts) hroom
    obtain ⟨x, l2, rfl⟩ : ∃ x l2, l = x :: l2 := by
      have := ha.len
      cases l with
      | nil => simp at this
      | cons x l2 => exact ⟨x, l2, rfl⟩
    obtain ⟨h1, h2, h3, h4⟩ := asg_cons.1 ha
    rw [List.length_cons, size_cons] at hs
    rcases h3 with rfl | ⟨j, hj, rfl, hm⟩
    · have hA : Asg ws ts room l2 := ⟨h1, h2, fun q hq => by
        have := h4 q hq
        have e : ((-1 : Int) == (q : Int)) = false := by rw [beq_eq_false_iff_ne]; omega
        rw [e, ind_f] at this
        omega⟩
      have := many_le hroom hA
      have e : ((-1 : Int) != -1) = false := rfl
      rw [e, ind_f] at hs
      omega
    · exfalso
      have e1 : ((j : Int) != -1) = true := by simp
      have e2 : ((j : Int) == (j : Int)) = true := by simp
      rw [e1, ind_t] at hs
      have hjr := h4 j hj
      rw [e2, ind_t] at hjr
      have hcn : 0 ≤ cntA l2 ts.length j := sm_nn _ fun _ _ => ind_nn _
      have hjl : j < room.length := by rw [hrl]; exact hj
      have hr0 : room.getD j 0 ≠ 0 := by omega
      have hset : ∀ q, (room.set j (room.getD j 0 - 1)).getD q 0 = if j = q then room.getD j 0 - 1 else room.getD q 0 := fun q => la_set hjl
      have hA : Asg ws ts (room.set j (room.getD j 0 - 1)) l2 := ⟨h1, h2, fun q hq => by
        have := h4 q hq
        rw [hset]
        by_cases e : j = q
        · subst e
          rw [e2, ind_t] at this
          rw [if_pos rfl]; omega
        · have e3 : ((j : Int) == (q : Int)) = false := by rw [beq_eq_false_iff_ne]; omega
          rw [e3, ind_f] at this
          rw [if_neg e]; omega⟩
      have g1 := many_le (less_nn hroom hr0 hjl) hA
      obtain ⟨l3, hb, hs3⟩ := many_ex (ws := ws) (ts := ts) (less_nn hroom hr0 hjl)
      have hB : Asg ws (t :: ts) room ((j : Int) :: l3) := asg_cons.2 ⟨hb.len, hb.ok, .inr ⟨j, hj, rfl, hm⟩, fun q hq => by
        have := hb.cap q hq
        rw [hset] at this
        by_cases e : j = q
        · subst e
          rw [if_pos rfl] at this
          rw [e2, ind_t]; omega
        · have e3 : ((j : Int) == (q : Int)) = false := by rw [beq_eq_false_iff_ne]; omega
          rw [if_neg e] at this
          rw [e3, ind_f]; omega⟩
      have g2 := many_le hroom hB
      rw [List.length_cons, size_cons, e1, ind_t] at g2
      unfold pickJ at h
      rw [List.find?_eq_none] at h
      have g3 := h j (List.mem_range.2 hj)
      apply g3
      unfold seatB
      rw [hm, Bool.true_and, Bool.and_eq_true]
      refine ⟨by simpa using hr0, ?_⟩
      rw [beq_iff_eq]
      omega
  · obtain ⟨l, ha, hs⟩ := many_ex (ws := ws) (ts := ts) hroom
    have hB : Asg ws (t :: ts) room ((-1 : Int) :: l) := asg_cons.2 ⟨ha.len, ha.ok, .inl rfl, fun q hq => by
      have e : ((-1 : Int) == (q : Int)) = false := by rw [beq_eq_false_iff_ne]; omega
      rw [e, ind_f]
      have := ha.cap q hq
      omega⟩
    have := many_le hroom hB
    rw [List.length_cons, size_cons] at this
    have e : ((-1 : Int) != -1) = false := rfl
    rw [e, ind_f] at this
    omega
noncomputable def placedG (ws : List Wk) : List (BitVec 32) → List Int → List Int
  | [], _ => []
  | t :: ts, room => match pickJ ws t ts room (manyV ws (t :: ts) room) with
    | some j => (j : Int) :: placedG ws ts (room.set j (room.getD j 0 - 1))
    | none => -1 :: placedG ws ts room
theorem pickJ_room {ws : List Wk} {t : BitVec 32} {ts : List (BitVec 32)} {room : List Int} {left : Int} {j : Nat} (h : pickJ ws t ts room left = some j) : j < ws.length ∧ room.getD j 0 ≠ 0 := by
  unfold pickJ at h
  have h1 := List.mem_of_find?_eq_some h
  have h2 := List.find?_some h
  unfold seatB at h2
  rw [Bool.and_eq_true, Bool.and_eq_true] at h2
  exact ⟨List.mem_range.1 h1, by simpa using h2.1.2⟩
theorem placed_most (ws : List Wk) : ∀ (ts : List (BitVec 32)) (room : List Int), room.length = ws.length → (∀ q, 0 ≤ room.getD q 0) → placedG ws ts room = mostG ws ts room (manyV ws ts room)
  | [], _, _, _ => rfl
  | t :: ts, room, hl, h0 => by
    unfold placedG mostG
    cases hp : pickJ ws t ts room (manyV ws (t :: ts) room) with
    | some j =>
      obtain ⟨h1, h2⟩ := pickJ_room hp
      simp only
      rw [placed_most ws ts _ (by rw [List.length_set]; exact hl) (less_nn h0 h2 (by omega)), many_pick hp]
    | none =>
      simp only
      rw [placed_most ws ts _ hl h0, many_skip h0 hl hp]
/-! Workers with other room. -/
def wsR (ws : List Wk) (room : List Int) : List Wk := (List.range ws.length).map fun q => (room.getD q 0, (wk ws q).2)
theorem wsR_len (ws : List Wk) (room : List Int) : (wsR ws room).length = ws.length := by simp [wsR]
theorem wsR_at {ws : List Wk} {room : List Int} {q : Nat} (hq : q < ws.length) : wk (wsR ws room) q = (room.getD q 0, (wk ws q).2) := by
  unfold wk
  rw [getD_at _ q (by rw [wsR_len]; exact hq)]
  simp [wsR]
theorem wsR_may {ws : List Wk} {room : List Int} {q : Nat} (hq : q < ws.length) (t : BitVec 32) : mayW t (wk (wsR ws room) q) = mayW t (wk ws q) := by
  rw [wsR_at hq]
  rfl
theorem wsR_room {ws : List Wk} {room : List Int} (hl : room.length = ws.length) : (wsR ws room).map (·.1) = room := by
  apply List.ext_getElem
  · simp [wsR, hl]
  · intro j h1 h2
    simp only [wsR, List.map_map, List.getElem_map, List.getElem_range, Function.comp]
    exact getD_at room j h2 0
theorem wsR_self (ws : List Wk) : wsR ws (ws.map (·.1)) = ws := by
  apply List.ext_getElem
  · simp [wsR]
  · intro j h1 h2
    simp only [wsR, List.getElem_map, List.getElem_range]
    have e : wk ws j = ws[j] := getD_at ws j h2 _
    rw [e, getD_at _ j (by simpa using h2), List.getElem_map]
theorem wsR_set {ws : List Wk} {room : List Int} {j : Nat} {x : Int} (hj : j < ws.length) (hl : room.length = ws.length) : wsR ws (room.set j x) = (wsR ws room).set j (x, (wk ws j).2) := by
  apply List.ext_getElem
  · simp [wsR]
  · intro q h1 h2
    have hq : q < ws.length := by simpa [wsR] using h1
    rw [List.getElem_set]
    simp only [wsR, List.getElem_map, List.getElem_range]
    have : (room.set j x).getD q 0 = if j = q then x else room.getD q 0 := la_set (by omega)
    rw [this]
    by_cases e : j = q
    · subst e; rw [if_pos rfl, if_pos rfl]
    · rw [if_neg e, if_neg e]
theorem wsR_net (ws : List Wk) (ts : List (BitVec 32)) (room room' : List Int) : netOf (wsR ws room') ts room = netOf ws ts room := by
  unfold netOf
  rw [wsR_len]
  congr 1
  unfold wkArcs
  have : ∀ q ∈ List.range ws.length, rowArcs ws.length ts.length (wsR ws room') ts room q ts.length = rowArcs ws.length ts.length ws ts room q ts.length := fun q hq => by
    unfold rowArcs
    congr 1
    unfold taskArcs
    congr 1
    funext i
    rw [wsR_may (List.mem_range.1 hq)]
  rw [List.flatMap_def, List.flatMap_def, List.map_congr_left this]
end Go.Proofs.Ytdinknpagklkjaa

/- May a task be with a worker: the reference. Conditions: none. -/
namespace Go.Proofs.Ytdinknpagklkjaa
open Go.RowKit
attribute [local go_sem ↓] w_and w_or w_xor w_andNot w_and1 w_and255 w_xor1 w_or0 w_shl w_shl1 w_shr w_sub w_add w_sub1 w_add1
attribute [local go_sem] w_eq0 w_ne0 w_eq1 w_eq w_ne

theorem ref_May (a : Wk) (t : BitVec 32) (w : World) :
    Calls Try.prog 16 #[.agg #[.int .i64 a.1, .int .u32 (wN a.2)], .int .u32 (wN t)] w fun e w' => e = .returned (.bool (mayW t a)) ∧ Below w.heap.size w w' := by
  have h1 := (Blk.new w 39 #[.int .i64 a.1, .int .u32 (wN a.2)]).cell 1
  have HB := Lib.hid ((Below.refl w.heap.size w).alloc (Nat.le_refl _) (.cells #[.int .i64 a.1, .int .u32 (wN a.2)] 39))
  have HM := Lib.hid (mayW_and t a)
  go_enter Try.func16, Try.ntmps16
  go_wp2_with fail
  go_ret
  exact ⟨ret_bool HM.out, HB.out⟩
end Go.Proofs.Ytdinknpagklkjaa

/- The crew: what each change does, and what is true of it always, in plain Lean. Conditions: none. -/
namespace Go.Proofs.Ytdinknpagklkjaa
open Go.RowKit

abbrev Chg := Int × Int × Int
structure Cw where
  codes : List Int
  inn : BitVec 32
  wants : List Int
  tasks : List (List Int)
def nowAt (inn : BitVec 32) (ws : List Wk) (i : Nat) : Wk := if bitB inn i = true then wk ws i else (0, (wk ws i).2)
def nowF (ws : List Wk) (inn : BitVec 32) : List Wk := (List.range ws.length).map (nowAt inn ws)
def tasksF : List Int → List (BitVec 32) → List (BitVec 32)
  | n :: ns, t :: ts => List.replicate n.toNat t ++ tasksF ns ts
  | _, _ => []
def cutF : List Int → List Int → List (List Int)
  | [], _ => []
  | n :: ns, l => (l.take n.toNat).filter (fun j => decide (0 ≤ j)) :: cutF ns (l.drop n.toNat)
noncomputable def tickF (ws : List Wk) (svs : List (BitVec 32)) (inn : BitVec 32) (wants : List Int) : List (List Int) := cutF wants (mostF (nowF ws inn) (tasksF wants svs))
/-- The sum of the first k but s. -/
def othTo (l : List Int) (s : Nat) : Nat → Int
  | 0 => 0
  | k + 1 => if k = s then othTo l s k else othTo l s k + l.getD k 0
def leftF (tasks : List (List Int)) (j : Int) : List (List Int) := tasks.map fun l => l.filter fun x => x != j
noncomputable def chgF (ws : List Wk) (svs : List (BitVec 32)) (c : Cw) (x : Chg) : Cw × Int :=
  if x.1 < 1 ∨ 4 < x.1 then (c, 6)
  else if x.1 = 4 then ({ c with tasks := tickF ws svs c.inn c.wants }, 0)
  else if x.2.1 < 0 ∨ ((if x.1 = 3 then svs.length else ws.length : Nat) : Int) ≤ x.2.1 then (c, 2)
  else if x.1 = 3 then (if x.2.2 < 0 then (c, 4) else if 12 - othTo c.wants x.2.1.toNat c.wants.length < x.2.2 then (c, 1) else ({ c with wants := c.wants.set x.2.1.toNat x.2.2 }, 0))
  else if bitB c.inn x.2.1 = decide (x.1 = 1) then (c, 7)
  else if x.1 = 1 then ({ c with inn := wOr c.inn (wShl w1 x.2.1.toNat) }, 0)
  else ({ c with inn := wBut c.inn (wShl w1 x.2.1.toNat), tasks := leftF c.tasks x.2.1 }, 0)
noncomputable def stepF (ws : List Wk) (svs : List (BitVec 32)) (c : Cw) (x : Chg) : Cw := { (chgF ws svs c x).1 with codes := c.codes ++ [(chgF ws svs c x).2] }
def startF (n : Nat) : Cw := ⟨[], w0, List.replicate n 0, List.replicate n []⟩
noncomputable def playF (ws : List Wk) (svs : List (BitVec 32)) (l : List Chg) : Cw := l.foldl (stepF ws svs) (startF svs.length)
theorem playF_snoc (ws : List Wk) (svs : List (BitVec 32)) (l : List Chg) (x : Chg) : playF ws svs (l ++ [x]) = stepF ws svs (playF ws svs l) x := by
  unfold playF
  rw [List.foldl_append]
  rfl
/-! Sums. -/
theorem othTo_succ (l : List Int) (s k : Nat) : othTo l s (k + 1) = if k = s then othTo l s k else othTo l s k + l.getD k 0 := rfl
theorem sum_set : ∀ (l : List Int) (s : Nat) (n : Int), s < l.length → (l.set s n).sum = l.sum - l.getD s 0 + n
  | [], _, _, h => by cases h
  | a :: l, 0, n, _ => by simp; omega
  | a :: l, s + 1, n, h => by
    have := sum_set l s n (by simpa using h)
    simp only [List.set_cons_succ, List.sum_cons, List.getD_cons_succ]
    omega
theorem oth_sum (l : List Int) (s : Nat) : ∀ k, k ≤ l.length → othTo l s k + (if s < k then l.getD s 0 else 0) = (l.take k).sum
  | 0, _ => by simp [othTo]
  | k + 1, h => by
    have ih := oth_sum l s k (by omega)
    rw [List.take_succ_eq_append_getElem (by omega), List.sum_append, ← ih]
    have e : l.getD k 0 = l[k] := by simp [List.getD_eq_getElem?_getD, List.getElem?_eq_getElem (show k < l.length by omega)]
    rw [othTo_succ]
    by_cases hk : k = s
    · subst hk
      rw [if_pos rfl, if_pos (by omega), if_neg (by omega), e]
      simp
    · rw [if_neg hk, e]
      by_cases h2 : s < k
      · rw [if_pos (by omega), if_pos h2]; simp; omega
      · rw [if_neg (by omega), if_neg h2]; simp
theorem sum_nonneg : ∀ (l : List Int), (∀ n ∈ l, 0 ≤ n) → 0 ≤ l.sum
  | [], _ => by simp
  | a :: l, h => by
    have := sum_nonneg l fun n hn => h n (List.mem_cons_of_mem _ hn)
    have := h a List.mem_cons_self
    rw [List.sum_cons]; omega
theorem mem_le_sum : ∀ (l : List Int), (∀ n ∈ l, 0 ≤ n) → ∀ n ∈ l, n ≤ l.sum
  | [], _, _, h => by cases h
  | a :: l, h, n, hn => by
    have h1 := sum_nonneg l fun n hn => h n (List.mem_cons_of_mem _ hn)
    have h2 := h a List.mem_cons_self
    rw [List.sum_cons]
    rcases List.mem_cons.1 hn with rfl | hn
    · omega
    · have := mem_le_sum l (fun n hn => h n (List.mem_cons_of_mem _ hn)) n hn
      omega
theorem oth_bound {l : List Int} (h : ∀ n ∈ l, 0 ≤ n) (s : Nat) : ∀ k, k ≤ l.length → 0 ≤ othTo l s k ∧ othTo l s k ≤ l.sum := fun k hk => by
  have h1 : (l.take k).sum ≤ l.sum := by
    have e : l.sum = (l.take k).sum + (l.drop k).sum := by rw [← List.sum_append, List.take_append_drop]
    have := sum_nonneg (l.drop k) fun n hn => h n (List.mem_of_mem_drop hn)
    omega
  have h2 := oth_sum l s k hk
  have h3 : 0 ≤ l.getD s 0 := by
    rw [List.getD_eq_getElem?_getD]
    rcases Nat.lt_or_ge s l.length with hs | hs
    · rw [List.getElem?_eq_getElem hs]; exact h _ (List.getElem_mem hs)
    · rw [List.getElem?_eq_none hs]; simp
  have h4 : ∀ k, k ≤ l.length → 0 ≤ othTo l s k := by
    intro k
    induction k with
    | zero => intro _; exact Int.le_refl _
    | succ k ih =>
      intro hk
      have := ih (by omega)
      rw [othTo_succ]
      split
      · exact this
      · have : 0 ≤ l.getD k 0 := by
          rw [List.getD_eq_getElem?_getD, List.getElem?_eq_getElem (by omega)]; exact h _ (List.getElem_mem (by omega))
        omega
  refine ⟨h4 k hk, ?_⟩
  split at h2 <;> omega
/-! The placing: what is true of it. -/
theorem pickJ_spec {ws : List Wk} {t : BitVec 32} {ts : List (BitVec 32)} {room : List Int} {left : Int} {j : Nat} (h : pickJ ws t ts room left = some j) : j < ws.length ∧ mayW t (wk ws j) = true ∧ room.getD j 0 ≠ 0 := by
  unfold pickJ at h
  have h1 := List.mem_of_find?_eq_some h
  have h2 := List.find?_some h
  unfold seatB at h2
  rw [Bool.and_eq_true, Bool.and_eq_true] at h2
  exact ⟨List.mem_range.1 h1, h2.1.1, by simpa using h2.1.2⟩
theorem getD_set_ite (l : List Int) (j q : Nat) (x : Int) (hj : j < l.length) : (l.set j x).getD q 0 = if j = q then x else l.getD q 0 := by
  rw [List.getD_eq_getElem?_getD, List.getElem?_set]
  by_cases h : j = q
  · subst h; rw [if_pos rfl, if_pos rfl, if_pos hj]; rfl
  · rw [if_neg h, if_neg h, ← List.getD_eq_getElem?_getD]
theorem mostG_may (ws : List Wk) : ∀ (ts : List (BitVec 32)) (room : List Int) (left : Int) (i : Nat) (x : Int), (mostG ws ts room left)[i]? = some x → x = -1 ∨ ∃ q : Nat, x = q ∧ q < ws.length ∧ mayW (lw ts i) (wk ws q) = true
  | [], _, _, i, x, h => by simp [mostG] at h
  | t :: ts, room, left, i, x, h => by
    unfold mostG at h
    split at h
    · rename_i j hp
      obtain ⟨h1, h2, _⟩ := pickJ_spec hp
      cases i with
      | zero =>
        simp only [List.getElem?_cons_zero, Option.some.injEq] at h
        exact .inr ⟨j, h.symm, h1, h2⟩
      | succ i =>
        rw [List.getElem?_cons_succ] at h
        exact mostG_may ws ts _ _ i x h
    · cases i with
      | zero =>
        simp only [List.getElem?_cons_zero, Option.some.injEq] at h
        exact .inl h.symm
      | succ i =>
        rw [List.getElem?_cons_succ] at h
        exact mostG_may ws ts _ _ i x h
theorem mostG_count (ws : List Wk) : ∀ (ts : List (BitVec 32)) (room : List Int) (left : Int), room.length = ws.length → (∀ j, 0 ≤ room.getD j 0) → ∀ q : Nat, ((mostG ws ts room left).count (q : Int) : Int) ≤ room.getD q 0
  | [], room, _, _, h, q => by simpa [mostG] using h q
  | t :: ts, room, left, hl, h, q => by
    unfold mostG
    split
    · rename_i j hp
      obtain ⟨h1, h2, h3⟩ := pickJ_spec hp
      have ih := mostG_count ws ts (room.set j (room.getD j 0 - 1)) (left - 1) (by rw [List.length_set]; exact hl) (fun y => by
        rw [getD_set_ite _ _ _ _ (by omega)]
        have := h y
        have := h j
        split <;> omega) q
      rw [getD_set_ite _ _ _ _ (by omega)] at ih
      rw [List.count_cons]
      by_cases hq : j = q
      · subst hq
        rw [if_pos rfl] at ih
        simp only [beq_self_eq_true, if_true]
        omega
      · rw [if_neg hq] at ih
        have : ¬ ((j : Int) == (q : Int)) = true := by simp; omega
        rw [if_neg this]
        omega
    · have ih := mostG_count ws ts room left hl h q
      rw [List.count_cons]
      have : ¬ ((-1 : Int) == (q : Int)) = true := by simp
      rw [if_neg this]
      omega
theorem cutF_length : ∀ (wants l : List Int), (cutF wants l).length = wants.length
  | [], _ => rfl
  | n :: ns, l => by rw [cutF, List.length_cons, cutF_length, List.length_cons]
theorem cutF_mem : ∀ (wants : List Int) (svs : List (BitVec 32)) (l : List Int) (s : Nat) (j : Int), wants.length = svs.length → j ∈ (cutF wants l).getD s [] → ∃ i : Nat, l[i]? = some j ∧ 0 ≤ j ∧ (tasksF wants svs)[i]? = some (lw svs s)
  | [], svs, l, s, j, _, h => by simp [cutF] at h
  | n :: ns, [], l, s, j, hl, h => by cases hl
  | n :: ns, t :: ts, l, 0, j, hl, h => by
    rw [cutF, List.getD_cons_zero, List.mem_filter] at h
    obtain ⟨h1, h2⟩ := h
    obtain ⟨i, hi⟩ := List.mem_iff_getElem?.1 h1
    rw [List.getElem?_take] at hi
    split at hi
    · rename_i hin
      refine ⟨i, hi, by simpa using h2, ?_⟩
      rw [tasksF, List.getElem?_append_left (by rw [List.length_replicate]; exact hin), List.getElem?_replicate, if_pos hin]
      rfl
    · cases hi
  | n :: ns, t :: ts, l, s + 1, j, hl, h => by
    rw [cutF, List.getD_cons_succ] at h
    obtain ⟨i, h1, h2, h3⟩ := cutF_mem ns ts _ s j (by simpa using hl) h
    rw [List.getElem?_drop] at h1
    refine ⟨n.toNat + i, h1, h2, ?_⟩
    rw [tasksF, List.getElem?_append_right (by rw [List.length_replicate]; omega), List.length_replicate, show n.toNat + i - n.toNat = i by omega, h3]
    rfl
theorem cutF_count : ∀ (wants l : List Int) (q : Int), (cutF wants l).flatten.count q ≤ l.count q
  | [], l, q => by simp [cutF]
  | n :: ns, l, q => by
    rw [cutF, List.flatten_cons, List.count_append]
    have h1 := cutF_count ns (l.drop n.toNat) q
    have h2 : ((l.take n.toNat).filter (fun j => decide (0 ≤ j))).count q ≤ (l.take n.toNat).count q := List.Sublist.count_le _ List.filter_sublist
    have h3 : l.count q = (l.take n.toNat).count q + (l.drop n.toNat).count q := by rw [← List.count_append, List.take_append_drop]
    omega
theorem cutF_len : ∀ (wants l : List Int) (s : Nat), ((cutF wants l).getD s []).length ≤ (wants.getD s 0).toNat
  | [], l, s => by simp [cutF]
  | n :: ns, l, 0 => by
    rw [cutF, List.getD_cons_zero, List.getD_cons_zero]
    refine Nat.le_trans (List.length_filter_le _ _) ?_
    rw [List.length_take]; omega
  | n :: ns, l, s + 1 => by
    rw [cutF, List.getD_cons_succ, List.getD_cons_succ]
    exact cutF_len ns _ s
theorem nowF_length (ws : List Wk) (inn : BitVec 32) : (nowF ws inn).length = ws.length := by unfold nowF; simp
theorem nowF_at (ws : List Wk) (inn : BitVec 32) {q : Nat} (h : q < ws.length) : wk (nowF ws inn) q = nowAt inn ws q := by
  unfold wk nowF
  rw [List.getD_eq_getElem?_getD, List.getElem?_map, List.getElem?_range h]
  rfl
theorem nowF_room (ws : List Wk) (inn : BitVec 32) (q : Nat) : ((nowF ws inn).map (·.1)).getD q 0 = if bitB inn q = true then (wk ws q).1 else 0 := by
  rcases Nat.lt_or_ge q ws.length with h | h
  · have h1 := nowF_at ws inn h
    unfold wk at h1
    rw [List.getD_eq_getElem?_getD] at h1 ⊢
    rw [List.getElem?_map]
    have h2 : (nowF ws inn)[q]? = some ((nowF ws inn)[q]'(by rw [nowF_length]; exact h)) := List.getElem?_eq_getElem _
    rw [h2] at h1 ⊢
    simp only [Option.getD_some, Option.map_some] at h1 ⊢
    rw [h1]
    unfold nowAt
    split <;> rfl
  · rw [List.getD_eq_getElem?_getD, List.getElem?_eq_none (by rw [List.length_map, nowF_length]; exact h)]
    unfold wk
    rw [List.getD_eq_getElem?_getD, List.getElem?_eq_none h]
    split <;> rfl
/-! What is true of a crew always. -/
structure CwOk (ws : List Wk) (svs : List (BitVec 32)) (c : Cw) : Prop where
  wl : c.wants.length = svs.length
  tl : c.tasks.length = svs.length
  w0 : ∀ n ∈ c.wants, 0 ≤ n
  w12 : c.wants.sum ≤ 12
  tk : ∀ s j, j ∈ c.tasks.getD s [] → ∃ q : Nat, j = q ∧ q < ws.length ∧ bitB c.inn q = true ∧ mayW (lw svs s) (wk ws q) = true
  cnt : ∀ q : Nat, ((c.tasks.flatten.count (q : Int) : Nat) : Int) ≤ (wk ws q).1
  t12 : ∀ s, (c.tasks.getD s []).length ≤ 12
theorem CwOk.start {ws : List Wk} {svs : List (BitVec 32)} (hr : ∀ q, 0 ≤ (wk ws q).1) : CwOk ws svs (startF svs.length) := by
  refine ⟨List.length_replicate, List.length_replicate, fun n hn => ?_, ?_, fun s j h => ?_, fun q => ?_, fun s => ?_⟩
  · rw [(List.mem_replicate.1 hn).2]; exact Int.le_refl _
  · have : ∀ n, (List.replicate n (0 : Int)).sum = 0 := fun n => by
      induction n with
      | zero => rfl
      | succ n ih => rw [List.replicate_succ, List.sum_cons, ih]; rfl
    unfold startF
    rw [this]; decide
  · exfalso
    unfold startF at h
    simp only [List.getD_eq_getElem?_getD, List.getElem?_replicate] at h
    split at h <;> simp at h
  · have : (startF svs.length).tasks.flatten = [] := by
      unfold startF
      simp
    rw [this]
    exact hr q
  · unfold startF
    simp only [List.getD_eq_getElem?_getD, List.getElem?_replicate]
    split <;> simp
theorem tick_ok {ws : List Wk} {svs : List (BitVec 32)} (hr : ∀ q, 0 ≤ (wk ws q).1) {inn : BitVec 32} {wants : List Int} (hl : wants.length = svs.length) :
    (∀ s j, j ∈ (tickF ws svs inn wants).getD s [] → ∃ q : Nat, j = q ∧ q < ws.length ∧ bitB inn q = true ∧ mayW (lw svs s) (wk ws q) = true) ∧ ∀ q : Nat, (((tickF ws svs inn wants).flatten.count (q : Int) : Nat) : Int) ≤ (wk ws q).1 := by
  have hroom : ∀ q, 0 ≤ ((nowF ws inn).map (·.1)).getD q 0 := fun q => by
    rw [nowF_room]
    split
    · exact hr q
    · exact Int.le_refl _
  have hcnt : ∀ q : Nat, (((mostF (nowF ws inn) (tasksF wants svs)).count (q : Int) : Nat) : Int) ≤ if bitB inn q = true then (wk ws q).1 else 0 := fun q => by
    have := mostG_count (nowF ws inn) (tasksF wants svs) ((nowF ws inn).map (·.1)) (manyV (nowF ws inn) (tasksF wants svs) ((nowF ws inn).map (·.1))) (by rw [List.length_map]) hroom q
    rw [nowF_room] at this
    exact this
  constructor
  · intro s j hj
    obtain ⟨i, h1, h2, h3⟩ := cutF_mem wants svs _ s j hl hj
    rcases mostG_may _ _ _ _ i j h1 with h | ⟨q, rfl, hq, hm⟩
    · omega
    · rw [nowF_length] at hq
      have hlw : lw (tasksF wants svs) i = lw svs s := by
        rw [lw, List.getD_eq_getElem?_getD, h3]
        rfl
      rw [hlw, nowF_at ws inn hq] at hm
      have hb : bitB inn q = true := by
        rcases Bool.eq_false_or_eq_true (bitB inn q) with h | h
        · exact h
        · exfalso
          have := hcnt q
          rw [h, if_neg (by simp)] at this
          have h5 : 0 < (mostF (nowF ws inn) (tasksF wants svs)).count (q : Int) := List.count_pos_iff.2 (List.mem_of_getElem? h1)
          omega
      refine ⟨q, rfl, hq, hb, ?_⟩
      unfold nowAt at hm
      rwa [if_pos hb] at hm
  · intro q
    have h1 := cutF_count wants (mostF (nowF ws inn) (tasksF wants svs)) (q : Int)
    have h2 := hcnt q
    have h3 := hr q
    unfold tickF
    split at h2 <;> omega
theorem left_getD (tasks : List (List Int)) (j : Int) (s : Nat) : (leftF tasks j).getD s [] = (tasks.getD s []).filter fun x => x != j := by
  unfold leftF
  rw [List.getD_eq_getElem?_getD, List.getD_eq_getElem?_getD, List.getElem?_map]
  cases tasks[s]? <;> rfl
theorem left_count (j q : Int) : ∀ tasks : List (List Int), (leftF tasks j).flatten.count q ≤ tasks.flatten.count q
  | [] => Nat.le_refl _
  | l :: tasks => by
    have ih := left_count j q tasks
    unfold leftF at ih ⊢
    rw [List.map_cons, List.flatten_cons, List.flatten_cons, List.count_append, List.count_append]
    have : (l.filter fun x => x != j).count q ≤ l.count q := List.Sublist.count_le _ List.filter_sublist
    omega
theorem bit_or (x : BitVec 32) (i : Nat) (q : Nat) (h : bitB x q = true) : bitB (wOr x (wShl w1 i)) q = true := by
  rw [bitB_nat] at h ⊢
  rw [b_or, h]
  rfl
theorem bit_but (x : BitVec 32) (i : Nat) (q : Nat) (h : bitB x q = true) (hq : q ≠ i) : bitB (wBut x (wShl w1 i)) q = true := by
  rw [bitB_nat] at h ⊢
  rw [b_but, h]
  unfold wShl w1
  rw [BitVec.getLsbD_shiftLeft]
  simp
  omega
theorem CwOk.step {ws : List Wk} {svs : List (BitVec 32)} {c : Cw} (hr : ∀ q, 0 ≤ (wk ws q).1) (h : CwOk ws svs c) (x : Chg) : CwOk ws svs (stepF ws svs c x) := by
  have hc : CwOk ws svs (chgF ws svs c x).1 := by
    unfold chgF
    split
    · exact h
    split
    · obtain ⟨h1, h2⟩ := tick_ok hr (inn := c.inn) h.wl
      exact ⟨h.wl, by show (tickF _ _ _ _).length = _; unfold tickF; rw [cutF_length]; exact h.wl, h.w0, h.w12, h1, h2, fun s => by
        have h3 := cutF_len c.wants (mostF (nowF ws c.inn) (tasksF c.wants svs)) s
        have h4 : c.wants.getD s 0 ≤ 12 := by
          rw [List.getD_eq_getElem?_getD]
          rcases Nat.lt_or_ge s c.wants.length with h5 | h5
          · rw [List.getElem?_eq_getElem h5]
            have := mem_le_sum c.wants h.w0 _ (List.getElem_mem h5)
            have := h.w12
            simp only [Option.getD_some]
            omega
          · rw [List.getElem?_eq_none h5]; decide
        show ((tickF _ _ _ _).getD s []).length ≤ 12
        unfold tickF
        omega⟩
    by_cases h3 : x.1 = 3
    · rw [if_pos h3, if_pos h3]
      split
      · exact h
      rename_i hwho
      split
      · exact h
      split
      · exact h
      rename_i hn0 hn
      obtain ⟨s, hs⟩ := Int.eq_ofNat_of_zero_le (show 0 ≤ x.2.1 by omega)
      rw [hs] at hn ⊢
      have hsl : s < c.wants.length := by rw [h.wl]; omega
      have ho := oth_sum c.wants s c.wants.length (Nat.le_refl _)
      rw [if_pos hsl, List.take_length] at ho
      simp only [Int.toNat_natCast] at hn ⊢
      refine ⟨by show (c.wants.set _ _).length = _; rw [List.length_set]; exact h.wl, h.tl, fun n hm => ?_, ?_, h.tk, h.cnt, h.t12⟩
      · rcases List.mem_or_eq_of_mem_set hm with hm | rfl
        · exact h.w0 _ hm
        · omega
      · show (c.wants.set _ _).sum ≤ 12
        rw [sum_set _ _ _ hsl]
        omega
    rw [if_neg h3, if_neg h3]
    split
    · exact h
    rename_i hwho
    split
    · exact h
    split
    · exact ⟨h.wl, h.tl, h.w0, h.w12, fun s j hj => by
        obtain ⟨q, h1, h2, h3, h4⟩ := h.tk s j hj
        exact ⟨q, h1, h2, bit_or _ _ _ h3, h4⟩, h.cnt, h.t12⟩
    · refine ⟨h.wl, by show (leftF _ _).length = _; unfold leftF; rw [List.length_map]; exact h.tl, h.w0, h.w12, fun s j hj => ?_, fun q => ?_, fun s => ?_⟩
      · have hj' : j ∈ (leftF c.tasks x.2.1).getD s [] := hj
        rw [left_getD, List.mem_filter] at hj'
        obtain ⟨q, h1, h2, h3, h4⟩ := h.tk s j hj'.1
        refine ⟨q, h1, h2, bit_but _ _ _ h3 ?_, h4⟩
        intro e
        have hne := hj'.2
        rw [h1] at hne
        simp only [bne_iff_ne, ne_eq] at hne
        apply hne
        omega
      · have h1 := left_count x.2.1 (q : Int) c.tasks
        have h2 := h.cnt q
        show (((leftF c.tasks x.2.1).flatten.count (q : Int) : Nat) : Int) ≤ _
        omega
      · show ((leftF c.tasks x.2.1).getD s []).length ≤ 12
        rw [left_getD]
        exact Nat.le_trans (List.length_filter_le _ _) (h.t12 s)
  exact ⟨hc.wl, hc.tl, hc.w0, hc.w12, hc.tk, hc.cnt, hc.t12⟩
theorem CwOk.play {ws : List Wk} {svs : List (BitVec 32)} (hr : ∀ q, 0 ≤ (wk ws q).1) (l : List Chg) : CwOk ws svs (playF ws svs l) := by
  have : ∀ (l : List Chg) (c : Cw), CwOk ws svs c → CwOk ws svs (l.foldl (stepF ws svs) c) := by
    intro l
    induction l with
    | nil => intro c h; exact h
    | cons x l ih => intro c h; exact ih _ (h.step hr x)
  exact this l _ (CwOk.start hr)
theorem step_codes (ws : List Wk) (svs : List (BitVec 32)) (l : List Chg) : (playF ws svs l).codes.length = l.length := by
  have : ∀ (l : List Chg) (c : Cw), (l.foldl (stepF ws svs) c).codes.length = c.codes.length + l.length := by
    intro l
    induction l with
    | nil => intro c; rfl
    | cons x l ih =>
      intro c
      rw [List.foldl_cons, ih]
      unfold stepF
      simp
      omega
  unfold playF
  rw [this]
  simp [startF]
end Go.Proofs.Ytdinknpagklkjaa
