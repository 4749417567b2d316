/- Places found one by one are the most; task by task: the program's placing is the reference's, in plain Lean. Conditions: none. -/
import Derived.Test.YtdinknpagklkjaaCrewPlays18
import Derived.Test.YtdinknpagklkjaaCrewPlays16
import Derived.Test.YtdinknpagklkjaaCrewPlays6
import Derived.Test.YtdinknpagklkjaaCrewPlays1
namespace Go.Proofs.Ytdinknpagklkjaa
open Go.RowKit

def seatsTo (ws : List Wk) (ts : List (BitVec 32)) (room : List Int) : Nat → List Int × Int
  | 0 => (List.replicate ts.length (-1), 0)
  | i + 1 => if (seatF ws ts room (seatsTo ws ts room i).1 (ws.length + 1) i (List.replicate ws.length false)).1 = true then ((seatF ws ts room (seatsTo ws ts room i).1 (ws.length + 1) i (List.replicate ws.length false)).2.1, (seatsTo ws ts room i).2 + 1) else seatsTo ws ts room i
theorem qa_none (W q : Nat) : qa (List.replicate W false) q = false := by
  unfold qa
  rw [List.getD_eq_getElem?_getD, List.getElem?_replicate]
  split <;> rfl
theorem un_none (W : Nat) : un W (List.replicate W false) ≤ W := by
  have : ∀ n, sm (fun q => ind (!qa (List.replicate W false) q)) n = (n : Int) := fun n => by
    induction n with
    | zero => rfl
    | succ n ih => rw [sm_succ, ih, qa_none]; rfl
  unfold un
  rw [this]
  exact Int.le_refl _
structure SeatsI (ws : List Wk) (ts : List (BitVec 32)) (room : List Int) (i : Nat) (l : List Int) (n : Int) : Prop where
  asg : Asg ws ts room l
  late : ∀ k, i ≤ k → k < ts.length → la l k = -1
  num : n = sizeA l ts.length
  cut : ∃ X, ClS ws ts room l X ∧ ∀ k, k < i → k < ts.length → la l k = -1 → ∀ q', q' < ws.length → mayW (lw ts k) (wk ws q') = true → X q' = true
theorem la_none (M k : Nat) (hk : k < M) : la (List.replicate M (-1)) k = -1 := by
  unfold la
  rw [List.getD_eq_getElem?_getD, List.getElem?_replicate, if_pos hk]
  rfl
theorem seats_inv {ws : List Wk} {ts : List (BitVec 32)} {room : List Int} (hroom : ∀ q, 0 ≤ room.getD q 0) : ∀ i, i ≤ ts.length → SeatsI ws ts room i (seatsTo ws ts room i).1 (seatsTo ws ts room i).2
  | 0, _ => by
    have hc : ∀ q : Nat, cntA (List.replicate ts.length (-1)) ts.length q = 0 := fun q => by
      unfold cntA
      rw [sm_congr (g := fun _ => 0) _ fun k hk => by
        rw [la_none _ _ hk]
        have : ((-1 : Int) == (q : Int)) = false := by rw [beq_eq_false_iff_ne]; omega
        rw [this]; rfl]
      exact sm_zero _
    refine ⟨⟨List.length_replicate, fun k hk => .inl (la_none _ _ hk), fun q _ => by rw [show (seatsTo ws ts room 0).1 = List.replicate ts.length (-1) from rfl, hc]; exact hroom q⟩, fun k _ hk => la_none _ _ hk, ?_, fun _ => false, ⟨fun _ _ h => (by cases h), fun _ _ _ _ _ h => (by cases h)⟩, fun k hk => by omega⟩
    show (0 : Int) = sizeA (List.replicate ts.length (-1)) ts.length
    unfold sizeA
    rw [sm_congr (g := fun _ => 0) _ fun k hk => by rw [la_none _ _ hk]; rfl]
    exact (sm_zero _).symm
  | i + 1, hi => by
    have ih := seats_inv (ws := ws) (ts := ts) (room := room) hroom i (by omega)
    obtain ⟨l, hl⟩ : ∃ l, l = (seatsTo ws ts room i).1 := ⟨_, rfl⟩
    obtain ⟨n, hn⟩ : ∃ n, n = (seatsTo ws ts room i).2 := ⟨_, rfl⟩
    rw [← hl, ← hn] at ih
    obtain ⟨asg, late, num, X, hX, hleft⟩ := ih
    have hil : la l i = -1 := late i (Nat.le_refl _) (by omega)
    obtain ⟨hy, hno⟩ := seatF_spec (ws := ws) (ts := ts) (room := room) (l := l) asg.len asg.cap (ws.length + 1) i (List.replicate ws.length false) (by omega) List.length_replicate (.inl hil) (by have := un_none ws.length; push_cast; omega)
    have he : seatsTo ws ts room (i + 1) = if (seatF ws ts room l (ws.length + 1) i (List.replicate ws.length false)).1 = true then ((seatF ws ts room l (ws.length + 1) i (List.replicate ws.length false)).2.1, n + 1) else (l, n) := by
      rw [hl, hn, seatsTo]
    rw [he]
    by_cases hr : (seatF ws ts room l (ws.length + 1) i (List.replicate ws.length false)).1 = true
    · rw [if_pos hr]
      have y := hy hr
      obtain ⟨l', hl'⟩ : ∃ l', l' = (seatF ws ts room l (ws.length + 1) i (List.replicate ws.length false)).2.1 := ⟨_, rfl⟩
      rw [← hl'] at y ⊢
      obtain ⟨qn, hqn, hln, _, hmn⟩ := y.new
      obtain ⟨f1, f2⟩ := y.free X hX
      refine ⟨⟨by show l'.length = _; rw [y.len, asg.len], fun k hk => ?_, y.cap⟩, fun k hk hkM => ?_, ?_, X, ⟨fun q hq hXq => ?_, fun k q hk hq hkq hXq => ?_⟩, fun k hk hkM hk1 => ?_⟩
      · by_cases hki : k = i
        · subst hki; exact .inr ⟨qn, hqn, hln, hmn⟩
        · rcases y.oth k hk hki with h | ⟨_, q', _, h2, _, _, h5, _, h7⟩
          · show la l' k = -1 ∨ _
            rw [h]; exact asg.ok k hk
          · exact .inr ⟨q', h2, h5, h7⟩
      · rcases y.oth k hkM (by omega) with h | ⟨q, _, _, _, h3, _⟩
        · show la l' k = -1
          rw [h]; exact late k (by omega) hkM
        · have := late k (by omega) hkM
          omega
      · show n + 1 = sizeA l' ts.length
        have : sizeA l' ts.length = sm (fun k => ind (la l k != -1) + ind (k == i)) ts.length := sm_congr _ fun k hk => by
          by_cases hki : k = i
          · subst hki
            have e1 : (la l' k != -1) = true := by rw [hln]; simp
            have e2 : (la l k != -1) = false := by rw [hil]; rfl
            rw [e1, e2]; simp [ind]
          · have e2 : (k == i) = false := by simpa using hki
            rw [e2]
            rcases y.oth k hk hki with h | ⟨q, q', _, _, h3, _, h5, _⟩
            · rw [h]; simp [ind]
            · rw [h3, h5]
              have e3 : (((q : Int)) != -1) = true := by simp
              have e4 : (((q' : Int)) != -1) = true := by simp
              rw [e3, e4]; simp [ind]
        rw [this, sm_add, sm_one, decide_eq_true (show i < ts.length by omega), num]
        rfl
      · have : cntA l' ts.length q = cntA l ts.length q := sm_congr _ fun k hk => by
          by_cases hki : k = i
          · subst hki
            have e1 : (la l' k == (q : Int)) = false := by
              rw [beq_eq_false_iff_ne]
              intro e
              have := f2 q hq e
              rw [hXq] at this; cases this
            have e2 : (la l k == (q : Int)) = false := by rw [beq_eq_false_iff_ne, hil]; omega
            rw [e1, e2]
          · have := f1 k q hk hq hXq hki
            congr 1
            rw [Bool.eq_iff_iff, beq_iff_eq, beq_iff_eq]
            exact this
        show room.getD q 0 ≤ cntA l' ts.length q
        rw [this]
        exact hX.full q hq hXq
      · have hkq : la l' k = (q : Int) := hkq
        by_cases hki : k = i
        · subst hki
          have := f2 q hq hkq
          rw [hXq] at this; cases this
        · exact hX.stay k q hk hq ((f1 k q hk hq hXq hki).1 hkq) hXq
      · have hk1 : la l' k = -1 := hk1
        have hki : k ≠ i := by
          rintro rfl
          rw [hln] at hk1; omega
        rcases y.oth k hkM hki with h | ⟨_, q', _, _, _, _, h5, _⟩
        · rw [h] at hk1
          exact hleft k (by omega) hkM hk1
        · omega
    · rw [if_neg hr]
      obtain ⟨_, no⟩ := hno (by simpa using hr)
      obtain ⟨b, hb⟩ : ∃ b, b = (seatF ws ts room l (ws.length + 1) i (List.replicate ws.length false)).2.2 := ⟨_, rfl⟩
      rw [← hb] at no
      refine ⟨asg, fun k hk hkM => late k (by omega) hkM, num, fun q => X q || qa b q, ⟨fun q hq hXq => ?_, fun k q hk hq hkq hXq q' hq' hm => ?_⟩, fun k hk hkM hk1 q' hq' hm => ?_⟩
      · rw [Bool.or_eq_true] at hXq
        rcases hXq with h | h
        · exact hX.full q hq h
        · exact (no.full q hq h (qa_none _ _)).1
      · rw [Bool.or_eq_true] at hXq ⊢
        rcases hXq with h | h
        · exact .inl (hX.stay k q hk hq hkq h q' hq' hm)
        · exact .inr ((no.full q hq h (qa_none _ _)).2 k hk hkq q' hq' hm)
      · rw [Bool.or_eq_true]
        by_cases hki : k = i
        · subst hki
          exact .inr (no.all q' trivial hq' hm)
        · exact .inl (hleft k (by omega) hkM hk1 q' hq' hm)
theorem seats_mx {ws : List Wk} {ts : List (BitVec 32)} {room : List Int} (hroom : ∀ q, 0 ≤ room.getD q 0) : ∃ l, Asg ws ts room l ∧ (seatsTo ws ts room ts.length).2 = sizeA l ts.length ∧ IsMx (ws.length + ts.length + 2) (netOf ws ts room) (ws.length + ts.length) (ws.length + ts.length + 1) (seatsTo ws ts room ts.length).2 := by
  obtain ⟨asg, _, num, X, hX, hleft⟩ := seats_inv (ws := ws) (ts := ts) hroom ts.length (Nat.le_refl _)
  refine ⟨_, asg, num, ?_⟩
  rw [num]
  exact asg_most asg hX fun k hk => hleft k hk hk
theorem seats_many {ws : List Wk} {ts : List (BitVec 32)} {room : List Int} (hroom : ∀ q, 0 ≤ room.getD q 0) : (seatsTo ws ts room ts.length).2 = manyV ws ts room := by
  obtain ⟨_, _, _, h⟩ := seats_mx (ws := ws) (ts := ts) hroom
  exact (manyV_of h).symm
theorem many_ex {ws : List Wk} {ts : List (BitVec 32)} {room : List Int} (hroom : ∀ q, 0 ≤ room.getD q 0) : ∃ l, Asg ws ts room l ∧ sizeA l ts.length = manyV ws ts room := by
  obtain ⟨l, h1, h2, h3⟩ := seats_mx (ws := ws) (ts := ts) hroom
  exact ⟨l, h1, by rw [← h2, manyV_of h3]⟩
theorem many_le {ws : List Wk} {ts : List (BitVec 32)} {room l : List Int} (hroom : ∀ q, 0 ≤ room.getD q 0) (h : Asg ws ts room l) : sizeA l ts.length ≤ manyV ws ts room := by
  obtain ⟨_, _, _, h3⟩ := seats_mx (ws := ws) (ts := ts) hroom
  rw [manyV_of h3]
  exact asg_le h h3
/-! One task more ahead. -/
theorem sm_shift (f : Nat → Int) : ∀ n, sm f (n + 1) = f 0 + sm (fun i => f (i + 1)) n
  | 0 => by simp [sm]
  | n + 1 => by rw [sm_succ, sm_shift f n, sm_succ]; omega
theorem cnt_cons (x : Int) (l : List Int) (M q : Nat) : cntA (x :: l) (M + 1) q = ind (x == (q : Int)) + cntA l M q := by
  unfold cntA
  rw [sm_shift]
  rfl
theorem size_cons (x : Int) (l : List Int) (M : Nat) : sizeA (x :: l) (M + 1) = ind (x != -1) + sizeA l M := by
  unfold sizeA
  rw [sm_shift]
  rfl
theorem asg_cons {ws : List Wk} {t : BitVec 32} {ts : List (BitVec 32)} {room l : List Int} {x : Int} : Asg ws (t :: ts) room (x :: l) ↔ (l.length = ts.length ∧ (∀ k, k < ts.length → la l k = -1 ∨ ∃ q : Nat, q < ws.length ∧ la l k = q ∧ mayW (lw ts k) (wk ws q) = true) ∧ (x = -1 ∨ ∃ q : Nat, q < ws.length ∧ x = q ∧ mayW t (wk ws q) = true) ∧ ∀ q, q < ws.length → ind (x == (q : Int)) + cntA l ts.length q ≤ room.getD q 0) := by
  constructor
  · intro h
    exact ⟨by simpa using h.len, fun k hk => h.ok (k + 1) (by simpa using hk), h.ok 0 (by simp), fun q hq => by rw [← cnt_cons]; exact h.cap q hq⟩
  · rintro ⟨h1, h2, h3, h4⟩
    refine ⟨by simp [h1], fun k hk => ?_, fun q hq => by rw [List.length_cons, cnt_cons]; exact h4 q hq⟩
    cases k with
    | zero => exact h3
    | succ k => exact h2 k (by simpa using hk)
theorem less_nn {room : List Int} (hroom : ∀ q, 0 ≤ room.getD q 0) {j : Nat} (hj : room.getD j 0 ≠ 0) (hjl : j < room.length) : ∀ q, 0 ≤ (room.set j (room.getD j 0 - 1)).getD q 0 := fun q => by
  have h1 := hroom q
  have h2 := hroom j
  have : (room.set j (room.getD j 0 - 1)).getD q 0 = if j = q then room.getD j 0 - 1 else room.getD q 0 := la_set hjl
  rw [this]
  split <;> omega
theorem many_pick {ws : List Wk} {t : BitVec 32} {ts : List (BitVec 32)} {room : List Int} {j : Nat} (h : pickJ ws t ts room (manyV ws (t :: ts) room) = some j) : manyV ws (t :: ts) room - 1 = manyV ws ts (room.set j (room.getD j 0 - 1)) := by
  unfold pickJ at h
  have h2 := List.find?_some h
  unfold seatB at h2
  rw [Bool.and_eq_true, beq_iff_eq] at h2
  omega
theorem many_skip {ws : List Wk} {t : BitVec 32} {ts : List (BitVec 32)} {room : List Int} (hroom : ∀ q, 0 ≤ room.getD q 0) (hrl : room.length = ws.length) (h : pickJ ws t ts room (manyV ws (t :: ts) room) = none) : manyV ws (t :: ts) room = manyV ws ts room := by
  refine Int.le_antisymm ?_ ?_
  · obtain ⟨l, ha, hs⟩ := many_ex (ws := ws) (ts := t :: ts) hroom
    obtain ⟨x, l2, rfl⟩ : ∃ x l2, l = x :: l2 := by
      have := ha.len
      cases l with
      | nil => simp at this
      | cons x l2 => exact ⟨x, l2, rfl⟩
    obtain ⟨h1, h2, h3, h4⟩ := asg_cons.1 ha
    rw [List.length_cons, size_cons] at hs
    rcases h3 with rfl | ⟨j, hj, rfl, hm⟩
    · have hA : Asg ws ts room l2 := ⟨h1, h2, fun q hq => by
        have := h4 q hq
        have e : ((-1 : Int) == (q : Int)) = false := by rw [beq_eq_false_iff_ne]; omega
        rw [e, ind_f] at this
        omega⟩
      have := many_le hroom hA
      have e : ((-1 : Int) != -1) = false := rfl
      rw [e, ind_f] at hs
      omega
    · exfalso
      have e1 : ((j : Int) != -1) = true := by simp
      have e2 : ((j : Int) == (j : Int)) = true := by simp
      rw [e1, ind_t] at hs
      have hjr := h4 j hj
      rw [e2, ind_t] at hjr
      have hcn : 0 ≤ cntA l2 ts.length j := sm_nn _ fun _ _ => ind_nn _
      have hjl : j < room.length := by rw [hrl]; exact hj
      have hr0 : room.getD j 0 ≠ 0 := by omega
      have hset : ∀ q, (room.set j (room.getD j 0 - 1)).getD q 0 = if j = q then room.getD j 0 - 1 else room.getD q 0 := fun q => la_set hjl
      have hA : Asg ws ts (room.set j (room.getD j 0 - 1)) l2 := ⟨h1, h2, fun q hq => by
        have := h4 q hq
        rw [hset]
        by_cases e : j = q
        · subst e
          rw [e2, ind_t] at this
          rw [if_pos rfl]; omega
        · have e3 : ((j : Int) == (q : Int)) = false := by rw [beq_eq_false_iff_ne]; omega
          rw [e3, ind_f] at this
          rw [if_neg e]; omega⟩
      have g1 := many_le (less_nn hroom hr0 hjl) hA
      obtain ⟨l3, hb, hs3⟩ := many_ex (ws := ws) (ts := ts) (less_nn hroom hr0 hjl)
      have hB : Asg ws (t :: ts) room ((j : Int) :: l3) := asg_cons.2 ⟨hb.len, hb.ok, .inr ⟨j, hj, rfl, hm⟩, fun q hq => by
        have := hb.cap q hq
        rw [hset] at this
        by_cases e : j = q
        · subst e
          rw [if_pos rfl] at this
          rw [e2, ind_t]; omega
        · have e3 : ((j : Int) == (q : Int)) = false := by rw [beq_eq_false_iff_ne]; omega
          rw [if_neg e] at this
          rw [e3, ind_f]; omega⟩
      have g2 := many_le hroom hB
      rw [List.length_cons, size_cons, e1, ind_t] at g2
      unfold pickJ at h
      rw [List.find?_eq_none] at h
      have g3 := h j (List.mem_range.2 hj)
      apply g3
      unfold seatB
      rw [hm, Bool.true_and, Bool.and_eq_true]
      refine ⟨by simpa using hr0, ?_⟩
      rw [beq_iff_eq]
      omega
  · obtain ⟨l, ha, hs⟩ := many_ex (ws := ws) (ts := ts) hroom
    have hB : Asg ws (t :: ts) room ((-1 : Int) :: l) := asg_cons.2 ⟨ha.len, ha.ok, .inl rfl, fun q hq => by
      have e : ((-1 : Int) == (q : Int)) = false := by rw [beq_eq_false_iff_ne]; omega
      rw [e, ind_f]
      have := ha.cap q hq
      omega⟩
    have := many_le hroom hB
    rw [List.length_cons, size_cons] at this
    have e : ((-1 : Int) != -1) = false := rfl
    rw [e, ind_f] at this
    omega
noncomputable def placedG (ws : List Wk) : List (BitVec 32) → List Int → List Int
  | [], _ => []
  | t :: ts, room => match pickJ ws t ts room (manyV ws (t :: ts) room) with
    | some j => (j : Int) :: placedG ws ts (room.set j (room.getD j 0 - 1))
    | none => -1 :: placedG ws ts room
theorem pickJ_room {ws : List Wk} {t : BitVec 32} {ts : List (BitVec 32)} {room : List Int} {left : Int} {j : Nat} (h : pickJ ws t ts room left = some j) : j < ws.length ∧ room.getD j 0 ≠ 0 := by
  unfold pickJ at h
  have h1 := List.mem_of_find?_eq_some h
  have h2 := List.find?_some h
  unfold seatB at h2
  rw [Bool.and_eq_true, Bool.and_eq_true] at h2
  exact ⟨List.mem_range.1 h1, by simpa using h2.1.2⟩
theorem placed_most (ws : List Wk) : ∀ (ts : List (BitVec 32)) (room : List Int), room.length = ws.length → (∀ q, 0 ≤ room.getD q 0) → placedG ws ts room = mostG ws ts room (manyV ws ts room)
  | [], _, _, _ => rfl
  | t :: ts, room, hl, h0 => by
    unfold placedG mostG
    cases hp : pickJ ws t ts room (manyV ws (t :: ts) room) with
    | some j =>
      obtain ⟨h1, h2⟩ := pickJ_room hp
      simp only
      rw [placed_most ws ts _ (by rw [List.length_set]; exact hl) (less_nn h0 h2 (by omega)), many_pick hp]
    | none =>
      simp only
      rw [placed_most ws ts _ hl h0, many_skip h0 hl hp]
/-! Workers with other room. -/
def wsR (ws : List Wk) (room : List Int) : List Wk := (List.range ws.length).map fun q => (room.getD q 0, (wk ws q).2)
theorem wsR_len (ws : List Wk) (room : List Int) : (wsR ws room).length = ws.length := by simp [wsR]
theorem wsR_at {ws : List Wk} {room : List Int} {q : Nat} (hq : q < ws.length) : wk (wsR ws room) q = (room.getD q 0, (wk ws q).2) := by
  unfold wk
  rw [getD_at _ q (by rw [wsR_len]; exact hq)]
  simp [wsR]
theorem wsR_may {ws : List Wk} {room : List Int} {q : Nat} (hq : q < ws.length) (t : BitVec 32) : mayW t (wk (wsR ws room) q) = mayW t (wk ws q) := by
  rw [wsR_at hq]
  rfl
theorem wsR_room {ws : List Wk} {room : List Int} (hl : room.length = ws.length) : (wsR ws room).map (·.1) = room := by
  apply List.ext_getElem
  · simp [wsR, hl]
  · intro j h1 h2
    simp only [wsR, List.map_map, List.getElem_map, List.getElem_range, Function.comp]
    exact getD_at room j h2 0
theorem wsR_self (ws : List Wk) : wsR ws (ws.map (·.1)) = ws := by
  apply List.ext_getElem
  · simp [wsR]
  · intro j h1 h2
    simp only [wsR, List.getElem_map, List.getElem_range]
    have e : wk ws j = ws[j] := getD_at ws j h2 _
    rw [e, getD_at _ j (by simpa using h2), List.getElem_map]
theorem wsR_set {ws : List Wk} {room : List Int} {j : Nat} {x : Int} (hj : j < ws.length) (hl : room.length = ws.length) : wsR ws (room.set j x) = (wsR ws room).set j (x, (wk ws j).2) := by
  apply List.ext_getElem
  · simp [wsR]
  · intro q h1 h2
    have hq : q < ws.length := by simpa [wsR] using h1
    rw [List.getElem_set]
    simp only [wsR, List.getElem_map, List.getElem_range]
    have : (room.set j x).getD q 0 = if j = q then x else room.getD q 0 := la_set (by omega)
    rw [this]
    by_cases e : j = q
    · subst e; rw [if_pos rfl, if_pos rfl]
    · rw [if_neg e, if_neg e]
theorem wsR_net (ws : List Wk) (ts : List (BitVec 32)) (room room' : List Int) : netOf (wsR ws room') ts room = netOf ws ts room := by
  unfold netOf
  rw [wsR_len]
  congr 1
  unfold wkArcs
  have : ∀ q ∈ List.range ws.length, rowArcs ws.length ts.length (wsR ws room') ts room q ts.length = rowArcs ws.length ts.length ws ts room q ts.length := fun q hq => by
    unfold rowArcs
    congr 1
    unfold taskArcs
    congr 1
    funext i
    rw [wsR_may (List.mem_range.1 hq)]
  rw [List.flatMap_def, List.flatMap_def, List.map_congr_left this]
end Go.Proofs.Ytdinknpagklkjaa

/- What the document's placing keeps, in plain Lean. Conditions: none. -/
namespace Go.Proofs.Ytdinknpagklkjaa
open Go.RowKit

def whoTo (wants : List Int) : Nat → List Int
  | 0 => []
  | k + 1 => whoTo wants k ++ List.replicate (wants.getD k 0).toNat (k : Int)
theorem whoTo_succ (wants : List Int) (k : Nat) : whoTo wants (k + 1) = whoTo wants k ++ List.replicate (wants.getD k 0).toNat (k : Int) := rfl
theorem offN_le_of {wants : List Int} {a b : Nat} (h : a ≤ b) : offN wants a ≤ offN wants b := by
  have : wants.take a = (wants.take b).take a := by rw [List.take_take, Nat.min_eq_left h]
  have h2 : (wants.take b).map Int.toNat = ((wants.take b).take a).map Int.toNat ++ ((wants.take b).drop a).map Int.toNat := by rw [← List.map_append, List.take_append_drop]
  have h3 := congrArg List.sum h2
  rw [List.sum_append, ← this] at h3
  unfold offN
  omega
theorem whoTo_len (wants : List Int) : ∀ k, k ≤ wants.length → (whoTo wants k).length = offN wants k
  | 0, _ => by simp [whoTo, offN]
  | k + 1, h => by rw [whoTo_succ, List.length_append, whoTo_len wants k (by omega), offN_succ (by omega), List.length_replicate]
theorem whoTo_at (wants : List Int) : ∀ k, k ≤ wants.length → ∀ i, i < offN wants k → ∃ s : Nat, s < k ∧ (whoTo wants k).getD i 0 = s ∧ offN wants s ≤ i ∧ i < offN wants (s + 1)
  | 0, _, i, h => by simp [offN] at h
  | k + 1, hk, i, h => by
    rw [whoTo_succ, List.getD_eq_getElem?_getD]
    by_cases hi : i < offN wants k
    · obtain ⟨s, h1, h2, h3, h4⟩ := whoTo_at wants k (by omega) i hi
      rw [List.getElem?_append_left (by rw [whoTo_len wants k (by omega)]; exact hi), ← List.getD_eq_getElem?_getD]
      exact ⟨s, by omega, h2, h3, h4⟩
    · have hs := offN_succ (show k < wants.length by omega)
      rw [List.getElem?_append_right (by rw [whoTo_len wants k (by omega)]; omega), List.getElem?_replicate, whoTo_len wants k (by omega), if_pos (by omega)]
      exact ⟨k, by omega, rfl, by omega, h⟩
def rwTo (full who : List Int) (j : Nat) : Nat → List Int
  | 0 => []
  | i + 1 => if who.getD i 0 = j ∧ 0 ≤ full.getD i 0 then rwTo full who j i ++ [full.getD i 0] else rwTo full who j i
theorem rwTo_succ (full who : List Int) (j i : Nat) : rwTo full who j (i + 1) = if who.getD i 0 = j ∧ 0 ≤ full.getD i 0 then rwTo full who j i ++ [full.getD i 0] else rwTo full who j i := rfl
theorem rwTo_len (full who : List Int) (j : Nat) : ∀ i, (rwTo full who j i).length ≤ i
  | 0 => Nat.le_refl _
  | i + 1 => by
    have := rwTo_len full who j i
    rw [rwTo_succ]
    split
    · rw [List.length_append]; simp; omega
    · omega
theorem rwTo_eq {wants full : List Int} (hl : full.length = offN wants wants.length) {j : Nat} (hj : j < wants.length) : ∀ i, i ≤ full.length → rwTo full (whoTo wants wants.length) j i = (((full.take (min i (offN wants (j + 1)))).drop (offN wants j))).filter (fun x => decide (0 ≤ x))
  | 0, _ => by simp [rwTo]
  | i + 1, hi => by
    have ih := rwTo_eq hl hj i (by omega)
    obtain ⟨s, h1, h2, h3, h4⟩ := whoTo_at wants wants.length (Nat.le_refl _) i (by omega)
    rw [rwTo_succ, h2, ih]
    by_cases hs : s = j
    · subst hs
      have hg : full.getD i 0 = full[i] := getD_at full i (by omega) 0
      rw [hg, Nat.min_eq_left (by omega), Nat.min_eq_left (by omega), List.take_succ_eq_append_getElem (by omega), List.drop_append_of_le_length (by rw [List.length_take]; omega), List.filter_append]
      by_cases hx : 0 ≤ full[i]
      · rw [if_pos ⟨rfl, hx⟩, List.filter_cons_of_pos (by simpa using hx), List.filter_nil]
      · rw [if_neg (fun h => hx h.2), List.filter_cons_of_neg (by simpa using hx), List.filter_nil, List.append_nil]
    · rw [if_neg (fun h => hs (by have := h.1; omega))]
      by_cases hlt : i < offN wants j
      · have hm := offN_le_of (wants := wants) (show j ≤ j + 1 by omega)
        rw [List.drop_of_length_le (by rw [List.length_take]; omega), List.drop_of_length_le (by rw [List.length_take]; omega)]
      · have : offN wants (j + 1) ≤ i := by
          rcases Nat.lt_or_ge s j with h | h
          · have := offN_le_of (wants := wants) (show s + 1 ≤ j by omega)
            omega
          · have := offN_le_of (wants := wants) (show j + 1 ≤ s by omega)
            omega
        rw [Nat.min_eq_right this, Nat.min_eq_right (by omega)]
theorem rwTo_cut {wants full : List Int} (hl : full.length = offN wants wants.length) {j : Nat} (hj : j < wants.length) : rwTo full (whoTo wants wants.length) j full.length = (cutF wants full).getD j [] := by
  rw [rwTo_eq hl hj _ (Nat.le_refl _), cutF_at _ _ _ hj]
  have h1 := offN_le_of (wants := wants) (show j + 1 ≤ wants.length by omega)
  have h2 := offN_succ hj
  rw [Nat.min_eq_right (by omega), List.drop_take, h2, show offN wants j + (wants.getD j 0).toNat - offN wants j = (wants.getD j 0).toNat by omega]
theorem nowF_snoc {ws : List Wk} {inn : BitVec 32} {i : Nat} (h : i < ws.length) : (nowF ws inn).take (i + 1) = (nowF ws inn).take i ++ [nowAt inn ws i] := by
  rw [List.take_succ_eq_append_getElem (by rw [nowF_length]; exact h)]
  congr 2
  unfold nowF
  rw [List.getElem_map, List.getElem_range]
theorem now_rooms {ws : List Wk} {inn : BitVec 32} (h : ∀ k ∈ ws, 0 ≤ k.1 ∧ k.1 ≤ 12) : ∀ k ∈ nowF ws inn, 0 ≤ k.1 ∧ k.1 ≤ 12 := by
  intro x hx
  unfold nowF at hx
  obtain ⟨q, hq, rfl⟩ := List.mem_map.1 hx
  have hq := List.mem_range.1 hq
  have hw : wk ws q ∈ ws := by
    unfold wk
    rw [getD_at ws q hq]
    exact List.getElem_mem hq
  have := h _ hw
  unfold nowAt
  generalize wk ws q = y at this ⊢
  split
  · exact this
  · exact ⟨Int.le_refl _, (show (0 : Int) ≤ 12 by decide)⟩
end Go.Proofs.Ytdinknpagklkjaa

/- May a task be with a worker: the reference. Conditions: none. -/
namespace Go.Proofs.Ytdinknpagklkjaa
open Go.RowKit
attribute [local go_sem ↓] w_and w_or w_xor w_andNot w_and1 w_and255 w_xor1 w_or0 w_shl w_shl1 w_shr w_sub w_add w_sub1 w_add1
attribute [local go_sem] w_eq0 w_ne0 w_eq1 w_eq w_ne

theorem ref_May (a : Wk) (t : BitVec 32) (w : World) :
    Calls Try.prog 16 #[.agg #[.int .i64 a.1, .int .u32 (wN a.2)], .int .u32 (wN t)] w fun e w' => e = .returned (.bool (mayW t a)) ∧ Below w.heap.size w w' := by
  have h1 := (Blk.new w 39 #[.int .i64 a.1, .int .u32 (wN a.2)]).cell 1
  have HB := Lib.hid ((Below.refl w.heap.size w).alloc (Nat.le_refl _) (.cells #[.int .i64 a.1, .int .u32 (wN a.2)] 39))
  have HM := Lib.hid (mayW_and t a)
  go_enter Try.func16, Try.ntmps16
  go_wp2_with fail
  go_ret
  exact ⟨ret_bool HM.out, HB.out⟩
end Go.Proofs.Ytdinknpagklkjaa
