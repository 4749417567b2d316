/- The search for a way with room, in plain Lean: what has been found, and by which step; the way back. Conditions: none. -/
import Derived.Test.YtjkfogkpacmdlaaFeeLeast16
import Derived.Test.YtjkfogkpacmdlaaFeeLeast17
namespace Go.Proofs.Ytjkfogkpacmdlaa
open Go.RowKit

abbrev stepV (x : Stp) : Value := .agg #[.int .i64 x.1, .bool x.2]
def stepsL (m : Nat) : List Stp := (List.range m).flatMap fun i => [(i, false), (i, true)]
theorem mem_stepsL {m : Nat} {x : Stp} : x ∈ stepsL m ↔ x.1 < m := by
  unfold stepsL
  rw [List.mem_flatMap]
  constructor
  · rintro ⟨i, hi, hx⟩
    have := List.mem_range.1 hi
    simp only [List.mem_cons, List.not_mem_nil, or_false] at hx
    rcases hx with rfl | rfl <;> exact this
  · intro h
    refine ⟨x.1, List.mem_range.2 h, ?_⟩
    obtain ⟨i, b⟩ := x
    cases b <;> simp
/-- The nodes that have been found, in their order. -/
def keysO (s : Int) (K : List (Int × Stp)) : List Int := s :: K.map Prod.fst
theorem keysO_snoc (s : Int) (K : List (Int × Stp)) (b : Int) (x : Stp) : keysO s (K ++ [(b, x)]) = keysO s K ++ [b] := by simp [keysO]
theorem keysO_length (s : Int) (K : List (Int × Stp)) : (keysO s K).length = K.length + 1 := by simp [keysO]
theorem keysO_take (s : Int) (K : List (Int × Stp)) (i : Nat) : keysO s (K.take i) = (keysO s K).take (i + 1) := by simp [keysO, List.map_take]
structure BfsI (l : List Arc) (gs : List Int) (s : Int) (K : List (Int × Stp)) : Prop where
  nd : (keysO s K).Nodup
  ent : ∀ (i : Nat) (b : Int) (x : Stp), K[i]? = some (b, x) → x.1 < l.length ∧ 0 < stR l gs x ∧ stT l x = b ∧ stF l x ∈ keysO s (K.take i)
theorem BfsI.nil (l : List Arc) (gs : List Int) (s : Int) : BfsI l gs s [] := ⟨by simp [keysO], fun i b x h => by simp at h⟩
theorem BfsI.snoc {l : List Arc} {gs : List Int} {s : Int} {K : List (Int × Stp)} (h : BfsI l gs s K) {x : Stp} (hx : x.1 < l.length) (hr : 0 < stR l gs x) (hf : stF l x ∈ keysO s K) (ht : stT l x ∉ keysO s K) : BfsI l gs s (K ++ [(stT l x, x)]) := by
  refine ⟨?_, fun i b y hi => ?_⟩
  · rw [keysO_snoc]
    refine List.nodup_append.2 ⟨h.nd, by simp, fun a ha b hb => ?_⟩
    rw [List.mem_singleton] at hb
    intro e
    exact ht (by rw [← hb, ← e]; exact ha)
  · rcases Nat.lt_trichotomy i K.length with hl | hl | hl
    · rw [List.getElem?_append_left hl] at hi
      rw [List.take_append_of_le_length (by omega)]
      exact h.ent i b y hi
    · subst hl
      rw [List.getElem?_append_right (Nat.le_refl _), Nat.sub_self] at hi
      simp at hi
      obtain ⟨rfl, rfl⟩ := hi
      rw [List.take_append_of_le_length (Nat.le_refl _), List.take_length]
      exact ⟨hx, hr, rfl, hf⟩
    · rw [List.getElem?_eq_none (by simp; omega)] at hi
      cases hi
/-- The first p nodes have been looked at: all that can be come to from them has been found. -/
def Scd (l : List Arc) (gs : List Int) (s : Int) (K : List (Int × Stp)) (p : Nat) : Prop := ∀ q, q < p → ∀ a, (keysO s K)[q]? = some a → ∀ x : Stp, x.1 < l.length → 0 < stR l gs x → stF l x = a → stT l x ∈ keysO s K
/-- Of the steps that have been looked at from a node. -/
def Sct (l : List Arc) (gs : List Int) (s : Int) (K : List (Int × Stp)) (a : Int) (pre : List Stp) : Prop := ∀ x ∈ pre, 0 < stR l gs x → stF l x = a → stT l x ∈ keysO s K
theorem Scd.snoc {l : List Arc} {gs : List Int} {s : Int} {K : List (Int × Stp)} {p : Nat} (h : Scd l gs s K p) (hp : p ≤ (keysO s K).length) (b : Int) (x : Stp) : Scd l gs s (K ++ [(b, x)]) p := fun q hq a ha y hy hr hf => by
  rw [keysO_snoc, List.getElem?_append_left (by omega)] at ha
  rw [keysO_snoc]
  exact List.mem_append_left _ (h q hq a ha y hy hr hf)
theorem Sct.snoc {l : List Arc} {gs : List Int} {s : Int} {K : List (Int × Stp)} {a : Int} {pre : List Stp} (h : Sct l gs s K a pre) (b : Int) (x : Stp) : Sct l gs s (K ++ [(b, x)]) a pre := fun y hy hr hf => by
  rw [keysO_snoc]
  exact List.mem_append_left _ (h y hy hr hf)
theorem Sct.next {l : List Arc} {gs : List Int} {s : Int} {K : List (Int × Stp)} {a : Int} {pre : List Stp} (h : Sct l gs s K a pre) {x : Stp} (hx : 0 < stR l gs x → stF l x = a → stT l x ∈ keysO s K) : Sct l gs s K a (pre ++ [x]) := fun y hy hr hf => by
  rcases List.mem_append.1 hy with hy | hy
  · exact h y hy hr hf
  · rw [List.mem_singleton] at hy
    subst hy
    exact hx hr hf
theorem Scd.next {l : List Arc} {gs : List Int} {s : Int} {K : List (Int × Stp)} {p : Nat} {a : Int} (h : Scd l gs s K p) (ha : (keysO s K)[p]? = some a) (hs : Sct l gs s K a (stepsL l.length)) : Scd l gs s K (p + 1) := fun q hq b hb y hy hr hf => by
  by_cases hqp : q = p
  · subst hqp
    rw [ha] at hb
    injection hb with hb
    subst hb
    exact hs y (mem_stepsL.2 hy) hr hf
  · exact h q (by omega) b hb y hy hr hf
theorem BfsI.low {N : Nat} {l : List Arc} {gs : List Int} {s : Nat} {K : List (Int × Stp)} (h : BfsI l gs s K) (hin : InN N l) (hs : s < N) : ∀ b ∈ keysO s K, 0 ≤ b ∧ b < N := fun b hb => by
  rcases List.mem_cons.1 hb with rfl | hb
  · omega
  · obtain ⟨⟨b', x⟩, hm, rfl⟩ := List.mem_map.1 hb
    obtain ⟨i, hi⟩ := List.getElem?_of_mem hm
    obtain ⟨h1, _, h3, _⟩ := h.ent i b' x hi
    have h4 := hin (l.getD x.1 z4) (by rw [List.getD_eq_getElem?_getD, List.getElem?_eq_getElem h1]; exact List.getElem_mem h1)
    show 0 ≤ b' ∧ b' < N
    rw [← h3]
    obtain ⟨i', bx⟩ := x
    unfold stT toS
    cases bx with
    | false => exact ⟨h4.2.2.1, h4.2.2.2.1⟩
    | true => exact ⟨h4.1, h4.2.1⟩
/-- When all have been looked at and the end has not been found, what has been found is a set that is full. -/
theorem no_way {N : Nat} {l : List Arc} {gs : List Int} {s t : Nat} {v : Int} {K : List (Int × Stp)} (hf : FlowV N l gs s t v) (hin : InN N l) (hs : s < N) (hall : Scd l gs s K (keysO s K).length) (ht : (t : Int) ∉ keysO s K) : ∃ p : Int → Bool, p s = true ∧ p t = false ∧ capP p l = v := by
  refine ⟨fun b => decide (b ∈ keysO s K), decide_eq_true (by simp [keysO]), decide_eq_false ht, ?_⟩
  rw [← hf.cross hin hs (p := fun b => decide (b ∈ keysO s K)) (decide_eq_true (by simp [keysO])) (decide_eq_false ht)]
  refine (closed_full _ hf.cap fun x hx hr hp => ?_).symm
  have hm := of_decide_eq_true hp
  obtain ⟨q, hq⟩ := List.getElem?_of_mem hm
  have hlt : q < (keysO s K).length := (List.getElem?_eq_some_iff.1 hq).1
  exact decide_eq_true (hall q hlt _ hq x hx hr rfl)
/-- A node's place in the order. -/
def rkO (s : Int) (K : List (Int × Stp)) (b : Int) : Nat := (keysO s K).idxOf b
theorem rk_ent {l : List Arc} {gs : List Int} {s : Int} {K : List (Int × Stp)} (h : BfsI l gs s K) {b : Int} {x : Stp} (hm : (b, x) ∈ K) : x.1 < l.length ∧ 0 < stR l gs x ∧ stT l x = b ∧ stF l x ∈ keysO s K ∧ rkO s K (stF l x) < rkO s K (stT l x) := by
  obtain ⟨i, hi⟩ := List.getElem?_of_mem hm
  obtain ⟨h1, h2, h3, h4⟩ := h.ent i b x hi
  have hil : i < K.length := (List.getElem?_eq_some_iff.1 hi).1
  rw [keysO_take] at h4
  have h5 : stF l x ∈ keysO s K := List.mem_of_mem_take h4
  refine ⟨h1, h2, h3, h5, ?_⟩
  have hb : (keysO s K)[i + 1]? = some b := by
    show (s :: K.map Prod.fst)[i + 1]? = _
    rw [List.getElem?_cons_succ, List.getElem?_map, hi]
    rfl
  have hbl : i + 1 < (keysO s K).length := (List.getElem?_eq_some_iff.1 hb).1
  have hbe : (keysO s K)[i + 1] = b := (List.getElem?_eq_some_iff.1 hb).2
  have e1 : rkO s K (stT l x) = i + 1 := by
    unfold rkO
    rw [h3, ← hbe]
    exact List.Nodup.idxOf_getElem h.nd (i + 1) hbl
  have e2 : rkO s K (stF l x) < i + 1 := by
    unfold rkO
    have h6 := List.idxOf_lt_length_of_mem h4
    have h7 : (keysO s K).idxOf (stF l x) = ((keysO s K).take (i + 1)).idxOf (stF l x) := by
      conv => lhs; rw [← List.take_append_drop (i + 1) (keysO s K)]
      rw [List.idxOf_append, if_pos h4]
    rw [h7]
    rw [List.length_take] at h6
    omega
  omega
theorem rk_start (s : Int) (K : List (Int × Stp)) {b : Int} (hb : rkO s K b = 0) (hm : b ∈ keysO s K) : b = s := by
  unfold rkO keysO at hb
  rw [List.idxOf_cons] at hb
  cases h : s == b with
  | true => exact (beq_iff_eq.1 h).symm
  | false => rw [h] at hb; simp at hb
/-- The map that the program keeps. -/
def mapL (K : List (Int × Stp)) : List (Int × Value) := K.map fun p => (p.1, stepV p.2)
theorem getK_mapL_none {K : List (Int × Stp)} {b : Int} (h : b ∉ K.map Prod.fst) : getK (mapL K) b = none := by
  induction K with
  | nil => rfl
  | cons p K ih =>
    rw [List.map_cons, List.mem_cons, not_or] at h
    show getK ((p.1, stepV p.2) :: mapL K) b = none
    unfold getK
    rw [if_neg h.1]
    exact ih h.2
theorem getK_mapL {K : List (Int × Stp)} {b : Int} (h : b ∈ K.map Prod.fst) : ∃ x, (b, x) ∈ K ∧ getK (mapL K) b = some (stepV x) := by
  induction K with
  | nil => cases h
  | cons p K ih =>
    show ∃ x, _ ∧ getK ((p.1, stepV p.2) :: mapL K) b = _
    unfold getK
    by_cases hp : b = p.1
    · refine ⟨p.2, by rw [hp]; exact List.mem_cons_self, by rw [if_pos hp]⟩
    · rw [List.map_cons, List.mem_cons] at h
      obtain ⟨x, hx, he⟩ := ih (h.resolve_left hp)
      exact ⟨x, List.mem_cons_of_mem _ hx, by rw [if_neg hp]; exact he⟩
theorem putK_mapL {K : List (Int × Stp)} {b : Int} (x : Stp) (h : b ∉ K.map Prod.fst) : putK (mapL K) b (stepV x) = mapL (K ++ [(b, x)]) := by
  rw [putK_none]
  · simp [mapL]
  · intro p hp e
    unfold mapL at hp
    obtain ⟨q, hq, rfl⟩ := List.mem_map.1 hp
    exact h (List.mem_map.2 ⟨q, hq, e⟩)
/-- The way back so far: from a node on to the end, by steps of what has been found. -/
def BackW (l : List Arc) (K : List (Int × Stp)) (at_ t : Int) (ws : List Stp) : Prop := ChS l at_ ws t ∧ ∀ x ∈ ws, ∃ b, (b, x) ∈ K
theorem BackW.step {l : List Arc} {K : List (Int × Stp)} {at_ t : Int} {ws : List Stp} (h : BackW l K at_ t ws) {x : Stp} (hm : (at_, x) ∈ K) (ht : stT l x = at_) : BackW l K (stF l x) t (x :: ws) :=
  ⟨⟨rfl, by rw [ht]; exact h.1⟩, fun y hy => by
    rcases List.mem_cons.1 hy with rfl | hy
    · exact ⟨_, hm⟩
    · exact h.2 y hy⟩
/-- The least room on a way, and no more than so much. -/
def leastR (l : List Arc) (gs : List Int) : List Stp → Int
  | [] => 1048576
  | x :: ws => if stR l gs x < leastR l gs ws then stR l gs x else leastR l gs ws
theorem leastR_le {l : List Arc} {gs : List Int} : ∀ {ws : List Stp}, ∀ x ∈ ws, leastR l gs ws ≤ stR l gs x
  | y :: ws, x, hx => by
    unfold leastR
    rcases List.mem_cons.1 hx with rfl | hx
    · split <;> omega
    · have := leastR_le (l := l) (gs := gs) x hx
      split <;> omega
theorem leastR_pos {l : List Arc} {gs : List Int} : ∀ {ws : List Stp}, (∀ x ∈ ws, 0 < stR l gs x) → 0 < leastR l gs ws ∧ leastR l gs ws ≤ 1048576
  | [], _ => by simp [leastR]
  | y :: ws, h => by
    have h1 := leastR_pos fun x hx => h x (List.mem_cons_of_mem _ hx)
    have h2 := h y List.mem_cons_self
    unfold leastR
    split <;> omega
/-- A whole way back is pushed on: more goes. -/
theorem back_push {N : Nat} {l : List Arc} {gs : List Int} {s t : Nat} {v : Int} {K : List (Int × Stp)} (hf : FlowV N l gs s t v) (hst : s ≠ t) (hK : BfsI l gs s K) {ws : List Stp} (hw : BackW l K s t ws) : FlowV N l (pushL (leastR l gs ws) gs ws) s t (v + leastR l gs ws) ∧ 0 < leastR l gs ws ∧ ws ≠ [] := by
  have hp : ∀ x ∈ ws, x.1 < l.length ∧ 0 < stR l gs x ∧ rkO s K (stF l x) < rkO s K (stT l x) := fun x hx => by
    obtain ⟨b, hb⟩ := hw.2 x hx
    obtain ⟨h1, h2, _, _, h5⟩ := rk_ent hK hb
    exact ⟨h1, h2, h5⟩
  have hpos := leastR_pos fun x hx => (hp x hx).2.1
  refine ⟨hf.push hst (by omega) hw.1 (rkO s K) fun x hx => ⟨(hp x hx).1, leastR_le x hx, (hp x hx).2.2⟩, hpos.1, ?_⟩
  rintro rfl
  have : (s : Int) = t := hw.1
  omega
/-- The value is no more than all arcs let go. -/
def allM : List Arc → Int
  | [] => 0
  | a :: l => a.m + allM l
theorem capP_le (p : Int → Bool) : ∀ {l : List Arc}, (∀ a ∈ l, 0 ≤ a.m) → capP p l ≤ allM l
  | [], _ => Int.le_refl _
  | a :: l, h => by
    have h1 := capP_le p fun b hb => h b (List.mem_cons_of_mem _ hb)
    have h2 := h a List.mem_cons_self
    unfold capP allM
    split <;> omega
theorem allM_le : ∀ {l : List Arc}, (∀ a ∈ l, a.m ≤ 1048576) → allM l ≤ 1048576 * l.length
  | [], _ => by simp [allM]
  | a :: l, h => by
    have h1 := allM_le fun b hb => h b (List.mem_cons_of_mem _ hb)
    have h2 := h a List.mem_cons_self
    unfold allM
    rw [List.length_cons]
    omega
theorem FlowV.le_all {N : Nat} {l : List Arc} {gs : List Int} {s t : Nat} {v : Int} (h : FlowV N l gs s t v) (hin : InN N l) (hm : ∀ a ∈ l, 0 ≤ a.m) (hs : s < N) (hst : s ≠ t) : v ≤ allM l := by
  have h1 := h.weak hin hs (p := fun j => decide (j ≠ t)) (decide_eq_true (by omega)) (decide_eq_false (by simp))
  exact Int.le_trans h1 (capP_le _ hm)
end Go.Proofs.Ytjkfogkpacmdlaa
