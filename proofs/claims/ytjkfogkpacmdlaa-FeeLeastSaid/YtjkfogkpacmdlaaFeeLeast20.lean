/- The cheapest way is pushed on: it stays so that nothing can be had cheaper; what it costs: in plain Lean. Conditions: none. -/
import Derived.Test.YtjkfogkpacmdlaaFeeLeast4
import Derived.Test.YtjkfogkpacmdlaaFeeLeast15
import Derived.Test.YtjkfogkpacmdlaaFeeLeast19
namespace Go.Proofs.Ytjkfogkpacmdlaa
open Go.RowKit

theorem nodup_rev {α : Type} {l : List α} : l.reverse.Nodup ↔ l.Nodup := by
  unfold List.Nodup
  rw [List.pairwise_reverse]
  exact ⟨fun h => h.imp fun h => h.symm, fun h => h.imp fun h => h.symm⟩
/-- A step by its number. -/
def spK (k : Nat) : Stp := (k / 2, isBack k)
theorem stS_room (l : List Arc) (gs : List Int) (k : Nat) : (stS l gs k).1 = decide (0 < stR l gs (spK k)) := rfl
theorem stS_a {N : Nat} {l : List Arc} (hin : InN N l) (gs : List Int) {k : Nat} (hk : k / 2 < l.length) : (((stS l gs k).2.a : Nat) : Int) = stF l (spK k) ∧ (((stS l gs k).2.b : Nat) : Int) = stT l (spK k) := by
  have h := hin (l.getD (k / 2) z4) (by rw [getD_at l _ hk]; exact List.getElem_mem hk)
  have e1 : (stS l gs k).2.a = (stF l (spK k)).toNat := rfl
  have e2 : (stS l gs k).2.b = (stT l (spK k)).toNat := rfl
  have e3 : stF l (spK k) = if isBack k then (l.getD (k / 2) z4).t else (l.getD (k / 2) z4).f := rfl
  have e4 : stT l (spK k) = if isBack k then (l.getD (k / 2) z4).f else (l.getD (k / 2) z4).t := rfl
  rw [e1, e2, e3, e4]
  split <;> omega
theorem stS_low {N : Nat} {l : List Arc} (hin : InN N l) (gs : List Int) {k : Nat} (hk : k / 2 < l.length) : (stS l gs k).2.a < N ∧ (stS l gs k).2.b < N := by
  have h := hin (l.getD (k / 2) z4) (by rw [getD_at l _ hk]; exact List.getElem_mem hk)
  have e3 : stF l (spK k) = if isBack k then (l.getD (k / 2) z4).t else (l.getD (k / 2) z4).f := rfl
  have e4 : stT l (spK k) = if isBack k then (l.getD (k / 2) z4).f else (l.getD (k / 2) z4).t := rfl
  obtain ⟨h1, h2⟩ := stS_a hin gs hk
  rw [e3] at h1
  rw [e4] at h2
  constructor
  · split at h1 <;> omega
  · split at h2 <;> omega
/-- What some steps cost. -/
def costW (l : List Arc) : List Stp → Int
  | [] => 0
  | x :: ws => costS (l.getD x.1 z4) x.2 + costW l ws
theorem costW_snoc (l : List Arc) (x : Stp) : ∀ ws : List Stp, costW l (ws ++ [x]) = costW l ws + costS (l.getD x.1 z4) x.2
  | [] => by show costS _ _ + 0 = 0 + _; omega
  | y :: ws => by
    show costS _ _ + costW l (ws ++ [x]) = (costS _ _ + costW l ws) + _
    rw [costW_snoc l x ws]
    omega
/-- The way back so far, from the end to a node. -/
structure BkW (l : List Arc) (gs : List Int) (s t : Nat) (d : Nat → Int) (by_ : Nat → Nat) (j : Nat) (ws : List Stp) : Prop where
  ch : ChS l (j : Int) ws.reverse (t : Int)
  ent : ∀ x ∈ ws, ∃ i, i ≠ s ∧ d i < farZ ∧ x = spK (by_ i)
  sum : d j + costW l ws = d t
  far : d j < farZ
theorem BkW.start (l : List Arc) (gs : List Int) (s t : Nat) {d : Nat → Int} (by_ : Nat → Nat) (h : d t < farZ) : BkW l gs s t d by_ t [] := ⟨rfl, (fun x hx => by cases hx), by show d t + 0 = d t; omega, h⟩
theorem BkW.next {N : Nat} {l : List Arc} (hin : InN N l) {gs : List Int} {s t : Nat} {h d : Nat → Int} {by_ : Nat → Nat} (hf : FinF (stS l gs) (2 * l.length) s h d by_) {j : Nat} {ws : List Stp} (hb : BkW l gs s t d by_ j ws) (hj : j ≠ s) : BkW l gs s t d by_ (stS l gs (by_ j)).2.a (ws ++ [spK (by_ j)]) := by
  obtain ⟨e1, e2, e3, e4, e5⟩ := hf.ent j hj hb.far
  obtain ⟨a1, a2⟩ := stS_a hin gs (k := by_ j) (by omega)
  rw [e3] at a2
  refine ⟨?_, fun x hx => ?_, ?_, e4⟩
  · rw [List.reverse_append]
    exact ⟨a1.symm, by rw [← a2]; exact hb.ch⟩
  · rcases List.mem_append.1 hx with hx | hx
    · exact hb.ent x hx
    · rw [List.mem_singleton] at hx
      exact ⟨j, hj, hb.far, hx⟩
  · rw [costW_snoc]
    have := hb.sum
    have e6 : (stS l gs (by_ j)).2.c = costS (l.getD (spK (by_ j)).1 z4) (spK (by_ j)).2 := rfl
    rw [← e6]
    omega
/-- How many steps back. -/
noncomputable def rkB (st : Nat → Bool × StpZ) (by_ : Nat → Nat) (s : Nat) (i : Int) : Nat := open Classical in if h : ∃ n, RB st by_ s n i.toNat then h.choose else 0
theorem rkB_is {st : Nat → Bool × StpZ} {by_ : Nat → Nat} {s n j : Nat} (h : RB st by_ s n j) : rkB st by_ s (j : Int) = n := by
  unfold rkB
  have hex : ∃ n, RB st by_ s n (j : Int).toNat := ⟨n, by simpa using h⟩
  rw [dif_pos hex]
  have h2 := hex.choose_spec
  simp only [Int.toNat_natCast] at h2
  exact h2.same h
theorem BkW.steps {N : Nat} {l : List Arc} (hin : InN N l) {gs : List Int} {s t : Nat} {h d : Nat → Int} {by_ : Nat → Nat} (hf : FinF (stS l gs) (2 * l.length) s h d by_) {j : Nat} {ws : List Stp} (hb : BkW l gs s t d by_ j ws) : ∀ x ∈ ws, x.1 < l.length ∧ 0 < stR l gs x ∧ rkB (stS l gs) by_ s (stF l x) < rkB (stS l gs) by_ s (stT l x) := fun x hx => by
  obtain ⟨i, hi, hif, rfl⟩ := hb.ent x hx
  obtain ⟨e1, e2, e3, e4, e5⟩ := hf.ent i hi hif
  have hk : by_ i / 2 < l.length := by omega
  obtain ⟨a1, a2⟩ := stS_a hin gs hk
  rw [e3] at a2
  refine ⟨hk, by rw [stS_room] at e2; exact of_decide_eq_true e2, ?_⟩
  obtain ⟨n, hn⟩ := hf.back i hif
  cases hn with
  | here => exact absurd rfl hi
  | step _ hr =>
    rw [← a1, ← a2, rkB_is hr, rkB_is (.step hi hr)]
    exact Nat.lt_succ_self _
theorem BkW.nodup {N : Nat} {l : List Arc} (hin : InN N l) {gs : List Int} {s t : Nat} {h d : Nat → Int} {by_ : Nat → Nat} (hf : FinF (stS l gs) (2 * l.length) s h d by_) {j : Nat} {ws : List Stp} (hb : BkW l gs s t d by_ j ws) : (ws.map Prod.fst).Nodup := by
  have h1 := (arcs_nodup (rkB (stS l gs) by_ s) ws.reverse _ _ hb.ch fun x hx => (hb.steps hin hf x (List.mem_reverse.1 hx)).2.2).1
  rw [List.map_reverse] at h1
  exact nodup_rev.1 h1
/-- What is on each arc when steps have been pushed on, no arc twice. -/
theorem pushL_at (u : Int) : ∀ (ws : List Stp) (gs : List Int), (ws.map Prod.fst).Nodup → (∀ x ∈ ws, x.1 < gs.length) → ∀ i, (pushL u gs ws).getD i 0 = if (i, true) ∈ ws then gs.getD i 0 - u else if (i, false) ∈ ws then gs.getD i 0 + u else gs.getD i 0
  | [], gs, _, _, i => by simp [pushL]
  | x :: ws, gs, hn, hl, i => by
    have hn' := List.nodup_cons.1 hn
    show (pushL u (push1 u gs x) ws).getD i 0 = _
    rw [pushL_at u ws _ hn'.2 (fun y hy => by rw [push1_length]; exact hl y (List.mem_cons_of_mem _ hy)) i]
    obtain ⟨q, b⟩ := x
    have hq : q < gs.length := hl (q, b) List.mem_cons_self
    by_cases hi : i = q
    · subst hi
      have hno : ∀ b', (i, b') ∉ ws := fun b' hm => hn'.1 (List.mem_map.2 ⟨(i, b'), hm, rfl⟩)
      rw [if_neg (hno true), if_neg (hno false)]
      have e : (push1 u gs (i, b)).getD i 0 = if b then gs.getD i 0 - u else gs.getD i 0 + u := by
        unfold push1
        simp only [List.getD_eq_getElem?_getD, List.getElem?_set_self hq]
        rfl
      rw [e]
      cases b with
      | true => simp
      | false => simp [hno true]
    · have e : (push1 u gs (q, b)).getD i 0 = gs.getD i 0 := by
        unfold push1
        simp only [List.getD_eq_getElem?_getD, List.getElem?_set_ne (fun e : q = i => hi e.symm)]
      rw [e]
      have h1 : ((i, true) ∈ (q, b) :: ws) ↔ (i, true) ∈ ws := by simp [hi]
      have h2 : ((i, false) ∈ (q, b) :: ws) ↔ (i, false) ∈ ws := by simp [hi]
      simp only [h1, h2]
theorem pushL_rev {u : Int} {ws : List Stp} {gs : List Int} (hn : (ws.map Prod.fst).Nodup) (hl : ∀ x ∈ ws, x.1 < gs.length) : pushL u gs ws.reverse = pushL u gs ws := by
  have hlen : (pushL u gs ws.reverse).length = (pushL u gs ws).length := by rw [pushL_length, pushL_length]
  apply List.ext_getElem hlen
  intro i h1 h2
  rw [← getD_at _ i h1 0, ← getD_at _ i h2 0, pushL_at u ws gs hn hl i, pushL_at u ws.reverse gs (by rw [List.map_reverse]; exact nodup_rev.2 hn) (fun x hx => hl x (List.mem_reverse.1 hx)) i]
  simp only [List.mem_reverse]
/-- A whole way back, pushed on: so much more goes. -/
theorem BkW.flow {N : Nat} {l : List Arc} (hin : InN N l) {gs : List Int} {s t : Nat} {v u : Int} (hfl : FlowV N l gs s t v) (hst : s ≠ t) {h d : Nat → Int} {by_ : Nat → Nat} (hf : FinF (stS l gs) (2 * l.length) s h d by_) {ws : List Stp} (hb : BkW l gs s t d by_ s ws) (hu : 0 ≤ u) (hur : ∀ x ∈ ws, u ≤ stR l gs x) : FlowV N l (pushL u gs ws) s t (v + u) := by
  have hn := hb.nodup hin hf
  have hs := hb.steps hin hf
  rw [← pushL_rev hn fun x hx => by rw [hfl.cap.len]; exact (hs x hx).1]
  exact hfl.push hst hu hb.ch (rkB (stS l gs) by_ s) fun x hx => ⟨(hs x (List.mem_reverse.1 hx)).1, hur x (List.mem_reverse.1 hx), (hs x (List.mem_reverse.1 hx)).2.2⟩
/-- Heights for what is left behind it. -/
theorem BkW.heights {N : Nat} {l : List Arc} (hin : InN N l) (hok : NetOk N l) {gs : List Int} {s t : Nat} {v u : Int} (hfl : FlowV N l gs s t v) {h d : Nat → Int} {by_ : Nat → Nat} (hp : Pt (stS l gs) (2 * l.length) h) (hs0 : s < N) (hf : FinF (stS l gs) (2 * l.length) s h d by_) {j : Nat} {ws : List Stp} (hb : BkW l gs s t d by_ j ws) (hu : 0 ≤ u) : ∃ h', Pt (stS l (pushL u gs ws)) (2 * l.length) h' := by
  have hn := hb.nodup hin hf
  have hs := hb.steps hin hf
  have hat := pushL_at u ws gs hn fun x hx => by rw [hfl.cap.len]; exact (hs x hx).1
  obtain ⟨M, hM⟩ : ∃ M : Int, ∀ k, k < 2 * l.length → d (stS l gs k).2.b - h (stS l gs k).2.a - (stS l gs k).2.c ≤ M := by
    have : ∀ K : Nat, ∃ M : Int, ∀ k, k < K → d (stS l gs k).2.b - h (stS l gs k).2.a - (stS l gs k).2.c ≤ M := fun K => by
      induction K with
      | zero => exact ⟨0, fun k hk => by omega⟩
      | succ K ih =>
        obtain ⟨M, hM⟩ := ih
        refine ⟨max M (d (stS l gs K).2.b - h (stS l gs K).2.a - (stS l gs K).2.c), fun k hk => ?_⟩
        by_cases e : k = K
        · rw [e]; exact Int.le_max_right _ _
        · exact Int.le_trans (hM k (by omega)) (Int.le_max_left _ _)
    exact this _
  refine ⟨fun i => if d i < farZ then d i else h i + M, fun k hk hr => ?_⟩
  have hk2 : k / 2 < l.length := by omega
  show (if d (stS l gs k).2.b < farZ then d (stS l gs k).2.b else h (stS l gs k).2.b + M) ≤ (if d (stS l gs k).2.a < farZ then d (stS l gs k).2.a else h (stS l gs k).2.a + M) + (stS l gs k).2.c
  have hroom : (stS l gs k).1 = true ∨ (k / 2, !isBack k) ∈ ws := by
    have hr' : 0 < roomS (l.getD (k / 2) z4) ((pushL u gs ws).getD (k / 2) 0) (isBack k) := of_decide_eq_true hr
    have goal : ∀ b, isBack k = b → (0 < roomS (l.getD (k / 2) z4) (gs.getD (k / 2) 0) b ∨ (k / 2, !b) ∈ ws) := fun b hb' => by
      rw [hb', hat] at hr'
      unfold roomS at hr' ⊢
      cases b with
      | true =>
        simp only [if_true] at hr' ⊢
        split at hr'
        · left; omega
        · split at hr'
          · rename_i h1
            exact .inr h1
          · exact .inl hr'
      | false =>
        simp only [Bool.false_eq_true, if_false] at hr' ⊢
        split at hr'
        · rename_i h1
          exact .inr h1
        · split at hr'
          · left; omega
          · exact .inl hr'
    rcases goal _ rfl with h1 | h1
    · exact .inl (decide_eq_true h1)
    · exact .inr h1
  rcases hroom with hro | hm
  · have h1 := hp k hk hro
    by_cases hda : d (stS l gs k).2.a < farZ
    · have h2 := hf.sat k hk hro hda
      rw [if_pos hda]
      split
      · exact h2
      · rename_i hdb
        have h3 := (hf.small (fun k hk => stS_low hin gs (by omega)) hs0 (fun k _ => stS_cost hok k) hda).2
        have h4 := (stS_cost (gs := gs) hok k).2
        have h5 := hok.small
        unfold farZ at hdb
        omega
    · rw [if_neg hda]
      split
      · have := hM k hk
        omega
      · omega
  · obtain ⟨i, hi, hif, hx⟩ := hb.ent _ hm
    obtain ⟨e1, e2, e3, e4, e5⟩ := hf.ent i hi hif
    unfold spK at hx
    injection hx with hx1 hx2
    have ea : (stS l gs k).2.a = (stS l gs (by_ i)).2.b := by
      show (fromS (l.getD (k / 2) arc0) (isBack k)).toNat = (toS (l.getD (by_ i / 2) arc0) (isBack (by_ i))).toNat
      rw [← hx1, ← hx2]
      unfold fromS toS
      cases isBack k <;> rfl
    have eb : (stS l gs k).2.b = (stS l gs (by_ i)).2.a := by
      show (toS (l.getD (k / 2) arc0) (isBack k)).toNat = (fromS (l.getD (by_ i / 2) arc0) (isBack (by_ i))).toNat
      rw [← hx1, ← hx2]
      unfold fromS toS
      cases isBack k <;> rfl
    have ec : (stS l gs k).2.c = -(stS l gs (by_ i)).2.c := by
      show costS (l.getD (k / 2) arc0) (isBack k) = -costS (l.getD (by_ i / 2) arc0) (isBack (by_ i))
      rw [← hx1, ← hx2]
      unfold costS
      cases isBack k <;> simp
    rw [ea, eb, ec, e3, if_pos e4, if_pos hif]
    omega
/-- When the end is out of reach, what can be come to lets go just what goes. -/
theorem FinF.noway {N : Nat} {l : List Arc} (hin : InN N l) (hok : NetOk N l) {gs : List Int} {s t : Nat} {v : Int} (hfl : FlowV N l gs s t v) {h d : Nat → Int} {by_ : Nat → Nat} (hs : s < N) (hf : FinF (stS l gs) (2 * l.length) s h d by_) (ht : ¬ d t < farZ) : ∃ p : Int → Bool, p s = true ∧ p t = false ∧ capP p l = v := by
  have ps : decide (d ((s : Int)).toNat < farZ) = true := decide_eq_true (by rw [Int.toNat_natCast, hf.ds]; unfold farZ; omega)
  have pt : decide (d ((t : Int)).toNat < farZ) = false := decide_eq_false (by rw [Int.toNat_natCast]; exact ht)
  refine ⟨fun i => decide (d i.toNat < farZ), ps, pt, ?_⟩
  rw [← hfl.cross hin hs (p := fun i => decide (d i.toNat < farZ)) ps pt]
  refine (closed_full _ hfl.cap fun x hx hr hp => ?_).symm
  obtain ⟨q, b⟩ := x
  obtain ⟨k, hk, hkx⟩ : ∃ k, k < 2 * l.length ∧ spK k = (q, b) := by
    have hq : q < l.length := hx
    cases b with
    | true => exact ⟨2 * q + 1, by omega, by unfold spK isBack; rw [show (2 * q + 1) / 2 = q by omega, decide_eq_true (by omega)]⟩
    | false => exact ⟨2 * q, by omega, by unfold spK isBack; rw [show (2 * q) / 2 = q by omega, decide_eq_false (by omega)]⟩
  rw [← hkx] at hr hp ⊢
  obtain ⟨a1, a2⟩ := stS_a hin gs (k := k) (by omega)
  rw [← a1] at hp
  rw [← a2]
  have hda : d (stS l gs k).2.a < farZ := by simpa using of_decide_eq_true hp
  have h2 := hf.sat k hk (by rw [stS_room]; exact decide_eq_true hr) hda
  have h3 := (hf.small (fun k hk => stS_low hin gs (by omega)) hs (fun k _ => stS_cost hok k) hda).2
  have h4 := (stS_cost (gs := gs) hok k).2
  have h5 := hok.small
  refine decide_eq_true ?_
  rw [Int.toNat_natCast]
  unfold farZ
  omega
/-- What goes costs. -/
def costF : List Arc → List Int → Int
  | a :: l, g :: gs => g * a.e + costF l gs
  | _, _ => 0
theorem costF_set : ∀ (l : List Arc) (gs : List Int) (i : Nat) (x : Int), gs.length = l.length → i < l.length → costF l (gs.set i x) = costF l gs + (x - gs.getD i 0) * (l.getD i z4).e
  | a :: l, g :: gs, 0, x, _, _ => by
    simp only [List.set_cons_zero, costF, List.getD_cons_zero]
    rw [Int.sub_mul]
    omega
  | a :: l, g :: gs, i + 1, x, hl, hi => by
    have := costF_set l gs i x (by simpa using hl) (by simpa using hi)
    simp only [List.set_cons_succ, costF, List.getD_cons_succ]
    rw [this]
    omega
  | [], _, i, x, _, hi => by simp at hi
  | a :: l, [], i, x, hl, _ => by simp at hl
theorem costF_push (l : List Arc) (u : Int) : ∀ (ws : List Stp) (gs : List Int), gs.length = l.length → (∀ x ∈ ws, x.1 < l.length) → costF l (pushL u gs ws) = costF l gs + u * costW l ws
  | [], gs, _, _ => by show costF l gs = costF l gs + u * 0; omega
  | x :: ws, gs, hl, hx => by
    show costF l (pushL u (push1 u gs x) ws) = _
    rw [costF_push l u ws _ (by rw [push1_length]; exact hl) fun y hy => hx y (List.mem_cons_of_mem _ hy)]
    unfold push1
    rw [costF_set l gs x.1 _ hl (hx x List.mem_cons_self)]
    show _ = costF l gs + u * (costS (l.getD x.1 z4) x.2 + costW l ws)
    rw [Int.mul_add]
    unfold costS
    cases x.2 with
    | true =>
      simp only [if_true]
      rw [show gs.getD x.1 0 - u - gs.getD x.1 0 = -u by omega, Int.neg_mul, Int.mul_neg]
      omega
    | false =>
      simp only [Bool.false_eq_true, if_false]
      rw [show gs.getD x.1 0 + u - gs.getD x.1 0 = u by omega]
      omega
theorem costF_zero : ∀ (l : List Arc) (n : Nat), costF l (List.replicate n 0) = 0
  | [], n => by cases n <;> rfl
  | a :: l, 0 => rfl
  | a :: l, n + 1 => by
    rw [List.replicate_succ]
    unfold costF
    rw [costF_zero l n]
    simp
/-- Nothing goes yet: no step back has room, no fee is below none. -/
theorem Pt.zero {l : List Arc} {m : Nat} (he : ∀ a ∈ l, 0 ≤ a.e) : Pt (stS l (List.replicate m 0)) (2 * l.length) (fun _ => 0) := fun k hk hr => by
  have hr' : 0 < roomS (l.getD (k / 2) arc0) ((List.replicate m (0 : Int)).getD (k / 2) 0) (isBack k) := of_decide_eq_true hr
  have h0 : (List.replicate m (0 : Int)).getD (k / 2) 0 = 0 := by
    rw [List.getD_eq_getElem?_getD, List.getElem?_replicate]
    split <;> rfl
  rw [h0] at hr'
  show (0 : Int) ≤ 0 + costS (l.getD (k / 2) arc0) (isBack k)
  have hq : k / 2 < l.length := by omega
  have h1 := he _ (List.getElem_mem hq)
  rw [getD_at l _ hq] at hr' ⊢
  unfold roomS at hr'
  unfold costS
  split
  · rename_i hb
    rw [if_pos hb] at hr'
    omega
  · omega
theorem Pt.pot {l : List Arc} {gs : List Int} {h : Nat → Int} (hp : Pt (stS l gs) (2 * l.length) h) : Pot (stepsS l gs (2 * l.length)) h := fun s hs hr => by
  obtain ⟨k, hk, rfl⟩ := List.mem_map.1 hs
  exact hp k (List.mem_range.1 hk) hr
end Go.Proofs.Ytjkfogkpacmdlaa
