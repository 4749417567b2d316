/- Rounds of a one-to-one map: two swapped change their number by one; in plain Lean. Conditions: the map stays within the list, no one stands twice. -/
import Derived.Test.YtlflnfelhndohaaDoorMapsHoles27
namespace Go.Proofs.YtlflnfelhndohaaDoor

section
variable {α : Type} [DecidableEq α]
def sw (a b x : α) : α := if x = a then b else if x = b then a else x
theorem sw_comm (a b x : α) : sw a b x = sw b a x := by
  unfold sw
  by_cases h1 : x = a <;> by_cases h2 : x = b
  · rw [if_pos h1, if_pos h2, ← h1, ← h2]
  · rw [if_pos h1, if_neg h2, if_pos h1]
  · rw [if_neg h1, if_pos h2, if_pos h2]
  · rw [if_neg h1, if_neg h2, if_neg h2, if_neg h1]
theorem sw_l (a b : α) : sw a b a = b := if_pos rfl
theorem sw_r (a b : α) : sw a b b = a := by rw [sw_comm]; exact sw_l _ _
theorem sw_n {a b x : α} (h : x ≠ a) (h2 : x ≠ b) : sw a b x = x := by unfold sw; rw [if_neg h, if_neg h2]
theorem sw_sw (a b x : α) : sw a b (sw a b x) = x := by
  by_cases h1 : x = a
  · subst h1; rw [sw_l, sw_r]
  · by_cases h2 : x = b
    · subst h2; rw [sw_r, sw_l]
    · rw [sw_n h1 h2, sw_n h1 h2]
/-- x is passed by. -/
def byp (f : α → α) (x y : α) : α := if f y = x then f x else f y
/-- How many rounds. -/
def cyc : (α → α) → List α → Nat
  | _, [] => 0
  | f, x :: l => (if f x = x then 1 else 0) + cyc (byp f x) l
structure OneOne (f : α → α) (l : List α) : Prop where
  inj : ∀ x ∈ l, ∀ y ∈ l, f x = f y → x = y
  cl : ∀ x ∈ l, f x ∈ l
theorem cyc_congr : ∀ {l : List α} {f g : α → α}, (∀ x ∈ l, f x = g x) → cyc f l = cyc g l
  | [], _, _, _ => rfl
  | x :: l, f, g, h => by
    rw [cyc, cyc, h x (List.mem_cons_self ..)]
    congr 1
    refine cyc_congr fun y hy => ?_
    unfold byp
    rw [h x (List.mem_cons_self ..), h y (List.mem_cons_of_mem _ hy)]
theorem OneOne.byp {f : α → α} {x : α} {l : List α} (h : OneOne f (x :: l)) (hx : x ∉ l) : OneOne (byp f x) l := by
  have hm : ∀ {y}, y ∈ l → y ∈ x :: l := fun hy => List.mem_cons_of_mem _ hy
  have hs : x ∈ x :: l := List.mem_cons_self ..
  refine ⟨fun y hy z hz he => ?_, fun y hy => ?_⟩
  · unfold Proofs.YtlflnfelhndohaaDoor.byp at he
    split at he <;> split at he
    · rename_i h1 h2; exact h.inj y (hm hy) z (hm hz) (h1.trans h2.symm)
    · exact absurd (h.inj _ hs z (hm hz) he) (fun e => hx (e ▸ hz))
    · exact absurd (h.inj _ (hm hy) x hs he) (fun e => hx (e ▸ hy))
    · exact h.inj _ (hm hy) _ (hm hz) he
  · unfold Proofs.YtlflnfelhndohaaDoor.byp
    split
    · rename_i h1
      rcases List.mem_cons.1 (h.cl x hs) with h2 | h2
      · exact absurd (h.inj y (hm hy) x hs (h1.trans h2.symm)) (fun e => hx (e ▸ hy))
      · exact h2
    · rename_i h1
      rcases List.mem_cons.1 (h.cl y (hm hy)) with h2 | h2
      · exact absurd h2 h1
      · exact h2
theorem OneOne.sw {f : α → α} {l : List α} (h : OneOne f l) {a b : α} (ha : a ∈ l) (hb : b ∈ l) : OneOne (fun x => sw a b (f x)) l := by
  refine ⟨fun x hx y hy he => h.inj x hx y hy ?_, fun x hx => ?_⟩
  · have := congrArg (Proofs.YtlflnfelhndohaaDoor.sw a b) he
    simpa [sw_sw] using this
  · show Proofs.YtlflnfelhndohaaDoor.sw a b (f x) ∈ l
    have := h.cl x hx
    unfold Proofs.YtlflnfelhndohaaDoor.sw
    split
    · exact hb
    · split
      · exact ha
      · exact this
theorem byp_e (f : α → α) (x y : α) : byp f x y = if f y = x then f x else f y := rfl
theorem byp_sw (f : α → α) (a b x y : α) : byp (fun y => sw a b (f y)) x y = if sw a b (f y) = x then sw a b (f x) else sw a b (f y) := rfl
/-- Two swapped. -/
theorem cyc_sw : ∀ {l : List α} {f : α → α} {a b : α}, l.Nodup → OneOne f l → a ∈ l → b ∈ l → a ≠ b → (cyc (fun x => sw a b (f x)) l + cyc f l) % 2 = 1
  | [], _, _, _, _, _, ha, _, _ => by cases ha
  | x :: l, f, a, b, hn, h, ha, hb, hab => by
    have hx := (List.nodup_cons.1 hn).1
    have hn' := (List.nodup_cons.1 hn).2
    have hm : ∀ {y}, y ∈ l → y ∈ x :: l := fun hy => List.mem_cons_of_mem _ hy
    have hs : x ∈ x :: l := List.mem_cons_self ..
    have key : ∀ b, b ∈ l → x ≠ b → (cyc (fun y => sw x b (f y)) (x :: l) + cyc f (x :: l)) % 2 = 1 := fun b hb hxb => by
      rw [cyc, cyc]
      by_cases h1 : f x = x
      · have e1 : sw x b (f x) = b := by rw [h1, sw_l]
        rw [if_pos h1, if_neg (by rw [e1]; exact fun e => hxb e.symm)]
        rw [cyc_congr (f := byp (fun y => sw x b (f y)) x) (g := byp f x) (fun y hy => by
          have h2 : f y ≠ x := fun e => hx ((h.inj y (hm hy) x hs (e.trans h1.symm)) ▸ hy)
          rw [byp_sw, byp_e]
          rw [if_neg h2]
          by_cases h3 : f y = b
          · rw [if_pos (by rw [h3, sw_r]), e1, h3]
          · rw [if_neg (by rw [sw_n h2 h3]; exact h2), sw_n h2 h3])]
        omega
      · by_cases h2 : f x = b
        · have e1 : sw x b (f x) = x := by rw [h2, sw_r]
          rw [if_neg h1, if_pos e1]
          rw [cyc_congr (f := byp (fun y => sw x b (f y)) x) (g := byp f x) (fun y hy => by
            have h3 : f y ≠ b := fun e => hx ((h.inj y (hm hy) x hs (e.trans h2.symm)) ▸ hy)
            rw [byp_sw, byp_e]
            by_cases h4 : f y = x
            · rw [if_pos h4, h4, sw_l, if_neg (fun e => hxb e.symm), h2]
            · rw [if_neg h4, sw_n h4 h3, if_neg h4])]
          omega
        · have e1 : sw x b (f x) = f x := sw_n h1 h2
          have hc : f x ∈ l := by
            rcases List.mem_cons.1 (h.cl x hs) with e | e
            · exact absurd e h1
            · exact e
          rw [if_neg h1, if_neg (by rw [e1]; exact h1)]
          have ih := cyc_sw hn' (h.byp hx) hb hc (fun e => h2 e.symm)
          rw [cyc_congr (f := byp (fun y => sw x b (f y)) x) (g := fun y => sw b (f x) (byp f x y)) (fun y hy => by
            show byp _ x y = sw b (f x) (byp f x y)
            have h3 : f y ≠ f x := fun e => hx ((h.inj y (hm hy) x hs e) ▸ hy)
            rw [byp_sw, byp_e]
            by_cases h4 : f y = x
            · rw [if_pos h4, h4, sw_l, if_neg (fun e => hxb e.symm), sw_r]
            · rw [if_neg h4]
              by_cases h5 : f y = b
              · rw [h5, sw_r, if_pos rfl, e1, sw_l]
              · rw [sw_n h4 h5, if_neg h4, sw_n h5 h3])]
          omega
    by_cases h1 : x = a
    · subst h1
      rcases List.mem_cons.1 hb with e | e
      · exact absurd e.symm hab
      · exact key b e hab
    · by_cases h2 : x = b
      · subst h2
        rcases List.mem_cons.1 ha with e | e
        · exact absurd e hab
        · rw [show (fun y => sw a x (f y)) = (fun y => sw x a (f y)) from funext fun y => sw_comm _ _ _]
          exact key a e h1
      · have ha' : a ∈ l := (List.mem_cons.1 ha).resolve_left (fun e => h1 e.symm)
        have hb' : b ∈ l := (List.mem_cons.1 hb).resolve_left (fun e => h2 e.symm)
        have hsx : ∀ z, sw a b z = x ↔ z = x := fun z => by
          by_cases e1 : z = a
          · subst e1; rw [sw_l]; exact ⟨fun e => absurd e.symm h2, fun e => absurd e.symm h1⟩
          · by_cases e2 : z = b
            · subst e2; rw [sw_r]; exact ⟨fun e => absurd e.symm h1, fun e => absurd e.symm h2⟩
            · rw [sw_n e1 e2]
        have ih := cyc_sw hn' (h.byp hx) ha' hb' hab
        rw [cyc, cyc]
        rw [cyc_congr (f := byp (fun y => sw a b (f y)) x) (g := fun y => sw a b (byp f x y)) (fun y hy => by
          show byp _ x y = sw a b (byp f x y)
          rw [byp_sw, byp_e]
          by_cases h4 : f y = x
          · rw [if_pos h4, if_pos ((hsx _).2 h4)]
          · rw [if_neg h4, if_neg (fun e => h4 ((hsx _).1 e))])]
        by_cases h5 : f x = x
        · rw [if_pos h5, if_pos ((hsx _).2 h5)]; omega
        · rw [if_neg h5, if_neg (fun e => h5 ((hsx _).1 e))]; omega
/-- Swaps, the last one first. -/
def act : List (α × α) → α → α
  | [], x => x
  | p :: t, x => sw p.1 p.2 (act t x)
theorem act_append : ∀ (t u : List (α × α)) (x : α), act (t ++ u) x = act t (act u x)
  | [], _, _ => rfl
  | p :: t, u, x => by rw [List.cons_append, act, act, act_append t u x]
theorem cyc_id : ∀ (l : List α), cyc (fun x => x) l = l.length
  | [] => rfl
  | x :: l => by
    rw [cyc, if_pos rfl, cyc_congr (g := fun x => x) (fun y _ => by unfold byp; split <;> simp_all), cyc_id l, List.length_cons]
    omega
theorem act_ok {l : List α} (hn : l.Nodup) : ∀ (t : List (α × α)), (∀ p ∈ t, p.1 ∈ l ∧ p.2 ∈ l ∧ p.1 ≠ p.2) → OneOne (act t) l ∧ (cyc (act t) l + l.length + t.length) % 2 = 0
  | [], _ => ⟨⟨fun x _ y _ h => h, fun x h => h⟩, by
      rw [show act ([] : List (α × α)) = fun x => x from funext fun _ => rfl, cyc_id]
      show (l.length + l.length + 0) % 2 = 0
      omega⟩
  | p :: t, h => by
    obtain ⟨h1, h2⟩ := act_ok hn t fun q hq => h q (List.mem_cons_of_mem _ hq)
    obtain ⟨h3, h4, h5⟩ := h p (List.mem_cons_self ..)
    have h6 := cyc_sw hn h1 h3 h4 h5
    refine ⟨h1.sw h3 h4, ?_⟩
    rw [show act (p :: t) = fun x => sw p.1 p.2 (act t x) from funext fun _ => rfl, List.length_cons]
    omega
/-- One comes to the other. -/
inductive Rcf (f : α → α) : α → α → Prop
  | refl (x) : Rcf f x x
  | step {x y} : Rcf f (f x) y → Rcf f x y
omit [DecidableEq α] in
theorem Rcf.trans {f : α → α} {x y z : α} (h : Rcf f x y) (k : Rcf f y z) : Rcf f x z := by
  induction h with
  | refl => exact k
  | step _ ih => exact .step (ih k)
/-- In front of none: how many. -/
noncomputable def firsts (f : α → α) : List α → Nat
  | [] => 0
  | x :: l => (open Classical in if ∃ z ∈ l, Rcf f z x then 0 else 1) + firsts f l
omit [DecidableEq α] in
theorem firsts_congr {f g : α → α} : ∀ {l : List α}, (∀ z ∈ l, ∀ y ∈ l, Rcf f z y ↔ Rcf g z y) → firsts f l = firsts g l
  | [], _ => rfl
  | x :: l, h => by
    rw [firsts, firsts, firsts_congr (l := l) fun z hz y hy => h z (List.mem_cons_of_mem _ hz) y (List.mem_cons_of_mem _ hy)]
    congr 1
    have : (∃ z ∈ l, Rcf f z x) ↔ (∃ z ∈ l, Rcf g z x) :=
      ⟨fun ⟨z, hz, hr⟩ => ⟨z, hz, (h z (List.mem_cons_of_mem _ hz) x (List.mem_cons_self ..)).1 hr⟩, fun ⟨z, hz, hr⟩ => ⟨z, hz, (h z (List.mem_cons_of_mem _ hz) x (List.mem_cons_self ..)).2 hr⟩⟩
    by_cases hh : ∃ z ∈ l, Rcf f z x
    · rw [if_pos hh, if_pos (this.1 hh)]
    · rw [if_neg hh, if_neg (fun k => hh (this.2 k))]
theorem rch_byp {f : α → α} {x : α} {l : List α} (h : OneOne f (x :: l)) (hx : x ∉ l) {z y : α} (hz : z ∈ l) (hy : y ∈ l) : Rcf (byp f x) z y ↔ Rcf f z y := by
  constructor
  · intro hr
    clear hz
    induction hr with
    | refl => exact .refl _
    | @step z y hr ih =>
      have ih := ih hy
      unfold byp at ih
      split at ih
      · rename_i h1; exact .step (by rw [h1]; exact .step ih)
      · exact .step ih
  · intro hr
    have main : ∀ z y, Rcf f z y → y ∈ l → (z ∈ l → Rcf (byp f x) z y) ∧ (z = x → f x ≠ x → Rcf (byp f x) (f x) y) := by
      intro z y hr
      induction hr with
      | refl z => intro hy; exact ⟨fun _ => .refl _, fun e => absurd (e ▸ hy) hx⟩
      | @step z y hr ih =>
        intro hy
        obtain ⟨h1, h2⟩ := ih hy
        refine ⟨fun hz => ?_, fun e hne => ?_⟩
        · by_cases h3 : f z = x
          · refine .step ?_
            have h4 : f x ≠ x := fun e => hx ((h.inj z (List.mem_cons_of_mem _ hz) x (List.mem_cons_self ..) (h3.trans e.symm)) ▸ hz)
            have := h2 h3 h4
            unfold byp
            rw [if_pos h3]
            exact this
          · refine .step ?_
            have h4 : f z ∈ l := (List.mem_cons.1 (h.cl z (List.mem_cons_of_mem _ hz))).resolve_left h3
            have := h1 h4
            rwa [show byp f x z = f z from if_neg h3]
        · subst e
          exact h1 ((List.mem_cons.1 (h.cl z (List.mem_cons_self ..))).resolve_left hne)
    exact (main z y hr hy).1 hz
/-- Steps. -/
def itr (f : α → α) : Nat → α → α
  | 0, x => x
  | k + 1, x => f (itr f k x)
omit [DecidableEq α] in
theorem itr_rch (f : α → α) : ∀ k x, Rcf f x (itr f k x)
  | 0, x => .refl x
  | k + 1, x => (itr_rch f k x).trans (.step (.refl _))
omit [DecidableEq α] in
theorem itr_in {f : α → α} {l : List α} (h : OneOne f l) {x : α} (hx : x ∈ l) : ∀ k, itr f k x ∈ l
  | 0 => hx
  | k + 1 => h.cl _ (itr_in h hx k)
omit [DecidableEq α] in
theorem itr_cancel {f : α → α} {l : List α} (h : OneOne f l) {x : α} (hx : x ∈ l) : ∀ i m, itr f i x = itr f (i + m) x → x = itr f m x
  | 0, m, he => by rwa [Nat.zero_add] at he
  | i + 1, m, he => by
    rw [Nat.add_right_comm] at he
    exact itr_cancel h hx i m (h.inj _ (itr_in h hx i) _ (itr_in h hx (i + m)) he)
omit [DecidableEq α] in
theorem itr_succ (f : α → α) : ∀ k x, itr f (k + 1) x = itr f k (f x)
  | 0, _ => rfl
  | k + 1, x => by rw [itr, itr_succ f k x]; rfl
omit [DecidableEq α] in
/-- Who goes on comes back. -/
theorem comes_back {f : α → α} {l : List α} (h : OneOne f l) {x : α} (hx : x ∈ l) : Rcf f (f x) x := by
  have h1 : ¬ ((List.range (l.length + 1)).map fun k => itr f k x).Nodup := fun hn => by
    have := hn.length_le_of_subset (l₂ := l) (fun y hy => by
      obtain ⟨k, _, rfl⟩ := List.mem_map.1 hy
      exact itr_in h hx k)
    rw [List.length_map, List.length_range] at this
    omega
  have h2 : ∃ i m, itr f i x = itr f (i + (m + 1)) x := Classical.byContradiction fun hno => h1 (by
    rw [List.nodup_iff_pairwise_ne, List.pairwise_map]
    refine List.Pairwise.imp (R := fun a b => a < b) ?_ List.pairwise_lt_range
    intro a b hab he
    refine hno ⟨a, b - a - 1, ?_⟩
    rw [show a + (b - a - 1 + 1) = b by omega]
    exact he)
  obtain ⟨i, m, he⟩ := h2
  have h3 := itr_cancel h hx i (m + 1) he
  rw [itr_succ] at h3
  have := itr_rch f m (f x)
  rwa [← h3] at this
theorem cyc_firsts : ∀ {l : List α} {f : α → α}, l.Nodup → OneOne f l → cyc f l = firsts f l
  | [], _, _, _ => rfl
  | x :: l, f, hn, h => by
    have hx := (List.nodup_cons.1 hn).1
    have hn' := (List.nodup_cons.1 hn).2
    have hs : x ∈ x :: l := List.mem_cons_self ..
    rw [cyc, firsts, cyc_firsts hn' (h.byp hx), firsts_congr (fun z hz y hy => rch_byp h hx hz hy)]
    congr 1
    by_cases h1 : f x = x
    · have hno : ¬ ∃ z ∈ l, Rcf f z x := fun ⟨z, hz, hr⟩ => by
        have main : ∀ z y, Rcf f z y → y = x → z ∈ l → False := by
          intro z y hr
          induction hr with
          | refl z => exact fun e hz => hx (e ▸ hz)
          | @step z y hr ih =>
            intro e hz
            rcases List.mem_cons.1 (h.cl z (List.mem_cons_of_mem _ hz)) with e2 | e2
            · exact hx ((h.inj z (List.mem_cons_of_mem _ hz) x hs (e2.trans h1.symm)) ▸ hz)
            · exact ih e e2
        exact main z x hr rfl hz
      rw [if_pos h1, if_neg hno]
    · have hc : f x ∈ l := (List.mem_cons.1 (h.cl x hs)).resolve_left h1
      rw [if_neg h1, if_pos ⟨f x, hc, comes_back h hs⟩]
omit [DecidableEq α] in
theorem OneOne.congr {f g : α → α} {l : List α} (h : OneOne f l) (he : ∀ x ∈ l, f x = g x) : OneOne g l :=
  ⟨fun x hx y hy e => h.inj x hx y hy (by rw [he x hx, he y hy, e]), fun x hx => by rw [← he x hx]; exact h.cl x hx⟩
end
end Go.Proofs.YtlflnfelhndohaaDoor
