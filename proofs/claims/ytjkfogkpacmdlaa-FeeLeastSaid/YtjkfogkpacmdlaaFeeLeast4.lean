/- How cheap each node can be come to from one, turn by turn, and by which step: in plain Lean. Conditions: none. -/
import Derived.Test.YtjkfogkpacmdlaaFeeLeast3
namespace Go.Proofs.Ytjkfogkpacmdlaa
open Go.RowKit

/-- How far, by which step, and did something get better. -/
structure FS where
  d : Nat → Int
  by_ : Nat → Nat
  got : Bool
def updK (x : Nat → Nat) (i : Nat) (v : Nat) : Nat → Nat := fun j => if j = i then v else x j
def stepF (k : Nat) (r : Bool) (s : StpZ) (x : FS) : FS := if r && decide (x.d s.a < farZ) && decide (x.d s.a + s.c < x.d s.b) then ⟨updZ x.d s.b (x.d s.a + s.c), updK x.by_ s.b k, true⟩ else x
/-- Part of a turn. -/
def partF (st : Nat → Bool × StpZ) (x : FS) : Nat → FS
  | 0 => ⟨x.d, x.by_, false⟩
  | k + 1 => stepF k (st k).1 (st k).2 (partF st x k)
/-- Heights: no step with room goes down by more than it costs. -/
def Pt (st : Nat → Bool × StpZ) (K : Nat) (h : Nat → Int) : Prop := ∀ k, k < K → (st k).1 = true → h (st k).2.b ≤ h (st k).2.a + (st k).2.c
/-- The way back by what has been noted: so many steps. -/
inductive RB (st : Nat → Bool × StpZ) (by_ : Nat → Nat) (s : Nat) : Nat → Nat → Prop
  | here : RB st by_ s 0 s
  | step {n j : Nat} : j ≠ s → RB st by_ s n (st (by_ j)).2.a → RB st by_ s (n + 1) j
theorem RB.same {st : Nat → Bool × StpZ} {by_ : Nat → Nat} {s : Nat} : ∀ {n m j : Nat}, RB st by_ s n j → RB st by_ s m j → n = m
  | _, _, _, .here, .here => rfl
  | _, _, _, .here, .step h _ => absurd rfl h
  | _, _, _, .step h _, .here => absurd rfl h
  | _, _, _, .step _ h, .step _ h' => by rw [h.same h']
/-- What holds amid turn r, behind so many of its steps. -/
structure InvF (st : Nat → Bool × StpZ) (K s : Nat) (h : Nat → Int) (r cur : Nat) (x : FS) (u : Nat → Nat) : Prop where
  ds : x.d s = 0
  us : u s = 0
  top : ∀ j, u j ≤ r + 1
  le : ∀ j, x.d j ≤ farZ
  pot : ∀ j, x.d j < farZ → h j - h s ≤ x.d j
  ent : ∀ j, j ≠ s → x.d j < farZ → x.by_ j < K ∧ (st (x.by_ j)).1 = true ∧ (st (x.by_ j)).2.b = j ∧ x.d (st (x.by_ j)).2.a < farZ ∧ x.d (st (x.by_ j)).2.a + (st (x.by_ j)).2.c ≤ x.d j ∧ u j ≤ u (st (x.by_ j)).2.a + 1
  back : ∀ j, x.d j < farZ → ∃ n, RB st x.by_ s n j
  sat : ∀ k, k < K → (st k).1 = true → x.d (st k).2.a < farZ → x.d (st k).2.b ≤ x.d (st k).2.a + (st k).2.c ∨ (if k < cur then r + 1 ≤ u (st k).2.a else r ≤ u (st k).2.a)
  new : x.got = true → ∃ j, x.d j < farZ ∧ u j = r + 1
theorem InvF.step {st : Nat → Bool × StpZ} {K s : Nat} {h : Nat → Int} {r cur : Nat} {x : FS} {u : Nat → Nat} (hp : Pt st K h) (hi : InvF st K s h r cur x u) (hc : cur < K) : ∃ u', InvF st K s h r (cur + 1) (stepF cur (st cur).1 (st cur).2 x) u' := by
  obtain ⟨a, ha⟩ : ∃ a, a = (st cur).2.a := ⟨_, rfl⟩
  obtain ⟨b, hb⟩ : ∃ b, b = (st cur).2.b := ⟨_, rfl⟩
  obtain ⟨c, hcc⟩ : ∃ c, c = (st cur).2.c := ⟨_, rfl⟩
  unfold stepF
  by_cases hcond : ((st cur).1 && decide (x.d (st cur).2.a < farZ) && decide (x.d (st cur).2.a + (st cur).2.c < x.d (st cur).2.b)) = true
  · rw [if_pos hcond]
    simp only [Bool.and_eq_true, decide_eq_true_eq] at hcond
    obtain ⟨⟨hr, hfar⟩, hlt⟩ := hcond
    have hpk := hp cur hc hr
    rw [← ha, ← hb, ← hcc] at hlt hpk
    rw [← ha] at hfar
    rw [← ha, ← hb, ← hcc]
    have hpa := hi.pot a hfar
    have hbs : b ≠ s := fun e => by
      rw [e, hi.ds] at hlt
      rw [e] at hpk
      omega
    have hab : a ≠ b := fun e => by
      rw [← e] at hlt hpk
      omega
    have hleb := hi.le b
    have hdb : updZ x.d b (x.d a + c) b = x.d a + c := by unfold updZ; rw [if_pos rfl]
    have hdo : ∀ j, j ≠ b → updZ x.d b (x.d a + c) j = x.d j := fun j hj => by unfold updZ; rw [if_neg hj]
    have hdl : ∀ j, updZ x.d b (x.d a + c) j ≤ x.d j := fun j => by
      by_cases e : j = b
      · rw [e, hdb]; omega
      · rw [hdo j e]; exact Int.le_refl _
    have hua : r ≤ u a := by
      have := hi.sat cur hc hr (by rw [← ha]; exact hfar)
      rw [← ha, ← hb, ← hcc, if_neg (Nat.lt_irrefl _)] at this
      rcases this with h1 | h1
      · omega
      · exact h1
    have hkb : ∀ j, updK x.by_ b cur j = if j = b then cur else x.by_ j := fun j => rfl
    have hub : ∀ j, updK u b (r + 1) j = if j = b then r + 1 else u j := fun j => rfl
    -- the way back from a keeps clear of b
    have keep : ∀ {n j : Nat}, RB st x.by_ s n j → x.d j < farZ → x.d j - h j < x.d b - h b → RB st (updK x.by_ b cur) s n j := by
      intro n j hRB
      induction hRB with
      | here => intro _ _; exact .here
      | @step n j hj hrb ih =>
        intro hjf hphi
        obtain ⟨e1, e2, e3, e4, e5, _⟩ := hi.ent j hj hjf
        have hjb : j ≠ b := fun e => by rw [e] at hphi; omega
        have hpj := hp _ e1 e2
        rw [e3] at hpj
        refine .step hj ?_
        rw [hkb, if_neg hjb]
        exact ih e4 (by omega)
    obtain ⟨na, hna⟩ := hi.back a hfar
    have hRa := keep hna hfar (by omega)
    have all : ∀ {n j : Nat}, RB st x.by_ s n j → ∃ m, RB st (updK x.by_ b cur) s m j := by
      intro n j hRB
      induction hRB with
      | here => exact ⟨0, .here⟩
      | @step n j hj hrb ih =>
        by_cases hjb : j = b
        · refine ⟨na + 1, .step hj ?_⟩
          rw [hkb, if_pos hjb, ← ha]
          exact hRa
        · obtain ⟨m, hm⟩ := ih
          refine ⟨m + 1, .step hj ?_⟩
          rw [hkb, if_neg hjb]
          exact hm
    refine ⟨updK u b (r + 1), ?_, ?_, ?_, ?_, ?_, ?_, ?_, ?_, ?_⟩
    · show updZ x.d b (x.d a + c) s = 0
      rw [hdo s (fun e => hbs e.symm)]; exact hi.ds
    · rw [hub, if_neg (fun e => hbs e.symm)]; exact hi.us
    · intro j
      rw [hub]
      split
      · exact Nat.le_refl _
      · exact hi.top j
    · intro j; exact Int.le_trans (hdl j) (hi.le j)
    · intro j hj
      show h j - h s ≤ updZ x.d b (x.d a + c) j
      by_cases e : j = b
      · rw [e, hdb]; omega
      · have hj' : updZ x.d b (x.d a + c) j < farZ := hj
        rw [hdo j e] at hj' ⊢
        exact hi.pot j hj'
    · intro j hj hjf
      show updK x.by_ b cur j < K ∧ (st (updK x.by_ b cur j)).1 = true ∧ (st (updK x.by_ b cur j)).2.b = j ∧ updZ x.d b (x.d a + c) (st (updK x.by_ b cur j)).2.a < farZ ∧ updZ x.d b (x.d a + c) (st (updK x.by_ b cur j)).2.a + (st (updK x.by_ b cur j)).2.c ≤ updZ x.d b (x.d a + c) j ∧ updK u b (r + 1) j ≤ updK u b (r + 1) (st (updK x.by_ b cur j)).2.a + 1
      by_cases e : j = b
      · have ek : updK x.by_ b cur j = cur := by rw [hkb, if_pos e]
        rw [ek, ← ha, ← hcc, hdo a hab, e, hdb, ← hb, hub, if_pos rfl, hub, if_neg hab]
        exact ⟨hc, hr, rfl, hfar, Int.le_refl _, by omega⟩
      · have ek : updK x.by_ b cur j = x.by_ j := by rw [hkb, if_neg e]
        have hjf' : updZ x.d b (x.d a + c) j < farZ := hjf
        rw [hdo j e] at hjf'
        obtain ⟨e1, e2, e3, e4, e5, e6⟩ := hi.ent j hj hjf'
        rw [ek, hdo j e]
        have h1 := hdl (st (x.by_ j)).2.a
        have h2 : u (st (x.by_ j)).2.a ≤ updK u b (r + 1) (st (x.by_ j)).2.a := by
          rw [hub]
          split
          · rename_i e'
            rw [e']
            exact hi.top b
          · exact Nat.le_refl _
        refine ⟨e1, e2, e3, by omega, by omega, ?_⟩
        rw [hub j, if_neg e]
        omega
    · intro j hj
      by_cases hjx : x.d j < farZ
      · obtain ⟨n, hn⟩ := hi.back j hjx
        exact all hn
      · have e : j = b := by
          refine Classical.byContradiction fun e => ?_
          have hj' : updZ x.d b (x.d a + c) j < farZ := hj
          rw [hdo j e] at hj'
          exact hjx hj'
        refine ⟨na + 1, .step (by rw [e]; exact hbs) ?_⟩
        show RB st (updK x.by_ b cur) s na (st (updK x.by_ b cur j)).2.a
        rw [hkb, if_pos e, ← ha]
        exact hRa
    · intro k hk hkr hkf
      show updZ x.d b (x.d a + c) (st k).2.b ≤ updZ x.d b (x.d a + c) (st k).2.a + (st k).2.c ∨ (if k < cur + 1 then r + 1 ≤ updK u b (r + 1) (st k).2.a else r ≤ updK u b (r + 1) (st k).2.a)
      have hkf' : updZ x.d b (x.d a + c) (st k).2.a < farZ := hkf
      by_cases hkc : k = cur
      · left
        rw [hkc, ← hb, ← ha, ← hcc, hdb, hdo a hab]
        exact Int.le_refl _
      · by_cases hkb' : (st k).2.a = b
        · right
          rw [hub, if_pos hkb']
          split <;> omega
        · rw [hdo _ hkb'] at hkf' ⊢
          rw [hub, if_neg hkb']
          rcases hi.sat k hk hkr hkf' with h1 | h1
          · left
            have := hdl (st k).2.b
            omega
          · right
            by_cases hlt' : k < cur
            · rw [if_pos hlt'] at h1
              rw [if_pos (by omega)]
              exact h1
            · rw [if_neg hlt'] at h1
              rw [if_neg (by omega)]
              exact h1
    · intro _
      exact ⟨b, by show updZ x.d b (x.d a + c) b < farZ; rw [hdb]; omega, by rw [hub, if_pos rfl]⟩
  · rw [if_neg hcond]
    simp only [Bool.and_eq_true, decide_eq_true_eq] at hcond
    refine ⟨u, hi.ds, hi.us, hi.top, hi.le, hi.pot, hi.ent, hi.back, fun k hk hkr hkf => ?_, hi.new⟩
    by_cases hkc : k = cur
    · left
      rw [hkc] at hkr hkf ⊢
      refine Int.not_lt.1 fun h1 => hcond ⟨⟨hkr, hkf⟩, h1⟩
    · rcases hi.sat k hk hkr hkf with h1 | h1
      · exact .inl h1
      · right
        by_cases hlt' : k < cur
        · rw [if_pos hlt'] at h1
          rw [if_pos (by omega)]
          exact h1
        · rw [if_neg hlt'] at h1
          rw [if_neg (by omega)]
          exact h1
theorem InvF.part {st : Nat → Bool × StpZ} {K s : Nat} {h : Nat → Int} {r : Nat} {x : FS} (hp : Pt st K h) (hi : ∃ u, InvF st K s h r 0 ⟨x.d, x.by_, false⟩ u) : ∀ k, k ≤ K → ∃ u, InvF st K s h r k (partF st x k) u
  | 0, _ => hi
  | k + 1, hk => by
    obtain ⟨u, hu⟩ := InvF.part hp hi k (by omega)
    exact hu.step hp (by omega)
/-- A turn that got nothing better: all steps are satisfied. -/
theorem part_none {st : Nat → Bool × StpZ} {x : FS} : ∀ k, (partF st x k).got = false → partF st x k = ⟨x.d, x.by_, false⟩ ∧ ∀ i, i < k → (st i).1 = true → x.d (st i).2.a < farZ → x.d (st i).2.b ≤ x.d (st i).2.a + (st i).2.c
  | 0, _ => ⟨rfl, fun i hi => by omega⟩
  | k + 1, hg => by
    unfold partF stepF at hg
    by_cases hcond : ((st k).1 && decide ((partF st x k).d (st k).2.a < farZ) && decide ((partF st x k).d (st k).2.a + (st k).2.c < (partF st x k).d (st k).2.b)) = true
    · rw [if_pos hcond] at hg
      cases hg
    · rw [if_neg hcond] at hg
      obtain ⟨e, h1⟩ := part_none k hg
      have e2 : partF st x (k + 1) = ⟨x.d, x.by_, false⟩ := by
        unfold partF stepF
        rw [if_neg hcond]
        exact e
      rw [e] at hcond
      simp only [Bool.and_eq_true, decide_eq_true_eq] at hcond
      refine ⟨e2, fun i hi hr hf => ?_⟩
      rcases Nat.lt_succ_iff_lt_or_eq.1 hi with hi | rfl
      · exact h1 i hi hr hf
      · exact Int.not_lt.1 fun h2 => hcond ⟨⟨hr, hf⟩, h2⟩
/-- The next turn begins. -/
theorem InvF.turn {st : Nat → Bool × StpZ} {K s : Nat} {h : Nat → Int} {r : Nat} {x : FS} {u : Nat → Nat} (hi : InvF st K s h r K x u) : InvF st K s h (r + 1) 0 ⟨x.d, x.by_, false⟩ u :=
  ⟨hi.ds, hi.us, fun j => Nat.le_succ_of_le (hi.top j), hi.le, hi.pot, hi.ent, hi.back, fun k hk hkr hkf => (hi.sat k hk hkr hkf).imp_right fun h1 => by
    rw [if_pos hk] at h1
    rw [if_neg (Nat.not_lt_zero _)]
    exact h1, fun h => by cases h⟩
/-- It begins with the one node. -/
def far0 (s : Nat) : Nat → Int := fun j => if j = s then 0 else farZ
theorem InvF.start (st : Nat → Bool × StpZ) (K s : Nat) (h : Nat → Int) (by_ : Nat → Nat) : InvF st K s h 0 0 ⟨far0 s, by_, false⟩ (fun _ => 0) := by
  have hs : ∀ j, far0 s j < farZ → j = s := fun j hj => by
    unfold far0 at hj
    split at hj
    · assumption
    · omega
  have h0 : far0 s s = 0 := by unfold far0; rw [if_pos rfl]
  refine ⟨h0, rfl, fun _ => Nat.zero_le _, fun j => ?_, fun j hj => ?_, fun j hj hjf => absurd (hs j hjf) hj, fun j hj => ?_, fun k _ _ _ => .inr ?_, fun h => by cases h⟩
  · show far0 s j ≤ farZ
    unfold far0 farZ
    split <;> omega
  · rw [hs j hj]
    show h s - h s ≤ far0 s s
    rw [h0]
    omega
  · rw [hs j hj]
    exact ⟨0, .here⟩
  · rw [if_neg (Nat.not_lt_zero _)]
    exact Nat.zero_le _
/-- A way back has fewer steps than there are nodes. -/
theorem rb_short {st : Nat → Bool × StpZ} {K s N : Nat} {d : Nat → Int} {by_ : Nat → Nat} (hN : ∀ k, k < K → (st k).2.a < N ∧ (st k).2.b < N) (hs : s < N) (he : ∀ j, j ≠ s → d j < farZ → by_ j < K ∧ (st (by_ j)).2.b = j ∧ d (st (by_ j)).2.a < farZ) {n j : Nat} (h : RB st by_ s n j) (hj : d j < farZ) : n + 1 ≤ N := by
  have hlow : ∀ {n j : Nat}, RB st by_ s n j → d j < farZ → j < N := by
    intro n j hRB hjf
    by_cases e : j = s
    · rw [e]; exact hs
    · obtain ⟨e1, e3, _⟩ := he j e hjf
      rw [← e3]
      exact (hN _ e1).2
  have hdis : ∀ {n j : Nat}, RB st by_ s n j → d j < farZ → ∃ L : List Nat, L.Nodup ∧ L.length = n + 1 ∧ ∀ i ∈ L, i < N ∧ ∃ m, m ≤ n ∧ RB st by_ s m i := by
    intro n j hRB
    induction hRB with
    | here => intro _; exact ⟨[s], by simp, rfl, fun i hi' => by rw [List.mem_singleton] at hi'; rw [hi']; exact ⟨hs, 0, Nat.le_refl _, .here⟩⟩
    | @step n j hj hrb ih =>
      intro hjf
      obtain ⟨_, _, e4⟩ := he j hj hjf
      obtain ⟨L, h1, h2, h3⟩ := ih e4
      have hRj : RB st by_ s (n + 1) j := .step hj hrb
      refine ⟨j :: L, List.nodup_cons.2 ⟨fun hm => ?_, h1⟩, by rw [List.length_cons, h2], fun i hi' => ?_⟩
      · obtain ⟨_, m, hm1, hm2⟩ := h3 j hm
        have := hm2.same hRj
        omega
      · rcases List.mem_cons.1 hi' with rfl | hi'
        · exact ⟨hlow hRj hjf, n + 1, Nat.le_refl _, hRj⟩
        · obtain ⟨g1, m, g2, g3⟩ := h3 i hi'
          exact ⟨g1, m, by omega, g3⟩
  obtain ⟨L, l1, l2, l3⟩ := hdis h hj
  have h2 := l1.length_le_of_subset (l₂ := List.range N) fun i hi' => List.mem_range.2 (l3 i hi').1
  rw [List.length_range] at h2
  omega
/-- No more turns than nodes bring something. -/
theorem InvF.few {st : Nat → Bool × StpZ} {K s N : Nat} {h : Nat → Int} {r cur : Nat} {x : FS} {u : Nat → Nat} (hi : InvF st K s h r cur x u) (hN : ∀ k, k < K → (st k).2.a < N ∧ (st k).2.b < N) (hs : s < N) (hg : x.got = true) : r + 2 ≤ N := by
  obtain ⟨j, hj, hu⟩ := hi.new hg
  have hn : ∀ {n j : Nat}, RB st x.by_ s n j → x.d j < farZ → u j ≤ n := by
    intro n j hRB
    induction hRB with
    | here => intro _; rw [hi.us]; exact Nat.le_refl _
    | @step n j hj hrb ih =>
      intro hjf
      obtain ⟨_, _, _, e4, _, e6⟩ := hi.ent j hj hjf
      have := ih e4
      omega
  obtain ⟨n, hRB⟩ := hi.back j hj
  have h1 := hn hRB hj
  have h2 := rb_short hN hs (fun j hj hjf => by
    obtain ⟨e1, _, e3, e4, _⟩ := hi.ent j hj hjf
    exact ⟨e1, e3, e4⟩) hRB hj
  omega
theorem InvF.low {st : Nat → Bool × StpZ} {K s N : Nat} {h : Nat → Int} {r cur : Nat} {x : FS} {u : Nat → Nat} (hi : InvF st K s h r cur x u) (hN : ∀ k, k < K → (st k).2.a < N ∧ (st k).2.b < N) (hs : s < N) (hc : ∀ k, k < K → -1048576 ≤ (st k).2.c) {j : Nat} (hj : x.d j < farZ) : -(1048576 * (N : Int)) ≤ x.d j := by
  have key : ∀ {n j : Nat}, RB st x.by_ s n j → x.d j < farZ → -(1048576 * (n : Int)) ≤ x.d j := by
    intro n j hRB
    induction hRB with
    | here => intro _; rw [hi.ds]; omega
    | @step n j hj hrb ih =>
      intro hjf
      obtain ⟨e1, _, _, e4, e5, _⟩ := hi.ent j hj hjf
      have h1 := ih e4
      have h2 := hc _ e1
      omega
  obtain ⟨n, hR⟩ := hi.back j hj
  have h1 := key hR hj
  have h2 := rb_short hN hs (fun j hj hjf => by
    obtain ⟨e1, _, e3, e4, _⟩ := hi.ent j hj hjf
    exact ⟨e1, e3, e4⟩) hR hj
  omega
/-- What the turns leave in the end. -/
structure FinF (st : Nat → Bool × StpZ) (K s : Nat) (h : Nat → Int) (d : Nat → Int) (by_ : Nat → Nat) : Prop where
  ds : d s = 0
  le : ∀ j, d j ≤ farZ
  pot : ∀ j, d j < farZ → h j - h s ≤ d j
  ent : ∀ j, j ≠ s → d j < farZ → by_ j < K ∧ (st (by_ j)).1 = true ∧ (st (by_ j)).2.b = j ∧ d (st (by_ j)).2.a < farZ ∧ d (st (by_ j)).2.a + (st (by_ j)).2.c = d j
  back : ∀ j, d j < farZ → ∃ n, RB st by_ s n j
  sat : ∀ k, k < K → (st k).1 = true → d (st k).2.a < farZ → d (st k).2.b ≤ d (st k).2.a + (st k).2.c
theorem InvF.fin {st : Nat → Bool × StpZ} {K s : Nat} {h : Nat → Int} {r : Nat} {x : FS} {u : Nat → Nat} (hi : InvF st K s h r 0 ⟨x.d, x.by_, false⟩ u) (hg : (partF st x K).got = false) : FinF st K s h x.d x.by_ ∧ (partF st x K).by_ = x.by_ ∧ (partF st x K).d = x.d := by
  obtain ⟨e, h1⟩ := part_none K hg
  refine ⟨⟨hi.ds, hi.le, hi.pot, fun j hj hjf => ?_, hi.back, h1⟩, by rw [e], by rw [e]⟩
  obtain ⟨e1, e2, e3, e4, e5, _⟩ := hi.ent j hj hjf
  refine ⟨e1, e2, e3, e4, ?_⟩
  have h2 : x.d (st (x.by_ j)).2.b ≤ x.d (st (x.by_ j)).2.a + (st (x.by_ j)).2.c := h1 _ e1 e2 e4
  have e3' : (st (x.by_ j)).2.b = j := e3
  rw [e3'] at h2
  have e5' : x.d (st (x.by_ j)).2.a + (st (x.by_ j)).2.c ≤ x.d j := e5
  exact Int.le_antisymm e5' h2
theorem FinF.short {st : Nat → Bool × StpZ} {K s N : Nat} {h : Nat → Int} {d : Nat → Int} {by_ : Nat → Nat} (hi : FinF st K s h d by_) (hN : ∀ k, k < K → (st k).2.a < N ∧ (st k).2.b < N) (hs : s < N) {n j : Nat} (hR : RB st by_ s n j) (hj : d j < farZ) : n + 1 ≤ N :=
  rb_short hN hs (fun j hj hjf => by
    obtain ⟨e1, _, e3, e4, _⟩ := hi.ent j hj hjf
    exact ⟨e1, e3, e4⟩) hR hj
theorem FinF.small {st : Nat → Bool × StpZ} {K s N : Nat} {h : Nat → Int} {d : Nat → Int} {by_ : Nat → Nat} (hi : FinF st K s h d by_) (hN : ∀ k, k < K → (st k).2.a < N ∧ (st k).2.b < N) (hs : s < N) (hc : ∀ k, k < K → -1048576 ≤ (st k).2.c ∧ (st k).2.c ≤ 1048576) {j : Nat} (hj : d j < farZ) : -(1048576 * (N : Int)) ≤ d j ∧ d j ≤ 1048576 * (N : Int) := by
  have key : ∀ {n j : Nat}, RB st by_ s n j → d j < farZ → -(1048576 * (n : Int)) ≤ d j ∧ d j ≤ 1048576 * (n : Int) := by
    intro n j hRB
    induction hRB with
    | here => intro _; rw [hi.ds]; omega
    | @step n j hj hrb ih =>
      intro hjf
      obtain ⟨e1, _, _, e4, e5⟩ := hi.ent j hj hjf
      have h1 := ih e4
      have h2 := hc _ e1
      omega
  obtain ⟨n, hR⟩ := hi.back j hj
  have h1 := key hR hj
  have h2 := hi.short hN hs hR hj
  omega
end Go.Proofs.Ytjkfogkpacmdlaa
