/- Pairs: the search for one more, whom the reference counts; in plain Lean. Conditions: none. -/
import Derived.Test.YtokmialpclcodaaDoorSum
import Derived.Test.YtokmialpclcodaaDoorEach
namespace Go.Proofs.YtokmialpclcodaaDoor
open Go.RowKit

abbrev KRes := Bool × List Int × BitVec 32
def tryJ (rec : Nat → List Int → BitVec 32 → KRes) (i : Nat) : List Nat → List Int → BitVec 32 → KRes
  | [], p, a => (false, p, a)
  | j :: js, p, a =>
    if a.getLsbD j = true then tryJ rec i js p a
    else if la p j < 0 then (true, p.set j (i : Int), wOr a (wShl w1 j))
    else if (rec (la p j).toNat p (wOr a (wShl w1 j))).1 = true then (true, (rec (la p j).toNat p (wOr a (wShl w1 j))).2.1.set j (i : Int), (rec (la p j).toNat p (wOr a (wShl w1 j))).2.2)
    else tryJ rec i js (rec (la p j).toNat p (wOr a (wShl w1 j))).2.1 (rec (la p j).toNat p (wOr a (wShl w1 j))).2.2
def tryF (near : List (BitVec 32)) : Nat → Nat → List Int → BitVec 32 → KRes
  | 0, _, p, a => (false, p, a)
  | f + 1, i, p, a => tryJ (tryF near f) i (bitsL (lw near i)) p a
def Nr (near : List (BitVec 32)) (k q : Nat) : Prop := (lw near k).getLsbD q = true
/-- A set on the right, all had, whose owners know none but it. -/
def ClK (near : List (BitVec 32)) (p : List Int) (X : Nat → Bool) : Prop := ∀ q, X q = true → q < 8 ∧ ∃ k : Nat, la p q = k ∧ ∀ q', Nr near k q' → X q' = true
structure NoK (near : List (BitVec 32)) (p : List Int) (js : List Nat) (a b : BitVec 32) : Prop where
  mono : ∀ q, a.getLsbD q = true → b.getLsbD q = true
  all : ∀ q ∈ js, b.getLsbD q = true
  full : ∀ q, b.getLsbD q = true → a.getLsbD q = false → q < 8 ∧ ∃ k : Nat, la p q = k ∧ ∀ q', Nr near k q' → b.getLsbD q' = true
structure YesK (near : List (BitVec 32)) (p : List Int) (i : Nat) (a : BitVec 32) (p' : List Int) : Prop where
  len : p'.length = p.length
  kept : ∀ q, a.getLsbD q = true → la p' q = la p q
  cnt : ∀ k : Nat, sm (fun q => ind (!a.getLsbD q && la p' q == (k : Int))) 8 = sm (fun q => ind (!a.getLsbD q && la p q == (k : Int))) 8 + ind (k == i)
  occ : sm (fun q => ind (decide (0 ≤ la p' q))) 8 = sm (fun q => ind (decide (0 ≤ la p q))) 8 + 1
  edge : ∀ q, la p' q = la p q ∨ ∃ k : Nat, la p' q = k ∧ Nr near k q
  own : ∀ q, la p' q = la p q ∨ la p' q = (i : Int) ∨ ∃ q', la p' q = la p q'
  fresh : ∃ q, a.getLsbD q = false ∧ Nr near i q ∧ ∀ X, ClK near p X → X q = false
  keep : ∀ X, ClK near p X → ∀ q, X q = true → la p' q = la p q
theorem la_put {l : List Int} {i : Nat} {x : Int} {k : Nat} (hi : i < l.length) : la (l.set i x) k = if i = k then x else la l k := by
  unfold la
  rw [List.getD_eq_getElem?_getD, List.getElem?_set]
  by_cases h : i = k
  · subst h; rw [if_pos rfl, if_pos rfl, if_pos hi]; rfl
  · rw [if_neg h, if_neg h, ← List.getD_eq_getElem?_getD]
theorem or_one (a : BitVec 32) {j : Nat} (hj : j < 8) (q : Nat) : (wOr a (wShl w1 j)).getLsbD q = (a.getLsbD q || decide (q = j)) := by
  rw [b_or, b_one]
  by_cases h : q = j
  · subst h; simp; omega
  · simp [h]
def unA (a : BitVec 32) : Int := sm (fun q => ind (!a.getLsbD q)) 8
theorem unA_mono {a b : BitVec 32} (h : ∀ q, a.getLsbD q = true → b.getLsbD q = true) : unA b ≤ unA a := sm_le _ fun q _ => by
  cases ha : a.getLsbD q with
  | true => rw [h q ha]; exact Int.le_refl _
  | false => cases b.getLsbD q <;> decide
theorem unA_or {a : BitVec 32} {j : Nat} (hj : j < 8) (h : a.getLsbD j = false) : unA (wOr a (wShl w1 j)) + 1 = unA a := by
  have h1 : unA a = sm (fun q => ind (!(wOr a (wShl w1 j)).getLsbD q) + ind (q == j)) 8 := sm_congr _ fun q _ => by
    rw [or_one a hj]
    by_cases e : q = j
    · subst e; rw [h]; simp [ind]
    · have : (q == j) = false := by simpa using e
      rw [this]; simp [ind, e]
  rw [h1, sm_add, sm_one, decide_eq_true hj]
  rfl
theorem unA_nn (a : BitVec 32) : 0 ≤ unA a := sm_nn _ fun _ _ => ind_nn _
/-- A sum in which but one member is another one. -/
theorem sm_upd {f g : Nat → Int} {j n : Nat} (hj : j < n) (h : ∀ q, q ≠ j → g q = f q) : sm g n = sm f n + (g j - f j) := by
  have : sm g n = sm (fun q => f q + ind (q == j) * (g j - f j)) n := sm_congr _ fun q _ => by
    by_cases e : q = j
    · subst e; simp [ind]; omega
    · have h1 : (q == j) = false := by simpa using e
      rw [h q e, h1]; simp [ind]
  rw [this, sm_add]
  congr 1
  rw [sm_only (q := j) hj fun q _ hne => by
    have h1 : (q == j) = false := by simpa using hne
    rw [h1]; simp [ind]]
  simp [ind]
def SpecK (near : List (BitVec 32)) (p : List Int) (rec : Nat → List Int → BitVec 32 → KRes) (u : Int) : Prop :=
  ∀ i a, unA a < u → ((rec i p a).1 = true → YesK near p i a (rec i p a).2.1) ∧ ((rec i p a).1 = false → (rec i p a).2.1 = p ∧ NoK near p (bitsL (lw near i)) a (rec i p a).2.2)
theorem tryJ_spec {near : List (BitVec 32)} (hw : ∀ k q, Nr near k q → q < 8) {p : List Int} (hlen : p.length = 8) {rec : Nat → List Int → BitVec 32 → KRes} {u : Int} (hrec : SpecK near p rec u) {i : Nat} {a0 : BitVec 32} :
    ∀ (js : List Nat) (a : BitVec 32), (∀ j ∈ js, Nr near i j) → (∀ q, a0.getLsbD q = true → a.getLsbD q = true) → unA a < u + 1 →
      ((tryJ rec i js p a).1 = true → YesK near p i a0 (tryJ rec i js p a).2.1) ∧ ((tryJ rec i js p a).1 = false → (tryJ rec i js p a).2.1 = p ∧ NoK near p js a (tryJ rec i js p a).2.2)
  | [], a, _, _, _ => ⟨fun h => (by cases h), fun _ => ⟨rfl, fun _ h => h, fun q hq => (by cases hq), fun q h1 h2 => by
      have h1 : a.getLsbD q = true := h1
      rw [h1] at h2; cases h2⟩⟩
  | j :: js, a, hjs, hmono, hun => by
    have hnr := hjs j List.mem_cons_self
    have hj := hw i j hnr
    have hjs' := fun x hx => hjs x (List.mem_cons_of_mem _ hx)
    by_cases haj : a.getLsbD j = true
    · have e : tryJ rec i (j :: js) p a = tryJ rec i js p a := by rw [tryJ, if_pos haj]
      rw [e]
      obtain ⟨iy, ino⟩ := tryJ_spec hw hlen hrec js a hjs' hmono hun
      refine ⟨iy, fun h => ?_⟩
      obtain ⟨h1, h2⟩ := ino h
      refine ⟨h1, h2.mono, fun q hq => ?_, h2.full⟩
      rcases List.mem_cons.1 hq with rfl | hq
      · exact h2.mono q haj
      · exact h2.all q hq
    · have haj' : a.getLsbD j = false := by simpa using haj
      have ha0j : a0.getLsbD j = false := by
        cases h : a0.getLsbD j with
        | false => rfl
        | true => exact absurd (hmono j h) haj
      have hor := or_one a hj
      by_cases hfree : la p j < 0
      · have e : tryJ rec i (j :: js) p a = (true, p.set j (i : Int), wOr a (wShl w1 j)) := by rw [tryJ, if_neg haj, if_pos hfree]
        rw [e]
        refine ⟨fun _ => ?_, fun h => by cases h⟩
        show YesK near p i a0 (p.set j (i : Int))
        have hset : ∀ q, la (p.set j (i : Int)) q = if j = q then (i : Int) else la p q := fun q => la_put (by omega)
        have hX : ∀ X, ClK near p X → X j = false := fun X hX => by
          cases h : X j with
          | false => rfl
          | true =>
            obtain ⟨_, k, h1, _⟩ := hX j h
            omega
        refine ⟨List.length_set, fun q hq => ?_, fun k => ?_, ?_, fun q => ?_, fun q => ?_, ⟨j, ha0j, hnr, hX⟩, fun X hXc q hq => ?_⟩
        · rw [hset, if_neg (fun e => by subst e; rw [ha0j] at hq; cases hq)]
        · rw [sm_upd (f := fun q => ind (!a0.getLsbD q && la p q == (k : Int))) hj fun q hq => by rw [hset, if_neg (fun e => hq e.symm)]]
          congr 1
          rw [hset, if_pos rfl, ha0j]
          have h1 : (la p j == (k : Int)) = false := by rw [beq_eq_false_iff_ne]; omega
          have h2 : ((i : Int) == (k : Int)) = (k == i) := by rw [Bool.eq_iff_iff, beq_iff_eq, beq_iff_eq]; omega
          rw [h1, h2]
          simp [ind]
        · rw [sm_upd (f := fun q => ind (decide (0 ≤ la p q))) hj fun q hq => by rw [hset, if_neg (fun e => hq e.symm)]]
          congr 1
          rw [hset, if_pos rfl, decide_eq_true (show (0 : Int) ≤ i by omega), decide_eq_false (show ¬ 0 ≤ la p j by omega)]
          rfl
        · rw [hset]
          by_cases h : j = q
          · subst h; rw [if_pos rfl]; exact .inr ⟨i, rfl, hnr⟩
          · rw [if_neg h]; exact .inl rfl
        · rw [hset]
          by_cases h : j = q
          · rw [if_pos h]; exact .inr (.inl rfl)
          · rw [if_neg h]; exact .inl rfl
        · rw [hset, if_neg (fun e => by subst e; rw [hX X hXc] at hq; cases hq)]
      · obtain ⟨k, hk⟩ := Int.eq_ofNat_of_zero_le (show 0 ≤ la p j by omega)
        have hun1 := unA_or hj haj'
        obtain ⟨hy, hn⟩ := hrec k (wOr a (wShl w1 j)) (by omega)
        have hkn : (la p j).toNat = k := by rw [hk]; rfl
        by_cases hr : (rec k p (wOr a (wShl w1 j))).1 = true
        · have e : tryJ rec i (j :: js) p a = (true, (rec k p (wOr a (wShl w1 j))).2.1.set j (i : Int), (rec k p (wOr a (wShl w1 j))).2.2) := by rw [tryJ, if_neg haj, if_neg hfree, hkn, if_pos hr]
          rw [e]
          refine ⟨fun _ => ?_, fun h => by cases h⟩
          have y := hy hr
          obtain ⟨p1, hp1⟩ : ∃ p1, p1 = (rec k p (wOr a (wShl w1 j))).2.1 := ⟨_, rfl⟩
          show YesK near p i a0 ((rec k p (wOr a (wShl w1 j))).2.1.set j (i : Int))
          rw [← hp1] at y ⊢
          have hp1j : la p1 j = la p j := y.kept j (by rw [hor]; simp)
          have hset : ∀ q, la (p1.set j (i : Int)) q = if j = q then (i : Int) else la p1 q := fun q => la_put (by rw [y.len]; omega)
          obtain ⟨qf, hqf1, hqf2, hqf3⟩ := y.fresh
          have hX : ∀ X, ClK near p X → X j = false := fun X hX => by
            cases h : X j with
            | false => rfl
            | true =>
              obtain ⟨_, k', h1, h2⟩ := hX j h
              have : k' = k := by omega
              subst this
              have := h2 qf hqf2
              rw [hqf3 X hX] at this; cases this
          have hkept : ∀ q, a.getLsbD q = true → la p1 q = la p q := fun q hq => y.kept q (by rw [hor, hq]; rfl)
          refine ⟨by rw [List.length_set]; exact y.len, fun q hq => ?_, fun k' => ?_, ?_, fun q => ?_, fun q => ?_, ⟨j, ha0j, hnr, hX⟩, fun X hXc q hq => ?_⟩
          · rw [hset, if_neg (fun e => by subst e; rw [ha0j] at hq; cases hq), hkept q (hmono q hq)]
          · -- over those not asked at the start; what was asked since is as it was
            have e1 : sm (fun q => ind (!a0.getLsbD q && la (p1.set j (i : Int)) q == (k' : Int))) 8 = sm (fun q => ind (!a0.getLsbD q && la p1 q == (k' : Int))) 8 + (ind (k' == i) - ind (k' == k)) := by
              rw [sm_upd (f := fun q => ind (!a0.getLsbD q && la p1 q == (k' : Int))) hj fun q hq => by rw [hset, if_neg (fun e => hq e.symm)]]
              congr 1
              rw [hset, if_pos rfl, ha0j, hp1j, hk]
              have h2 : ((i : Int) == (k' : Int)) = (k' == i) := by rw [Bool.eq_iff_iff, beq_iff_eq, beq_iff_eq]; omega
              have h3 : ((k : Int) == (k' : Int)) = (k' == k) := by rw [Bool.eq_iff_iff, beq_iff_eq, beq_iff_eq]; omega
              rw [h2, h3]
              rfl
            have e2 : ∀ (r : List Int), (∀ q, a.getLsbD q = true → la r q = la p q) → la r j = la p j → sm (fun q => ind (!a0.getLsbD q && la r q == (k' : Int))) 8 = sm (fun q => ind (!(wOr a (wShl w1 j)).getLsbD q && la r q == (k' : Int))) 8 + sm (fun q => ind ((wOr a (wShl w1 j)).getLsbD q && !a0.getLsbD q && la p q == (k' : Int))) 8 := fun r hr1 hr2 => by
              rw [← sm_add]
              refine sm_congr _ fun q _ => ?_
              rw [hor]
              by_cases hqa : (a.getLsbD q || decide (q = j)) = true
              · rw [hqa]
                have : la r q = la p q := by
                  rw [Bool.or_eq_true, decide_eq_true_iff] at hqa
                  rcases hqa with h | h
                  · exact hr1 q h
                  · rw [h]; exact hr2
                rw [this]
                simp [ind]
              · have hqa' : (a.getLsbD q || decide (q = j)) = false := by simpa using hqa
                rw [hqa']
                have h0 : a0.getLsbD q = false := by
                  cases h : a0.getLsbD q with
                  | false => rfl
                  | true => rw [hmono q h] at hqa'; cases hqa'
                rw [h0]
                simp [ind]
            rw [e1, e2 p1 hkept hp1j, e2 p (fun _ _ => rfl) rfl, y.cnt k']
            omega
          · rw [sm_upd (f := fun q => ind (decide (0 ≤ la p1 q))) hj fun q hq => by rw [hset, if_neg (fun e => hq e.symm)]]
            rw [y.occ, hset, if_pos rfl, hp1j, hk, decide_eq_true (show (0 : Int) ≤ i by omega), decide_eq_true (show (0 : Int) ≤ k by omega)]
            omega
          · rw [hset]
            by_cases h : j = q
            · subst h; rw [if_pos rfl]; exact .inr ⟨i, rfl, hnr⟩
            · rw [if_neg h]; exact y.edge q
          · rw [hset]
            by_cases h : j = q
            · rw [if_pos h]; exact .inr (.inl rfl)
            · rw [if_neg h]
              rcases y.own q with h1 | h1 | h1
              · exact .inl h1
              · exact .inr (.inr ⟨j, by rw [h1, hk]⟩)
              · exact .inr (.inr h1)
          · rw [hset, if_neg (fun e => by subst e; rw [hX X hXc] at hq; cases hq)]
            exact y.keep X hXc q hq
        · have hr' : (rec k p (wOr a (wShl w1 j))).1 = false := by simpa using hr
          obtain ⟨hp1, no⟩ := hn hr'
          have e : tryJ rec i (j :: js) p a = tryJ rec i js p (rec k p (wOr a (wShl w1 j))).2.2 := by rw [tryJ, if_neg haj, if_neg hfree, hkn, if_neg hr, hp1]
          rw [e]
          obtain ⟨b, hb⟩ : ∃ b, b = (rec k p (wOr a (wShl w1 j))).2.2 := ⟨_, rfl⟩
          rw [← hb] at no ⊢
          have hab : ∀ q, a.getLsbD q = true → b.getLsbD q = true := fun q hq => no.mono q (by rw [hor, hq]; rfl)
          have hbj : b.getLsbD j = true := no.mono j (by rw [hor]; simp)
          have hunb := unA_mono no.mono
          obtain ⟨iy, ino⟩ := tryJ_spec hw hlen hrec js b hjs' (fun q hq => hab q (hmono q hq)) (by omega)
          refine ⟨iy, fun h => ?_⟩
          obtain ⟨h1, h2⟩ := ino h
          refine ⟨h1, fun q hq => h2.mono q (hab q hq), fun q hq => ?_, fun q hq ha => ?_⟩
          · rcases List.mem_cons.1 hq with rfl | hq
            · exact h2.mono q hbj
            · exact h2.all q hq
          · cases hbq : b.getLsbD q with
            | false => exact h2.full q hq hbq
            | true =>
              by_cases hqj : q = j
              · subst hqj
                refine ⟨hj, k, hk, fun q' hq' => h2.mono q' (no.all q' (mem_bitsL.2 hq'))⟩
              · obtain ⟨h3, k', h4, h5⟩ := no.full q hbq (by rw [hor, ha]; simp [hqj])
                exact ⟨h3, k', h4, fun q' hq' => h2.mono q' (h5 q' hq')⟩
theorem tryF_spec {near : List (BitVec 32)} (hw : ∀ k q, Nr near k q → q < 8) {p : List Int} (hlen : p.length = 8) : ∀ f : Nat, SpecK near p (tryF near f) f
  | 0 => fun i a h => by have := unA_nn a; omega
  | f + 1 => fun i a h => tryJ_spec hw hlen (tryF_spec hw hlen f) (bitsL (lw near i)) a (fun j hj => mem_bitsL.1 hj) (fun _ h => h) (by push_cast at h; exact h)
/-! One by one. -/
def manyTo (near : List (BitVec 32)) : Nat → List Int × Nat
  | 0 => (List.replicate 8 (-1), 0)
  | i + 1 => ((tryF near 9 i (manyTo near i).1 w0).2.1, if (tryF near 9 i (manyTo near i).1 w0).1 = true then (manyTo near i).2 + 1 else (manyTo near i).2)
structure KuI (near : List (BitVec 32)) (i : Nat) (p : List Int) (n : Nat) : Prop where
  len : p.length = 8
  vals : ∀ q, q < 8 → la p q = -1 ∨ ∃ k : Nat, k < i ∧ la p q = k ∧ Nr near k q
  one : ∀ k : Nat, sm (fun q => ind (la p q == (k : Int))) 8 ≤ 1
  num : (n : Int) = sm (fun q => ind (decide (0 ≤ la p q))) 8
  cut : ∃ X, ClK near p X ∧ ∀ k : Nat, k < i → sm (fun q => ind (la p q == (k : Int))) 8 = 0 → ∀ q', Nr near k q' → X q' = true
theorem la_none8 (q : Nat) (hq : q < 8) : la (List.replicate 8 (-1)) q = -1 := by
  unfold la
  rw [List.getD_eq_getElem?_getD, List.getElem?_replicate, if_pos hq]
  rfl
theorem unA_0 : unA w0 = 8 := by decide
theorem many_inv {near : List (BitVec 32)} (hw : ∀ k q, Nr near k q → q < 8) : ∀ i, KuI near i (manyTo near i).1 (manyTo near i).2
  | 0 => by
    have hz : ∀ k : Nat, sm (fun q => ind (la (List.replicate 8 (-1)) q == (k : Int))) 8 = 0 := fun k => by
      rw [sm_congr (g := fun _ => 0) _ fun q hq => by
        rw [la_none8 q hq]
        have : ((-1 : Int) == (k : Int)) = false := by rw [beq_eq_false_iff_ne]; omega
        rw [this]; rfl]
      exact sm_zero _
    refine ⟨rfl, fun q hq => .inl (la_none8 q hq), fun k => ?_, ?_, fun _ => false, fun q h => (by cases h), fun k hk => by omega⟩
    · show sm (fun q => ind (la (List.replicate 8 (-1)) q == (k : Int))) 8 ≤ 1
      rw [hz]; omega
    · show (0 : Int) = sm (fun q => ind (decide (0 ≤ la (List.replicate 8 (-1)) q))) 8
      rw [sm_congr (g := fun _ => 0) _ fun q hq => by rw [la_none8 q hq]; rfl]
      exact (sm_zero _).symm
  | i + 1 => by
    have ih := many_inv hw i
    obtain ⟨p, hp⟩ : ∃ p, p = (manyTo near i).1 := ⟨_, rfl⟩
    obtain ⟨n, hn⟩ : ∃ n, n = (manyTo near i).2 := ⟨_, rfl⟩
    rw [← hp, ← hn] at ih
    obtain ⟨len, vals, one, num, X, hX, hleft⟩ := ih
    obtain ⟨hy, hno⟩ := tryF_spec hw len 9 i w0 (by rw [unA_0]; decide)
    have he : manyTo near (i + 1) = ((tryF near 9 i p w0).2.1, if (tryF near 9 i p w0).1 = true then n + 1 else n) := by rw [hp, hn, manyTo]
    rw [he]
    have hci : sm (fun q => ind (la p q == (i : Int))) 8 = 0 := by
      rw [sm_congr (g := fun _ => 0) _ fun q hq => by
        have : (la p q == (i : Int)) = false := by
          rw [beq_eq_false_iff_ne]
          rcases vals q hq with h | ⟨k, h1, h2, _⟩ <;> omega
        rw [this]; rfl]
      exact sm_zero _
    by_cases hr : (tryF near 9 i p w0).1 = true
    · rw [if_pos hr]
      have y := hy hr
      obtain ⟨p', hp'⟩ : ∃ p', p' = (tryF near 9 i p w0).2.1 := ⟨_, rfl⟩
      rw [← hp'] at y ⊢
      have hcnt : ∀ k : Nat, sm (fun q => ind (la p' q == (k : Int))) 8 = sm (fun q => ind (la p q == (k : Int))) 8 + ind (k == i) := fun k => by
        have := y.cnt k
        simpa [b_0] using this
      refine ⟨by rw [y.len, len], fun q hq => ?_, fun k => ?_, ?_, X, fun q hq => ?_, fun k hk hk0 => ?_⟩
      · rcases y.edge q with h | ⟨k, h1, h2⟩
        · show la p' q = -1 ∨ _
          rw [h]
          rcases vals q hq with h' | ⟨k, h1, h2, h3⟩
          · exact .inl h'
          · exact .inr ⟨k, by omega, h2, h3⟩
        · refine .inr ⟨k, ?_, h1, h2⟩
          rcases y.own q with h | h | ⟨q', h⟩
          · rcases vals q hq with h' | ⟨k', h3, h4, _⟩ <;> omega
          · omega
          · rcases Nat.lt_or_ge q' 8 with hq' | hq'
            · rcases vals q' hq' with h' | ⟨k', h3, h4, _⟩ <;> omega
            · have : la p q' = 0 := by
                unfold la
                rw [List.getD_eq_getElem?_getD, List.getElem?_eq_none (by omega)]
                rfl
              omega
      · rw [hcnt]
        by_cases hki : k = i
        · subst hki; rw [hci]; simp [ind]
        · have h1 : (k == i) = false := by simpa using hki
          have := one k
          rw [h1, ind_f]; omega
      · show ((n + 1 : Nat) : Int) = _
        have := y.occ
        rw [this, ← num]
        omega
      · obtain ⟨h1, k, h2, h3⟩ := hX q hq
        exact ⟨h1, k, by rw [y.keep X hX q hq]; exact h2, h3⟩
      · have h1 := hcnt k
        rw [hk0] at h1
        have h2 : 0 ≤ sm (fun q => ind (la p q == (k : Int))) 8 := sm_nn _ fun _ _ => ind_nn _
        have h3 : k ≠ i := by
          rintro rfl
          rw [beq_self_eq_true, ind_t] at h1
          omega
        have h4 : (k == i) = false := by simpa using h3
        rw [h4, ind_f] at h1
        exact hleft k (by omega) (by omega)
    · rw [if_neg hr]
      obtain ⟨h1, no⟩ := hno (by simpa using hr)
      rw [h1]
      obtain ⟨b, hb⟩ : ∃ b, b = (tryF near 9 i p w0).2.2 := ⟨_, rfl⟩
      rw [← hb] at no
      refine ⟨len, fun q hq => ?_, one, num, fun q => X q || b.getLsbD q, fun q hq => ?_, fun k hk hk0 q' hq' => ?_⟩
      · rcases vals q hq with h' | ⟨k, h1, h2, h3⟩
        · exact .inl h'
        · exact .inr ⟨k, by omega, h2, h3⟩
      · rw [Bool.or_eq_true] at hq
        rcases hq with h | h
        · obtain ⟨h2, k, h3, h4⟩ := hX q h
          exact ⟨h2, k, h3, fun q' hq' => Bool.or_eq_true_iff.2 (.inl (h4 q' hq'))⟩
        · obtain ⟨h2, k, h3, h4⟩ := no.full q h (b_0 q)
          exact ⟨h2, k, h3, fun q' hq' => Bool.or_eq_true_iff.2 (.inr (h4 q' hq'))⟩
      · rw [Bool.or_eq_true]
        by_cases hki : k = i
        · subst hki
          exact .inr (no.all q' (mem_bitsL.2 hq'))
        · exact .inl (hleft k (by omega) hk0 q' hq')
/-! What the reference counts. -/
def mJ (g : BitVec 32 → Nat) (w u : BitVec 32) : Nat → Nat
  | 0 => g u
  | j + 1 => if (w.getLsbD j = true ∧ u.getLsbD j = false) ∧ mJ g w u j < 1 + g (wAdd u (wShl w1 j)) then 1 + g (wAdd u (wShl w1 j)) else mJ g w u j
def mF : List (BitVec 32) → BitVec 32 → Nat
  | [], _ => 0
  | w :: ws, u => mJ (mF ws) w u 8
theorem mJ_skip (g : BitVec 32 → Nat) (w u : BitVec 32) : ∀ m, g u ≤ mJ g w u m
  | 0 => Nat.le_refl _
  | m + 1 => by
    have := mJ_skip g w u m
    rw [mJ]; split <;> omega
theorem mJ_take (g : BitVec 32 → Nat) (w u : BitVec 32) {j : Nat} (h1 : w.getLsbD j = true) (h2 : u.getLsbD j = false) : ∀ m, j < m → 1 + g (wAdd u (wShl w1 j)) ≤ mJ g w u m
  | 0, h => by omega
  | m + 1, h => by
    rw [mJ]
    by_cases hjm : j = m
    · subst hjm
      split
      · exact Nat.le_refl _
      · rename_i h'
        exact Nat.le_of_not_lt fun h3 => h' ⟨⟨h1, h2⟩, h3⟩
    · have := mJ_take g w u h1 h2 m (by omega)
      split <;> omega
theorem mJ_is (g : BitVec 32 → Nat) (w u : BitVec 32) : ∀ m, mJ g w u m = g u ∨ ∃ j, j < m ∧ w.getLsbD j = true ∧ u.getLsbD j = false ∧ mJ g w u m = 1 + g (wAdd u (wShl w1 j))
  | 0 => .inl rfl
  | m + 1 => by
    rw [mJ]
    split
    · rename_i h
      exact .inr ⟨m, by omega, h.1.1, h.1.2, rfl⟩
    · rcases mJ_is g w u m with h | ⟨j, h1, h2, h3, h4⟩
      · exact .inl h
      · exact .inr ⟨j, by omega, h2, h3, h4⟩
theorem mF_le (ws : List (BitVec 32)) : ∀ u, mF ws u ≤ ws.length := by
  induction ws with
  | nil => exact fun _ => Nat.le_refl _
  | cons w ws ih =>
    intro u
    rw [mF, List.length_cons]
    rcases mJ_is (mF ws) w u 8 with h | ⟨j, _, _, _, h⟩
    · have := ih u; omega
    · have := ih (wAdd u (wShl w1 j)); omega
/-- Without some on the right: as if they were taken. -/
theorem mF_but (ws : List (BitVec 32)) : ∀ u v t : BitVec 32, (∀ m, t.getLsbD m = (u.getLsbD m || v.getLsbD m)) → mF (ws.map fun w => wBut w u) v = mF ws t := by
  induction ws with
  | nil => exact fun _ _ _ _ => rfl
  | cons w ws ih =>
    intro u v t ht
    rw [List.map_cons, mF, mF]
    have key : ∀ m, m ≤ 8 → mJ (mF (ws.map fun w => wBut w u)) (wBut w u) v m = mJ (mF ws) w t m := fun m => by
      induction m with
      | zero => exact fun _ => ih u v t ht
      | succ m ihm =>
        intro hm
        rw [mJ, mJ, ihm (by omega), b_but]
        have hc : ((w.getLsbD m && !u.getLsbD m) = true ∧ v.getLsbD m = false) = (w.getLsbD m = true ∧ t.getLsbD m = false) := by
          rw [ht]; cases w.getLsbD m <;> cases u.getLsbD m <;> cases v.getLsbD m <;> simp
        by_cases h : w.getLsbD m = true ∧ t.getLsbD m = false
        · have h0 : (w.getLsbD m && !u.getLsbD m) = true ∧ v.getLsbD m = false := by rw [hc]; exact h
          have hv : v.getLsbD m = false := by
            have := h.2
            rw [ht] at this
            cases hv : v.getLsbD m with
            | false => rfl
            | true => rw [hv, Bool.or_true] at this; cases this
          have e := ih u (wAdd v (wShl w1 m)) (wAdd t (wShl w1 m)) fun q => by rw [b_add hv, b_add h.2, ht]; cases u.getLsbD q <;> simp
          rw [e]
          by_cases h3 : mJ (mF ws) w t m < 1 + mF ws (wAdd t (wShl w1 m))
          · rw [if_pos ⟨h0, h3⟩, if_pos ⟨h, h3⟩]
          · rw [if_neg (fun h' => h3 h'.2), if_neg (fun h' => h3 h'.2)]
        · rw [if_neg (fun h' => h (by rw [← hc]; exact h'.1)), if_neg (fun h' => h h'.1)]
    exact key 8 (Nat.le_refl _)
/-- No more than a cover: some on the left, X on the right. -/
theorem mF_cover {near : List (BitVec 32)} (hw : ∀ k q, Nr near k q → q < 8) (X : Nat → Bool) (b : Nat → Bool) (hb : ∀ k q, b k = false → Nr near k q → X q = true) : ∀ (d i : Nat) (u : BitVec 32), i + d = near.length → (mF (near.drop i) u : Int) ≤ sm (fun k => ind (b (i + k))) d + sm (fun q => ind (X q && !u.getLsbD q)) 8
  | 0, i, u, h => by
    rw [List.drop_of_length_le (by omega)]
    have := sm_nn (f := fun q => ind (X q && !u.getLsbD q)) 8 fun _ _ => ind_nn _
    show ((0 : Nat) : Int) ≤ 0 + _
    omega
  | d + 1, i, u, h => by
    have hi : i < near.length := by omega
    have hd : near.drop i = lw near i :: near.drop (i + 1) := by rw [lw_at near i hi, ← List.drop_eq_getElem_cons hi]
    rw [hd, mF]
    have hsum : sm (fun k => ind (b (i + k))) (d + 1) = ind (b i) + sm (fun k => ind (b (i + 1 + k))) d := by
      have : ∀ n, sm (fun k => ind (b (i + k))) (n + 1) = ind (b i) + sm (fun k => ind (b (i + 1 + k))) n := fun n => by
        induction n with
        | zero => rw [sm_succ]; simp [sm]
        | succ n ihn => rw [sm_succ, ihn, sm_succ, show i + (n + 1) = i + 1 + n by omega]; omega
      exact this d
    rw [hsum]
    rcases mJ_is (mF (near.drop (i + 1))) (lw near i) u 8 with h1 | ⟨j, hj, h2, h3, h1⟩
    · rw [h1]
      have := mF_cover hw X b hb d (i + 1) u (by omega)
      have := ind_nn (b i)
      omega
    · rw [h1]
      have hr := mF_cover hw X b hb d (i + 1) (wAdd u (wShl w1 j)) (by omega)
      have hx : sm (fun q => ind (X q && !u.getLsbD q)) 8 = sm (fun q => ind (X q && !(wAdd u (wShl w1 j)).getLsbD q)) 8 + ind (X j) := by
        have hbit : ∀ q, (wAdd u (wShl w1 j)).getLsbD q = (u.getLsbD q || decide (q = j)) := fun q => by
          rw [b_add h3, b_one]
          by_cases e : q = j
          · subst e; simp; omega
          · simp [e]
        have := sm_upd (f := fun q => ind (X q && !u.getLsbD q)) (g := fun q => ind (X q && !(wAdd u (wShl w1 j)).getLsbD q)) hj fun q hq => by rw [hbit]; simp [hq]
        rw [this, hbit, h3]
        simp [ind]
        omega
      cases hbi : b i with
      | true =>
        have := ind_nn (X j)
        rw [ind_t]; push_cast; omega
      | false =>
        have := hb i j hbi h2
        rw [this, ind_t] at hx
        rw [ind_f]; push_cast; omega
/-- No less than a pairing. -/
theorem mF_pairs {near : List (BitVec 32)} {p : List Int} (hvals : ∀ q, q < 8 → la p q = -1 ∨ ∃ k : Nat, k < near.length ∧ la p q = k ∧ Nr near k q) (hone : ∀ k : Nat, sm (fun q => ind (la p q == (k : Int))) 8 ≤ 1) : ∀ (d i : Nat) (u : BitVec 32), i + d = near.length → (∀ q, q < 8 → (i : Int) ≤ la p q → u.getLsbD q = false) → sm (fun q => ind (decide ((i : Int) ≤ la p q))) 8 ≤ (mF (near.drop i) u : Int)
  | 0, i, u, h, _ => by
    rw [sm_congr (g := fun _ => 0) _ fun q hq => by
      rw [decide_eq_false]; rfl
      rcases hvals q hq with h1 | ⟨k, h1, h2, _⟩ <;> omega]
    rw [sm_zero]
    omega
  | d + 1, i, u, h, hu => by
    have hi : i < near.length := by omega
    have hd : near.drop i = lw near i :: near.drop (i + 1) := by rw [lw_at near i hi, ← List.drop_eq_getElem_cons hi]
    rw [hd, mF]
    have hsp : sm (fun q => ind (decide ((i : Int) ≤ la p q))) 8 = sm (fun q => ind (decide (((i + 1 : Nat) : Int) ≤ la p q))) 8 + sm (fun q => ind (la p q == (i : Int))) 8 := by
      rw [← sm_add]
      refine sm_congr _ fun q _ => ?_
      rcases Int.lt_trichotomy (la p q) i with h1 | h1 | h1
      · rw [decide_eq_false (by omega), decide_eq_false (by omega)]
        have : (la p q == (i : Int)) = false := by rw [beq_eq_false_iff_ne]; omega
        rw [this]; rfl
      · rw [decide_eq_true (by omega), decide_eq_false (by omega)]
        have : (la p q == (i : Int)) = true := by rw [beq_iff_eq]; exact h1
        rw [this]; rfl
      · rw [decide_eq_true (by omega), decide_eq_true (by omega)]
        have : (la p q == (i : Int)) = false := by rw [beq_eq_false_iff_ne]; omega
        rw [this]; rfl
    rw [hsp]
    by_cases hex : ∃ q, q < 8 ∧ la p q = (i : Int)
    · obtain ⟨j, hj, hpj⟩ := hex
      have huj := hu j hj (by omega)
      have hnr : Nr near i j := by
        rcases hvals j hj with h1 | ⟨k, h1, h2, h3⟩
        · omega
        · have : k = i := by omega
          rw [← this]; exact h3
      have h1 := mJ_take (mF (near.drop (i + 1))) (lw near i) u hnr huj 8 hj
      have h2 := mF_pairs hvals hone d (i + 1) (wAdd u (wShl w1 j)) (by omega) fun q hq hle => by
        rw [b_add huj, hu q hq (by omega), b_one]
        have : q ≠ j := fun e => by subst e; omega
        simp [this]
      have h3 := hone i
      push_cast at h2 ⊢
      omega
    · have h0 : sm (fun q => ind (la p q == (i : Int))) 8 = 0 := by
        rw [sm_congr (g := fun _ => 0) _ fun q hq => by
          have : (la p q == (i : Int)) = false := by
            rw [beq_eq_false_iff_ne]
            exact fun e => hex ⟨q, hq, e⟩
          rw [this]; rfl]
        exact sm_zero _
      have h1 := mJ_skip (mF (near.drop (i + 1))) (lw near i) u 8
      have h2 := mF_pairs hvals hone d (i + 1) u (by omega) fun q hq hle => hu q hq (by omega)
      rw [h0]
      omega
theorem many_mF {near : List (BitVec 32)} (hw : ∀ k q, Nr near k q → q < 8) : (manyTo near near.length).2 = mF near w0 := by
  obtain ⟨_, vals, one, num, X, hX, hleft⟩ := many_inv hw near.length
  obtain ⟨p, hp⟩ : ∃ p, p = (manyTo near near.length).1 := ⟨_, rfl⟩
  obtain ⟨n, hn⟩ : ∃ n, n = (manyTo near near.length).2 := ⟨_, rfl⟩
  rw [← hp] at vals one num hX hleft
  rw [← hn] at num ⊢
  have h1 := mF_pairs vals one near.length 0 w0 (by omega) fun q _ _ => b_0 q
  have h2 := mF_cover hw X (fun k => (List.range 8).any fun q => (lw near k).getLsbD q && !X q) (fun k q hk hq => by
    rw [List.any_eq_false] at hk
    have := hk q (List.mem_range.2 (hw k q hq))
    have hq' : (lw near k).getLsbD q = true := hq
    rw [hq'] at this
    cases h : X q with
    | true => rfl
    | false => rw [h] at this; exact absurd rfl this) near.length 0 w0 (by omega)
  rw [List.drop_zero] at h1 h2
  have e1 : sm (fun q => ind (decide (((0 : Nat) : Int) ≤ la p q))) 8 = (n : Int) := by rw [num]; rfl
  have e2 : sm (fun k => ind ((List.range 8).any fun q => (lw near (0 + k)).getLsbD q && !X q)) near.length ≤ sm (fun k => sm (fun q => ind (!X q && la p q == (k : Int))) 8) near.length := sm_le _ fun k hk => by
    rw [Nat.zero_add]
    cases hany : (List.range 8).any fun q => (lw near k).getLsbD q && !X q with
    | false => exact sm_nn _ fun _ _ => ind_nn _
    | true =>
      obtain ⟨q, hq, hq2⟩ := List.any_eq_true.1 hany
      rw [Bool.and_eq_true, Bool.not_eq_true'] at hq2
      by_cases h0 : sm (fun q => ind (la p q == (k : Int))) 8 = 0
      · have := hleft k hk h0 q hq2.1
        rw [hq2.2] at this; cases this
      · have hnx : sm (fun q => ind (!X q && la p q == (k : Int))) 8 = sm (fun q => ind (la p q == (k : Int))) 8 := sm_congr _ fun q' hq' => by
          cases hXq : X q' with
          | false => rfl
          | true =>
            obtain ⟨_, k', h3, h4⟩ := hX q' hXq
            have : (la p q' == (k : Int)) = false := by
              rw [beq_eq_false_iff_ne]
              intro e
              have : k' = k := by omega
              subst this
              have := h4 q hq2.1
              rw [hq2.2] at this; cases this
            rw [this]; rfl
        rw [hnx]
        have := sm_nn (f := fun q => ind (la p q == (k : Int))) 8 fun _ _ => ind_nn _
        show (1 : Int) ≤ _
        omega
  rw [sm_swap (fun k q => ind (!X q && la p q == (k : Int))) 8 near.length] at e2
  have e3 : sm (fun q => sm (fun k => ind (!X q && la p q == (k : Int))) near.length) 8 + sm (fun q => ind (X q && !w0.getLsbD q)) 8 ≤ (n : Int) := by
    rw [← sm_add, num]
    refine sm_le _ fun q hq => ?_
    cases hXq : X q with
    | true =>
      obtain ⟨_, k, h3, _⟩ := hX q hXq
      rw [decide_eq_true (by omega), b_0]
      rw [sm_congr (g := fun _ => 0) _ fun k _ => by simp [ind]]
      rw [sm_zero]
      decide
    | false =>
      rcases vals q hq with h | ⟨k, h3, h4, _⟩
      · rw [sm_congr (g := fun _ => 0) _ fun k' _ => by
          have : (la p q == (k' : Int)) = false := by rw [beq_eq_false_iff_ne]; omega
          rw [this]; rfl]
        rw [sm_zero]
        have h5 : decide (0 ≤ la p q) = false := decide_eq_false (by omega)
        rw [h5, Bool.false_and]
        decide
      · rw [sm_only (q := k) h3 fun k' _ hne => by
          have : (la p q == (k' : Int)) = false := by rw [beq_eq_false_iff_ne]; omega
          rw [this]; rfl]
        rw [h4, decide_eq_true (by omega)]
        simp [ind]
  omega
end Go.Proofs.YtokmialpclcodaaDoor
