/- Jobs in plain Lean: what is told to be wrong, the order. Conditions: none. -/
import Derived.Test.YtokmialpclcodaaOpen
import Derived.Test.YtokmialpclcodaaCells
namespace Go.Proofs.Ytokmialpclcodaa
open Go.RowKit

structure Jb where
  t : Int
  s : Sls Int
  x : Int
  y : Int
abbrev Jb.cells (a : Jb) : List Value := [.int .i64 a.t, a.s.val, .int .i64 a.x, .int .i64 a.y]
def Jb.of (p : Int × Sls Int × Int × Int) : Jb := ⟨p.1, p.2.1, p.2.2.1, p.2.2.2⟩
abbrev jobCells (p : Int × Sls Int × Int × Int) : List Value := [.int .i64 p.1, p.2.1.val, .int .i64 p.2.2.1, .int .i64 p.2.2.2]
/-- The lists of all jobs read so. -/
def Afters (w : World) (B : Nat) (l : List Jb) : Prop := ∀ j ∈ l, Els w B 1 icell j.s.A j.s.l ∧ j.s.l.length ≤ maxLen
theorem Afters.below {w w' : World} {B : Nat} {l : List Jb} (h : Afters w B l) (hb : Below B w w') : Afters w' B l := fun j hj => ⟨(h j hj).1.below hb, (h j hj).2⟩
theorem Afters.more {w : World} {B B' : Nat} {l : List Jb} (h : Afters w B l) (hB : B ≤ B') : Afters w B' l := fun j hj => ⟨(h j hj).1.more hB, (h j hj).2⟩
def kBad (n k : Int) : Bool := decide (k < 0) || decide (n ≤ k)
def tBad (t : Int) : Bool := decide (t < 0) || decide (1048576 < t)
def longJ (j : Jb) : Bool := decide (10 < j.s.l.length)
def jobsFrom (n : Int) : List Jb → Int
  | [] => 0
  | j :: l => if tBad j.t then 4 else if j.s.l.any (kBad n) then 2 else jobsFrom n l
def jobsCheck (l : List Jb) : Int := if 10 < l.length then 1 else if l.any longJ then 1 else jobsFrom l.length l
theorem jobs_round {n : Int} {l : List Jb} {k : Nat} (hk : k < l.length) (h : jobsFrom n (l.drop k) = jobsFrom n l) (j : Jb) (hj : j = l[k]) :
    jobsFrom n l = if tBad j.t then 4 else if j.s.l.any (kBad n) then 2 else jobsFrom n (l.drop (k + 1)) := by
  rw [← h, drop_at l k hk, jobsFrom, ← hj]
structure GoodJs (l : List Jb) : Prop where
  n10 : l.length ≤ 10
  m10 : ∀ j ∈ l, j.s.l.length ≤ 10
  t : ∀ j ∈ l, 0 ≤ j.t ∧ j.t ≤ 1048576
  k : ∀ j ∈ l, ∀ k ∈ j.s.l, 0 ≤ k ∧ k < l.length
theorem jobsFrom_good {n : Int} : ∀ (l : List Jb), jobsFrom n l = 0 → (∀ j ∈ l, 0 ≤ j.t ∧ j.t ≤ 1048576) ∧ ∀ j ∈ l, ∀ k ∈ j.s.l, 0 ≤ k ∧ k < n
  | [], _ => ⟨by simp, by simp⟩
  | j :: l, h => by
    rw [jobsFrom] at h
    split at h
    · omega
    · split at h
      · omega
      · rename_i h1 h2
        obtain ⟨h3, h4⟩ := jobsFrom_good l h
        refine ⟨fun x hx => ?_, fun x hx k hk => ?_⟩
        · rcases List.mem_cons.1 hx with rfl | hx
          · unfold tBad at h1
            simp at h1
            omega
          · exact h3 x hx
        · rcases List.mem_cons.1 hx with rfl | hx
          · have := List.any_eq_false.1 (by simpa using h2) k hk
            unfold kBad at this
            simp at this
            omega
          · exact h4 x hx k hk
theorem jobs_good {l : List Jb} (h : jobsCheck l = 0) : GoodJs l := by
  unfold jobsCheck at h
  split at h
  · omega
  · split at h
    · omega
    · rename_i h1 h2
      obtain ⟨h3, h4⟩ := jobsFrom_good l h
      refine ⟨by omega, fun j hj => ?_, h3, h4⟩
      have := List.any_eq_false.1 (by simpa using h2) j hj
      unfold longJ at this
      simp at this
      omega

/-! The first number from a place on of which p holds; -1: there is none. -/
def nfF (p : Nat → Bool) : Nat → Nat → Int
  | 0, _ => -1
  | k + 1, f => if p f = true then (f : Int) else nfF p k (f + 1)
def nf (p : Nat → Bool) (n f : Nat) : Int := nfF p (n - f) f
theorem nf_end (p : Nat → Bool) {n f : Nat} (h : n ≤ f) : nf p n f = -1 := by
  unfold nf
  rw [Nat.sub_eq_zero_of_le h]
  rfl
theorem nf_yes (p : Nat → Bool) {n f : Nat} (h : f < n) (hp : p f = true) : nf p n f = f := by
  unfold nf
  obtain ⟨k, hk⟩ : ∃ k, n - f = k + 1 := ⟨n - f - 1, by omega⟩
  rw [hk, nfF, if_pos hp]
theorem nf_no (p : Nat → Bool) {n f : Nat} (h : f < n) (hp : p f = false) : nf p n f = nf p n (f + 1) := by
  unfold nf
  obtain ⟨k, hk⟩ : ∃ k, n - f = k + 1 := ⟨n - f - 1, by omega⟩
  rw [hk, nfF, if_neg (by rw [hp]; simp), show n - (f + 1) = k by omega]
theorem nf_cases (p : Nat → Bool) (n : Nat) : ∀ (d f : Nat), n - f = d → (nf p n f = -1 ∧ ∀ k, f ≤ k → k < n → p k = false) ∨ ∃ i : Nat, nf p n f = i ∧ f ≤ i ∧ i < n ∧ p i = true ∧ ∀ k, f ≤ k → k < i → p k = false
  | 0, f, h => .inl ⟨nf_end p (by omega), fun k h1 h2 => by omega⟩
  | d + 1, f, h => by
    rcases hp : p f with _ | _
    · rw [nf_no p (by omega) hp]
      rcases nf_cases p n d (f + 1) (by omega) with ⟨h1, h2⟩ | ⟨i, h1, h2, h3, h4, h5⟩
      · refine .inl ⟨h1, fun k hk hkn => ?_⟩
        by_cases he : k = f
        · rw [he]; exact hp
        · exact h2 k (by omega) hkn
      · refine .inr ⟨i, h1, by omega, h3, h4, fun k hk hki => ?_⟩
        by_cases he : k = f
        · rw [he]; exact hp
        · exact h5 k (by omega) hki
    · exact .inr ⟨f, nf_yes p (by omega) hp, by omega, by omega, hp, fun k h1 h2 => by omega⟩
theorem nf_of (p : Nat → Bool) {n i f : Nat} (hf : f ≤ i) (hi : i < n) (h : p i = true) (hno : ∀ k, f ≤ k → k < i → p k = false) : nf p n f = i := by
  rcases nf_cases p n _ f rfl with ⟨_, h2⟩ | ⟨j, h1, h2, h3, h4, h5⟩
  · rw [h2 i hf hi] at h; cases h
  · rw [h1]
    rcases Nat.lt_trichotomy i j with hl | he | hg
    · rw [h5 i hf hl] at h; cases h
    · rw [he]
    · rw [hno j h2 hg] at h4; cases h4
theorem nf_none (p : Nat → Bool) {n f : Nat} (hno : ∀ k, f ≤ k → k < n → p k = false) : nf p n f = -1 := by
  rcases nf_cases p n _ f rfl with ⟨h1, _⟩ | ⟨j, h1, h2, h3, h4, h5⟩
  · exact h1
  · rw [hno j h2 h3] at h4; cases h4

/-! The order. -/
def aft (l : List Jb) (i : Nat) : List Int := (l.getD i ⟨0, ⟨none, 0, []⟩, 0, 0⟩).s.l
theorem aft_at (l : List Jb) {i : Nat} (h : i < l.length) : aft l i = l[i].s.l := by
  unfold aft
  rw [getD_at l i h]
def depB (l : List Jb) (gone : List Int) (i : Nat) : Bool := (aft l i).all (hasB gone)
def nextB (l : List Jb) (gone : List Int) (i : Nat) : Bool := !hasB gone i && depB l gone i
def orderL (l : List Jb) : Nat → List Int
  | 0 => []
  | k + 1 => orderL l k ++ [nf (nextB l (orderL l k)) l.length 0]
def nextAt (l : List Jb) (k : Nat) : Int := nf (nextB l (orderL l k)) l.length 0
theorem orderL_succ (l : List Jb) (k : Nat) : orderL l (k + 1) = orderL l k ++ [nextAt l k] := rfl
theorem orderL_length (l : List Jb) : ∀ k, (orderL l k).length = k
  | 0 => rfl
  | k + 1 => by rw [orderL_succ, List.length_append, orderL_length l k]; rfl
/-- There is an order: no step fails. -/
def HasOrder (l : List Jb) : Prop := ∀ k, k < l.length → nextAt l k ≠ -1
theorem nextAt_cases (l : List Jb) (k : Nat) : (nextAt l k = -1 ∧ ∀ i, i < l.length → nextB l (orderL l k) i = false) ∨ ∃ i : Nat, nextAt l k = i ∧ i < l.length ∧ nextB l (orderL l k) i = true ∧ ∀ j, j < i → nextB l (orderL l k) j = false := by
  rcases nf_cases (nextB l (orderL l k)) l.length _ 0 rfl with ⟨h1, h2⟩ | ⟨i, h1, _, h3, h4, h5⟩
  · exact .inl ⟨h1, fun i hi => h2 i (by omega) hi⟩
  · exact .inr ⟨i, h1, h3, h4, fun j hj => h5 j (by omega) hj⟩
theorem hasB_snoc (l : List Int) (a x : Int) : hasB (l ++ [a]) x = (hasB l x || x == a) := by
  unfold hasB
  rw [List.any_append]
  simp
end Go.Proofs.Ytokmialpclcodaa
