/- The asking, round by round, in plain Lean, and how its state lies in memory. Conditions: the wishes are good. -/
import Derived.Test.YtodbhgbgeiailaaAskQ
import Derived.Test.YtodbhgbgeiailaaAllsC
namespace Go.Proofs.Ytodbhgbgeiailaa
open Go.RowKit

/-- Between two on the left: all ahead have asked their fill. -/
structure AskO (n : Nat) (L R : List (Sls Int)) (has : Nat → Int) (nx : Nat → Nat) (i : Nat) : Prop where
  ask : AskI n L R has nx
  new : ∀ x, i ≤ x → nx x = 0
  fin : ∀ x, x < i → x < n → (∃ j, j < n ∧ has j = x) ∨ nx x = (ls L x).length
/-- While one asks. -/
structure AtI (n : Nat) (L R : List (Sls Int)) (has : Nat → Int) (nx : Nat → Nat) (i : Nat) (t : Int) : Prop where
  ask : AskI n L R has nx
  new : ∀ x, i < x → nx x = 0
  at_ : t = -1 ∨ ∃ a : Nat, t = a ∧ a ≤ i ∧ FreeA n has a
  fin : ∀ x : Nat, x ≤ i → x < n → (x : Int) ≠ t → (∃ j, j < n ∧ has j = x) ∨ nx x = (ls L x).length
theorem AskO.zero (n : Nat) (L R : List (Sls Int)) : AskO n L R (fun _ => -1) (fun _ => 0) 0 :=
  ⟨⟨fun _ _ => .inl rfl, fun _ _ => Nat.zero_le _, fun _ _ _ h => by omega, fun _ _ _ h => by omega⟩, fun _ _ => rfl, fun _ h => by omega⟩
theorem AskO.done {n : Nat} {L R : List (Sls Int)} {has : Nat → Int} {nx : Nat → Nat} (h : AskO n L R has nx n) : EndI n L R has nx := ⟨h.ask, fun a ha => h.fin a ha ha⟩
theorem AskO.begin {n : Nat} {L R : List (Sls Int)} {has : Nat → Int} {nx : Nat → Nat} {i : Nat} (h : AskO n L R has nx i) : AtI n L R has nx i i :=
  ⟨h.ask, fun x hx => h.new x (by omega), .inr ⟨i, rfl, Nat.le_refl _, fun j hj e => by
    have := (h.ask.held hj e).2.2.1
    have := h.new i (Nat.le_refl _)
    omega⟩, fun x hx hxn hne => h.fin x (by omega) hxn⟩
theorem AtI.out {n : Nat} {L R : List (Sls Int)} {has : Nat → Int} {nx : Nat → Nat} {i : Nat} {t : Int} (h : AtI n L R has nx i t) (ht : t = -1 ∨ ∃ a : Nat, t = a ∧ nx a = (ls L a).length) : AskO n L R has nx (i + 1) :=
  ⟨h.ask, fun x hx => h.new x (by omega), fun x hx hxn => by
    by_cases hxt : (x : Int) = t
    · rcases ht with h1 | ⟨a, h1, h2⟩
      · omega
      · have : x = a := by omega
        subst this
        exact .inr h2
    · exact h.fin x (by omega) hxn hxt⟩
theorem AtI.take {n : Nat} {L R : List (Sls Int)} {has : Nat → Int} {nx : Nat → Nat} {i a j : Nat} (h : AtI n L R has nx i a) (hL : GoodL n L) (hR : GoodL n R) (hnd : ∀ a, (ls L a).Nodup) (hi : i < n) (hk : nx a < (ls L a).length) (hj : (ls L a).getD (nx a) 0 = j) (hjn : j < n)
    (hr : rankI a (ls R j) < if 0 ≤ has j then rankI (has j) (ls R j) else 8) : AtI n L R (upd has j a) (upd nx a (nx a + 1)) i (has j) := by
  obtain ⟨hai, hf⟩ : a ≤ i ∧ FreeA n has a := by
    rcases h.at_ with h1 | ⟨a', h1, h2, h3⟩
    · omega
    · have : a' = a := by omega
      subst this
      exact ⟨h2, h3⟩
  refine ⟨h.ask.take hL hR hnd (by omega) hf hk hj hjn hr, fun x hx => ?_, ?_, fun x hx hxn hne => ?_⟩
  · rw [upd_other _ _ (by omega)]
    exact h.new x hx
  · rcases h.ask.own j hjn with h1 | ⟨b, h1, h2, h3, h4, h5, h6⟩
    · exact .inl h1
    · refine .inr ⟨b, h1, ?_, fun j' hj' e => ?_⟩
      · refine Classical.byContradiction fun hlt => ?_
        have := h.new b (by omega)
        omega
      · by_cases hjj : j' = j
        · subst hjj
          rw [upd_same] at e
          exact hf j' hj' (by rw [h1, e])
        · rw [upd_other _ _ hjj] at e
          have := (h.ask.held hj' e).2.2.2.2
          omega
  · by_cases hxa : x = a
    · subst hxa
      exact .inl ⟨j, hjn, upd_same _ _ _⟩
    · rw [upd_other _ _ hxa]
      rcases h.fin x hx hxn (by omega) with ⟨j', h1, h2⟩ | h1
      · refine .inl ⟨j', h1, ?_⟩
        rw [upd_other _ _ (fun e => hne (by rw [← e, h2]))]
        exact h2
      · exact .inr h1
theorem AtI.miss {n : Nat} {L R : List (Sls Int)} {has : Nat → Int} {nx : Nat → Nat} {i a j : Nat} (h : AtI n L R has nx i a) (hL : GoodL n L) (hR : GoodL n R) (hnd : ∀ a, (ls L a).Nodup) (hi : i < n) (hk : nx a < (ls L a).length) (hj : (ls L a).getD (nx a) 0 = j) (hjn : j < n)
    (hr : ¬ rankI a (ls R j) < if 0 ≤ has j then rankI (has j) (ls R j) else 8) : AtI n L R has (upd nx a (nx a + 1)) i a := by
  obtain ⟨hai, hf⟩ : a ≤ i ∧ FreeA n has a := by
    rcases h.at_ with h1 | ⟨a', h1, h2, h3⟩
    · omega
    · have : a' = a := by omega
      subst this
      exact ⟨h2, h3⟩
  refine ⟨h.ask.miss hL hR hnd (by omega) hf hk hj hjn hr, fun x hx => ?_, .inr ⟨a, rfl, hai, hf⟩, fun x hx hxn hne => ?_⟩
  · rw [upd_other _ _ (by omega)]
    exact h.new x hx
  · rw [upd_other _ _ (fun e => hne (by rw [e]))]
    exact h.fin x hx hxn hne

def rowF (n : Nat) (f : Nat → Int) : List Int := (List.range n).map f
theorem rowF_len (n : Nat) (f : Nat → Int) : (rowF n f).length = n := by unfold rowF; simp
theorem rowF_at (n : Nat) (f : Nat → Int) {i : Nat} (hi : i < n) : (rowF n f).getD i 0 = f i := by
  unfold rowF
  rw [getD_at _ i (by simpa using hi)]
  simp
theorem rowF_get (n : Nat) (f : Nat → Int) {k : Nat} (h : k < (rowF n f).length) : (rowF n f)[k] = f k := by
  rw [← getD_at _ k h 0, rowF_at _ _ (by rw [rowF_len] at h; exact h)]
theorem rowF_set (n : Nat) (f : Nat → Int) (i : Nat) (v : Int) : (rowF n f).set i v = rowF n (upd f i v) := by
  refine List.ext_getElem (by rw [List.length_set, rowF_len, rowF_len]) fun k h1 h2 => ?_
  rw [List.getElem_set, rowF_get, rowF_get]
  unfold upd
  by_cases h : i = k
  · rw [if_pos h, if_pos h.symm]
  · rw [if_neg h, if_neg (show ¬ k = i from fun e => h e.symm)]
theorem rowF_same (n : Nat) (v : Int) : rowF n (fun _ => v) = List.replicate n v := by
  refine List.ext_getElem (by rw [rowF_len, List.length_replicate]) fun k h1 h2 => ?_
  rw [rowF_get, List.getElem_replicate]
theorem rowF_upd_nat (n : Nat) (nx : Nat → Nat) (i v : Nat) : rowF n (upd (fun a => (nx a : Int)) i (v : Int)) = rowF n (fun a => ((upd nx i v a : Nat) : Int)) := by
  unfold rowF upd
  refine List.map_congr_left fun a _ => ?_
  split <;> rfl
/-- All that is still to be asked. -/
def measW (L : List (Sls Int)) (n g : Nat) (w : World) : Nat := ((List.range n).map fun a => (ls L a).length - (intOf ((w.cell? ⟨g, a, none⟩).getD undef)).toNat).sum
def measN (L : List (Sls Int)) (n : Nat) (nx : Nat → Nat) : Nat := ((List.range n).map fun a => (ls L a).length - nx a).sum
theorem meas_is {L : List (Sls Int)} {n g : Nat} {w : World} {nx : Nat → Nat} (h : GlB w g (rowF n fun a => (nx a : Int))) : measW L n g w = measN L n nx := by
  unfold measW measN
  congr 1
  refine List.map_congr_left fun a ha => ?_
  have ha := List.mem_range.1 ha
  rw [h.cell (i := a) (by rw [rowF_len]; exact ha), rowF_at _ _ ha]
  simp [intOf]
theorem meas_less {L : List (Sls Int)} {nx : Nat → Nat} {a : Nat} : ∀ {n : Nat}, a < n → nx a < (ls L a).length → measN L n (upd nx a (nx a + 1)) < measN L n nx := by
  have hle : ∀ n, n ≤ a → measN L n (upd nx a (nx a + 1)) = measN L n nx := fun n hn => by
    unfold measN
    congr 1
    refine List.map_congr_left fun x hx => ?_
    have := List.mem_range.1 hx
    rw [upd_other _ _ (by omega)]
  have hs : ∀ (n : Nat) (f : Nat → Nat), measN L (n + 1) f = measN L n f + ((ls L n).length - f n) := fun n f => by
    unfold measN
    rw [List.range_succ, List.map_append, List.sum_append]
    simp
  intro n
  induction n with
  | zero => intro h; omega
  | succ n ih =>
    intro h hk
    rw [hs, hs]
    by_cases hn : a = n
    · subst hn
      rw [hle a (Nat.le_refl _), upd_same]
      omega
    · rw [upd_other _ _ (fun e => hn e.symm)]
      have := ih (by omega) hk
      omega
theorem gAt_step {n : Nat} {has : Nat → Int} {k b : Nat} (h : has k = b) : (rowF n fun a => gAt has a k).set b k = rowF n fun a => gAt has a (k + 1) := by
  rw [rowF_set]
  unfold rowF
  refine List.map_congr_left fun a _ => ?_
  unfold upd
  show _ = if has k = a then (k : Int) else gAt has a k
  by_cases hab : a = b
  · rw [if_pos hab, if_pos (by omega)]
  · rw [if_neg hab, if_neg (by omega)]
theorem gAt_skip {n : Nat} {has : Nat → Int} {k : Nat} (h : has k = -1) : (rowF n fun a => gAt has a k) = rowF n fun a => gAt has a (k + 1) := by
  unfold rowF
  refine List.map_congr_left fun a _ => ?_
  show _ = if has k = a then (k : Int) else gAt has a k
  rw [if_neg (by omega)]
/-- How the asking lies in memory. -/
structure AskM (S n cL cR : Nat) (AL AR : Option Addr) (gh gx : Nat) (has : Nat → Int) (nx : Nat → Nat) (w wr : World) : Prop where
  bel : Below S w wr
  kw : Blk wr S 38 #[.slice AL n cL, .slice AR n cR]
  h : GlB wr gh (rowF n has)
  x : GlB wr gx (rowF n fun a => (nx a : Int))
theorem AskM.drewN {S n cL cR : Nat} {AL AR : Option Addr} {gh gx : Nat} {has : Nat → Int} {nx : Nat → Nat} {w wr : World} (h : AskM S n cL cR AL AR gh gx has nx w wr) (k : Nat) : AskM S n cL cR AL AR gh gx has nx w (wr.drewN k) :=
  ⟨below_drewN h.bel _, h.kw.drewN _, h.h, h.x⟩
theorem AskM.putx {S n cL cR : Nat} {AL AR : Option Addr} {gh gx : Nat} {has : Nat → Int} {nx : Nat → Nat} {w wr : World} (h : AskM S n cL cR AL AR gh gx has nx w wr) (hS : S < gx) (hne : gh ≠ gx) (a : Nat) (v : Nat) : AskM S n cL cR AL AR gh gx has (upd nx a v) w (wr.setCell ⟨gx, a, none⟩ (.int .i64 v)) :=
  ⟨h.bel.setCell (p := ⟨gx, a, none⟩) (by show S ≤ gx; omega) _, h.kw.far (p := ⟨gx, a, none⟩) (by show S ≠ gx; omega) _, h.h.far (p := ⟨gx, a, none⟩) hne _, by
    have := h.x.put a v
    rw [rowF_set, rowF_upd_nat] at this
    exact this⟩
theorem AskM.puth {S n cL cR : Nat} {AL AR : Option Addr} {gh gx : Nat} {has : Nat → Int} {nx : Nat → Nat} {w wr : World} (h : AskM S n cL cR AL AR gh gx has nx w wr) (hS : S < gh) (hne : gh ≠ gx) (j : Nat) (v : Int) : AskM S n cL cR AL AR gh gx (upd has j v) nx w (wr.setCell ⟨gh, j, none⟩ (.int .i64 v)) :=
  ⟨h.bel.setCell (p := ⟨gh, j, none⟩) (by show S ≤ gh; omega) _, h.kw.far (p := ⟨gh, j, none⟩) (by show S ≠ gh; omega) _, by
    have := h.h.put j v
    rw [rowF_set] at this
    exact this, h.x.far (p := ⟨gh, j, none⟩) (fun e => hne e.symm) _⟩
end Go.Proofs.Ytodbhgbgeiailaa
