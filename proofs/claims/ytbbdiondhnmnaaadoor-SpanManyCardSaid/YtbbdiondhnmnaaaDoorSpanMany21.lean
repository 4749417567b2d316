/- The weights of a graph's edges: one for each edge, both ways. Conditions: the graph is one. -/
import Derived.Test.YtbbdiondhnmnaaaDoorSpanMany15
import Derived.Test.YtbbdiondhnmnaaaDoorSpanMany19
import Derived.Test.YtbbdiondhnmnaaaDoorSpanMany20
namespace Go.Proofs.YtbbdiondhnmnaaaDoor

def wE (e : Ed) (i j : Nat) : Int := (if e.a = (i : Int) ∧ e.b = (j : Int) then 1 else 0) + (if e.a = (j : Int) ∧ e.b = (i : Int) then 1 else 0)
def wL : List Ed → Nat → Nat → Int
  | [], _, _ => 0
  | e :: l, i, j => wE e i j + wL l i j
theorem wE_symm (e : Ed) (i j : Nat) : wE e i j = wE e j i := by unfold wE; omega
theorem wE_nn (e : Ed) (i j : Nat) : 0 ≤ wE e i j := by unfold wE; split <;> split <;> decide
theorem wL_symm : ∀ (l : List Ed) (i j : Nat), wL l i j = wL l j i
  | [], _, _ => rfl
  | e :: l, i, j => by rw [wL, wL, wE_symm, wL_symm l]
theorem wL_nn : ∀ (l : List Ed) (i j : Nat), 0 ≤ wL l i j
  | [], _, _ => Int.le_refl _
  | e :: l, i, j => by
    have := wE_nn e i j
    have := wL_nn l i j
    rw [wL]; omega
theorem wL_snoc : ∀ (l : List Ed) (e : Ed) (i j : Nat), wL (l ++ [e]) i j = wL l i j + wE e i j
  | [], e, i, j => by simp [wL]
  | f :: l, e, i, j => by rw [List.cons_append, wL, wL, wL_snoc l]; omega
theorem wL_take {l : List Ed} {k : Nat} (hk : k < l.length) (i j : Nat) : wL (l.take (k + 1)) i j = wL (l.take k) i j + wE l[k] i j := by
  rw [List.take_succ_eq_append_getElem hk, wL_snoc]
theorem ite_same {p q : Prop} [Decidable p] [Decidable q] (h : p ↔ q) : (if p then (1 : Int) else 0) = if q then 1 else 0 := by
  by_cases hp : p
  · rw [if_pos hp, if_pos (h.1 hp)]
  · rw [if_neg hp, if_neg fun hq => hp (h.2 hq)]
theorem wE_joins {N : Nat} {e : Ed} (he : GoodE N e) (i j : Nat) : wE e i j = if joins i j e = true then 1 else 0 := by
  have := he.ne
  unfold wE joins
  by_cases h1 : e.a = (i : Int) ∧ e.b = (j : Int)
  · rw [if_pos h1, if_neg (by omega), if_pos (by simp [h1])]; rfl
  · by_cases h2 : e.a = (j : Int) ∧ e.b = (i : Int)
    · rw [if_neg h1, if_pos h2, if_pos (by simp [h2])]; rfl
    · rw [if_neg h1, if_neg h2, if_neg fun h => (of_decide_eq_true h).elim h1 h2]; rfl
theorem joins_pair {i j : Nat} {e f : Ed} (h1 : joins i j e = true) (h2 : joins i j f = true) : (e.pair == f.pair) = true := by
  unfold joins at h1 h2
  have h1 := of_decide_eq_true h1
  have h2 := of_decide_eq_true h2
  unfold Ed.pair
  rw [beq_iff_eq, Prod.mk.injEq]
  omega
theorem wL_adj {N : Nat} : ∀ {l : List Ed}, (∀ e ∈ l, GoodE N e) → l.Pairwise (fun e f => (e.pair == f.pair) = false) → ∀ i j, wL l i j = if adj l i j = true then 1 else 0
  | [], _, _, i, j => rfl
  | e :: l, he, hp, i, j => by
    have ih := wL_adj (l := l) (fun f hf => he f (by simp [hf])) hp.of_cons i j
    have hE := wE_joins (he e (by simp)) i j
    rw [wL, hE, ih]
    show _ = if (joins i j e || adj l i j) = true then 1 else 0
    cases h1 : joins i j e with
    | false => simp
    | true =>
      have h2 : adj l i j = false := by
        unfold adj
        rw [List.any_eq_false]
        intro f hf h
        have := (List.pairwise_cons.1 hp).1 f hf
        rw [joins_pair h1 h] at this
        cases this
      rw [h2]
      rfl
section
variable {N : Nat} {l : List Ed}
theorem GoodG.one (hg : GoodG N l) (i j : Nat) : wL l i j ≤ 1 := by
  rw [wL_adj hg.ed hg.nd]; split <;> decide
theorem GoodG.link (hg : GoodG N l) {i j : Nat} (h : Adj l i j) : 0 < wL l i j := by
  rw [wL_adj hg.ed hg.nd, if_pos (show adj l i j = true from h)]; decide
theorem GoodG.self (hg : GoodG N l) (i : Nat) : wL l i i = 0 := by
  rw [wL_adj hg.ed hg.nd, if_neg]
  intro h
  unfold adj at h
  obtain ⟨e, he, hj⟩ := List.any_eq_true.1 h
  have h1 := of_decide_eq_true hj
  have := (hg.ed e he).ne
  omega
end
/-- So many edges from each. -/
theorem sm_len {g : Nat → Int} (h : ∀ i, g i ≤ 1) : ∀ Y : List Nat, sm g Y ≤ Y.length
  | [] => Int.le_refl _
  | y :: Y => by
    have := h y
    have := sm_len h Y
    rw [sm, List.length_cons]
    omega
theorem sm_deg {w : Nat → Nat → Int} (h1 : ∀ i j, w i j ≤ 1) (h0 : ∀ i, w i i = 0) {k : Nat} {Y : List Nat} (hk : k ∈ Y) : sm (w k) Y ≤ (Y.length : Int) - 1 := by
  have hp := List.perm_cons_erase hk
  rw [sm_perm (w k) hp, sm, h0, hp.length_eq, List.length_cons]
  have := sm_len (h1 k) (Y.erase k)
  omega
/-! Edges between two words. -/
def btB (x y : BitVec 32) (e : Ed) : Bool := (bitB x e.a && bitB y e.b) || (bitB x e.b && bitB y e.a)
theorem sm_zero {g : Nat → Int} : ∀ {Y : List Nat}, (∀ i ∈ Y, g i = 0) → sm g Y = 0
  | [], _ => rfl
  | y :: Y, h => by rw [sm, h y (by simp), sm_zero fun i hi => h i (by simp [hi])]; rfl
theorem sm_congr {f g : Nat → Int} : ∀ {Y : List Nat}, (∀ i ∈ Y, f i = g i) → sm f Y = sm g Y
  | [], _ => rfl
  | y :: Y, h => by rw [sm, sm, h y (by simp), sm_congr fun i hi => h i (by simp [hi])]
/-- One of a list. -/
theorem sm_ind (c : Nat) (q : Bool) : ∀ {Y : List Nat}, Y.Nodup → sm (fun i => if (decide (c = i) && q) = true then 1 else 0) Y = if (decide (c ∈ Y) && q) = true then 1 else 0
  | [], _ => by simp [sm]
  | y :: Y, h => by
    have h1 := List.nodup_cons.1 h
    rw [sm, sm_ind c q h1.2]
    by_cases e : c = y
    · subst e
      cases q <;> simp [h1.1]
    · cases q <;> simp [e]
theorem ee_add (w v : Nat → Nat → Int) (k : List Nat) : ∀ h, ee (fun i j => w i j + v i j) h k = ee w h k + ee v h k
  | [] => rfl
  | x :: h => by
    have := ee_add w v k h
    unfold ee at this ⊢
    rw [sm, sm, sm, this, sm_add]
    omega
theorem wE_ee {N : Nat} {e : Ed} (he : GoodE N e) {x y : BitVec 32} {h k : List Nat} (hh : h.Nodup) (hk : k.Nodup) (hx : ∀ i, i ∈ h ↔ x.getLsbD i = true) (hy : ∀ i, i ∈ k ↔ y.getLsbD i = true) (hd : ∀ i ∈ h, i ∉ k) : ee (wE e) h k = if btB x y e = true then 1 else 0 := by
  obtain ⟨a, ha⟩ := Int.eq_ofNat_of_zero_le he.a0
  obtain ⟨b, hb⟩ := Int.eq_ofNat_of_zero_le he.b0
  have hw : ∀ i j, wE e i j = (if (decide (b = j) && decide (a = i)) = true then 1 else 0) + (if (decide (a = j) && decide (b = i)) = true then 1 else 0) := fun i j => by
    unfold wE
    rw [ha, hb]
    congr 1
    · exact ite_same (by rw [Bool.and_eq_true, decide_eq_true_iff, decide_eq_true_iff]; omega)
    · exact ite_same (by rw [Bool.and_eq_true, decide_eq_true_iff, decide_eq_true_iff]; omega)
  have h1 : ∀ i, sm (wE e i) k = (if (decide (a = i) && decide (b ∈ k)) = true then 1 else 0) + (if (decide (b = i) && decide (a ∈ k)) = true then 1 else 0) := fun i => by
    rw [show wE e i = fun j => (if (decide (b = j) && decide (a = i)) = true then 1 else 0) + (if (decide (a = j) && decide (b = i)) = true then 1 else 0) from funext (hw i), sm_add, sm_ind b _ hk, sm_ind a _ hk, Bool.and_comm, Bool.and_comm (decide (a ∈ k))]
  unfold ee
  rw [show (fun i => sm (wE e i) k) = fun i => (if (decide (a = i) && decide (b ∈ k)) = true then 1 else 0) + (if (decide (b = i) && decide (a ∈ k)) = true then 1 else 0) from funext h1, sm_add, sm_ind a _ hh, sm_ind b _ hh]
  have exa : bitB x e.a = decide (a ∈ h) := by rw [ha]; show bitB x ((a : Nat) : Int) = _; rw [bitB_nat, Bool.eq_iff_iff, decide_eq_true_iff]; exact (hx a).symm
  have exb : bitB x e.b = decide (b ∈ h) := by rw [hb]; show bitB x ((b : Nat) : Int) = _; rw [bitB_nat, Bool.eq_iff_iff, decide_eq_true_iff]; exact (hx b).symm
  have eya : bitB y e.a = decide (a ∈ k) := by rw [ha]; show bitB y ((a : Nat) : Int) = _; rw [bitB_nat, Bool.eq_iff_iff, decide_eq_true_iff]; exact (hy a).symm
  have eyb : bitB y e.b = decide (b ∈ k) := by rw [hb]; show bitB y ((b : Nat) : Int) = _; rw [bitB_nat, Bool.eq_iff_iff, decide_eq_true_iff]; exact (hy b).symm
  unfold btB
  rw [exa, exb, eya, eyb]
  have d1 := hd a
  have d2 := hd b
  by_cases q1 : a ∈ h <;> by_cases q2 : b ∈ k <;> by_cases q3 : b ∈ h <;> by_cases q4 : a ∈ k <;> simp_all
theorem wL_ee {N : Nat} : ∀ {l : List Ed}, (∀ e ∈ l, GoodE N e) → ∀ {x y : BitVec 32} {h k : List Nat}, h.Nodup → k.Nodup → (∀ i, i ∈ h ↔ x.getLsbD i = true) → (∀ i, i ∈ k ↔ y.getLsbD i = true) → (∀ i ∈ h, i ∉ k) → ee (wL l) h k = (l.countP (btB x y) : Int)
  | [], _, x, y, h, k, _, _, _, _, _ => by
    show sm (fun i => sm (fun _ => 0) k) h = 0
    exact sm_zero fun i _ => sm_zero fun _ _ => rfl
  | e :: l, he, x, y, h, k, hh, hk, hx, hy, hd => by
    have h1 := wE_ee (he e (by simp)) hh hk hx hy hd
    have h2 := wL_ee (l := l) (fun f hf => he f (by simp [hf])) hh hk hx hy hd
    show ee (fun i j => wE e i j + wL l i j) h k = _
    rw [ee_add, h1, h2, List.countP_cons]
    cases btB x y e <;> simp <;> omega
theorem bn_word {N s : Nat} (hN : N ≤ 32) (hs : s < 2 ^ N) (i : Nat) : i ∈ bn s N ↔ (nw s).getLsbD i = true := by rw [(bn_bits hN hs).mem_iff, mem_bitsL]
/-- What the reference counts between a part of a word and the rest. -/
theorem between_is {N : Nat} {l : List Ed} (hg : GoodG N l) {s a : Nat} (hs : s < 2 ^ N) (ha : a &&& s = a) : ee (wL l) (bn a N) (bn (s - a) N) = (l.countP (btB (nw a) (nw (s - a))) : Int) := by
  have h10 := hg.n10
  have hle := @Nat.and_le_right a s
  rw [ha] at hle
  have hp := bn_parts hs ha
  have hnd := hp.nodup_iff.2 (bn_nodup s N)
  have hd := List.nodup_append.1 hnd
  exact wL_ee hg.ed hd.1 hd.2.1 (bn_word (by omega) (by omega)) (bn_word (by omega) (by omega)) fun i hi hk => hd.2.2 i hi i hk rfl
end Go.Proofs.YtbbdiondhnmnaaaDoor
