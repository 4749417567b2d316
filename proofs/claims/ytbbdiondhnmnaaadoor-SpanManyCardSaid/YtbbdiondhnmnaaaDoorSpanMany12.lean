/- The program's matrix: its leading minors are counts of forests. Conditions: the weights are the same both ways, not below 0, none from one to itself. -/
import Derived.Test.YtbbdiondhnmnaaaDoorSpanMany11
import Derived.Test.YtbbdiondhnmnaaaDoorSpanMany2
namespace Go.Proofs.YtbbdiondhnmnaaaDoor

/-- The weights to the nodes of a list. -/
def to_ (w : Nat → Nat → Int) (Y : List Nat) : Nat → Int := fun i => sm (w i) Y
theorem to_nonneg {w : Nat → Nat → Int} (hp : ∀ i j, 0 ≤ w i j) (Y : List Nat) (i : Nat) : 0 ≤ to_ w Y i := sm_nonneg (hp i) Y
/-- Of a prefix: the ground is the root and what is behind the prefix. -/
theorem lead_prefix {w : Nat → Nat → Int} (hw : ∀ i j, w i j = w j i) (h0 : ∀ i, w i i = 0) (r : Nat) (L Q : List Nat) (hnd : (L ++ Q).Nodup) :
    lead (LM w (L ++ Q) (to_ w [r])) L = Z w L (to_ w (r :: Q)) := by
  rw [← (det_forests hw h0 L.length).1 L (to_ w (r :: Q)) (Nat.le_refl _) (List.nodup_append.1 hnd).1]
  refine det_entries (colM _) (colM _) L L fun a ha b hb => ?_
  show LM w (L ++ Q) (to_ w [r]) a b = LM w L (to_ w (r :: Q)) a b
  unfold LM to_
  split
  · rw [sm_app, sm, sm, sm]; omega
  · rfl
/-- All of a part hang together: every set of its nodes without the root has an edge out of it. -/
theorem hangs_prefix {w : Nat → Nat → Int} (hp : ∀ i j, 0 ≤ w i j) (r : Nat) (L Q : List Nat) (hc : ∀ P : Nat → Prop, (∃ x ∈ L ++ Q, P x) → ¬ P r → ∃ y ∈ L ++ Q, P y ∧ ∃ z ∈ r :: (L ++ Q), ¬ P z ∧ 0 < w y z) (hr : r ∉ L ++ Q) (hnd : (L ++ Q).Nodup) : Hangs w L (to_ w (r :: Q)) := fun P ⟨x, hx, hPx⟩ => by
  have hrL : r ∉ L := fun h => hr (List.mem_append_left _ h)
  obtain ⟨y, hy, ⟨hyL, hPy⟩, z, hz, hnz, hwz⟩ := hc (fun i => i ∈ L ∧ P i) ⟨x, List.mem_append_left _ hx, hx, hPx⟩ fun h => hrL h.1
  refine ⟨y, hyL, hPy, ?_⟩
  have hto : ∀ Y : List Nat, z ∈ Y → 0 < sm (w y) Y := fun Y => by
    induction Y with
    | nil => intro h; simp at h
    | cons a Y ih =>
      intro h
      rw [sm]
      rcases List.mem_cons.1 h with rfl | h
      · have := sm_nonneg (hp y) Y; omega
      · have := ih h; have := hp y a; omega
  by_cases hzL : z ∈ L
  · exact .inr ⟨z, hzL, fun h => hnz ⟨hzL, h⟩, hwz⟩
  · left
    refine hto (r :: Q) ?_
    rcases List.mem_cons.1 hz with h | h
    · simp [h]
    · rcases List.mem_append.1 h with h | h
      · exact absurd h hzL
      · simp [h]
theorem nz_part {w : Nat → Nat → Int} (hw : ∀ i j, w i j = w j i) (h0 : ∀ i, w i i = 0) (hp : ∀ i j, 0 ≤ w i j) (r : Nat) (X : List Nat) (hr : r ∉ X) (hnd : X.Nodup)
    (hc : ∀ P : Nat → Prop, (∃ x ∈ X, P x) → ¬ P r → ∃ y ∈ X, P y ∧ ∃ z ∈ r :: X, ¬ P z ∧ 0 < w y z) : NZ (LM w X (to_ w [r])) X := fun L Q e => by
  subst e
  rw [lead_prefix hw h0 r L Q hnd]
  have := Z_some hw hp L.length L (to_ w (r :: Q)) (Nat.le_refl _) (List.nodup_append.1 hnd).1 (to_nonneg hp _) (hangs_prefix hp r L Q hc hr hnd)
  omega
end Go.Proofs.YtbbdiondhnmnaaaDoor

/- The sizes of the elimination's numbers. Conditions: the weights are the same both ways, not below 0, none from one to itself, at most so many from each. -/
namespace Go.Proofs.YtbbdiondhnmnaaaDoor

theorem LM_perm (w : Nat → Nat → Int) {X Y : List Nat} (h : X.Perm Y) (g : Nat → Int) : LM w X g = LM w Y g := by
  funext i j
  unfold LM
  rw [sm_perm (w i) h]
theorem brd_size {w : Nat → Nat → Int} (hw : ∀ i j, w i j = w j i) (h0 : ∀ i, w i i = 0) (hp : ∀ i j, 0 ≤ w i j) {b : Int} (hb : 0 ≤ b) (r : Nat) (L Q : List Nat) (hnd : (L ++ Q).Nodup) (hbd : ∀ k ∈ L ++ Q, sm (w k) (r :: (L ++ Q)) ≤ b) (i j : Nat) (hi : i ∈ Q) (hj : j ∈ Q) :
    - b ^ (L.length + 1) ≤ brd (LM w (L ++ Q) (to_ w [r])) L i j ∧ brd (LM w (L ++ Q) (to_ w [r])) L i j ≤ b ^ (L.length + 1) := by
  have hbp : 0 ≤ b ^ (L.length + 1) := Int.pow_nonneg hb
  have hL := (List.nodup_append.1 hnd).1
  have hdis := (List.nodup_append.1 hnd).2.2
  by_cases hij : i = j
  · subst hij
    have hp1 := List.perm_cons_erase hi
    have hX : (L ++ Q).Perm ((L ++ [i]) ++ Q.erase i) := by
      rw [List.append_assoc]
      exact List.Perm.append_left L hp1
    rw [LM_perm w hX, ← lead_snoc, lead_prefix hw h0 r (L ++ [i]) (Q.erase i) (hX.nodup_iff.1 hnd)]
    have h1 := Z_nonneg hp (L ++ [i]) (to_nonneg hp (r :: Q.erase i))
    have h2 := Z_le hw hp hb (L ++ [i]) (to_ w (r :: Q.erase i)) (to_nonneg hp _) fun k hk => by
      have := hbd k (hX.mem_iff.2 (List.mem_append_left _ hk))
      rw [sm_perm (w k) (hX.cons r), sm, sm_app] at this
      show sm (w k) (r :: Q.erase i) + _ ≤ b
      rw [sm]
      omega
    rw [List.length_append, List.length_singleton] at h2
    omega
  · have hp1 := List.perm_cons_erase hj
    have hgs : ∀ k, to_ w (r :: Q.erase j) k + w j k = to_ w (r :: Q) k := fun k => by
      show sm (w k) (r :: Q.erase j) + _ = sm (w k) (r :: Q)
      rw [sm, sm, sm_perm (w k) hp1, sm, hw j k]
      omega
    have hnL : ∀ a ∈ Q, a ∉ L := fun a ha h => hdis a h a ha rfl
    have h1 := brd_off_le hw h0 hp (LM w (L ++ Q) (to_ w [r])) L i j (to_ w (r :: Q.erase j)) (to_nonneg hp _) hL
      (fun a ha c hc => by
        rw [show (fun k => to_ w (r :: Q.erase j) k + w j k) = to_ w (r :: Q) from funext hgs]
        unfold LM to_
        split
        · rw [sm_app, sm, sm, sm]; omega
        · rfl)
      (by unfold LM; rw [if_neg hij])
      (fun x hx => by unfold LM; rw [if_neg fun e => hnL i hi (by rw [e]; exact hx)])
      (fun x hx => by unfold LM; rw [if_neg fun e => hnL j hj (by rw [← e]; exact hx), hw x j])
    rw [show (fun k => to_ w (r :: Q.erase j) k + w j k) = to_ w (r :: Q) from funext hgs] at h1
    have hZ0 := Z_nonneg hp L (to_nonneg hp (r :: Q))
    have hZ := Z_le hw hp hb L (to_ w (r :: Q)) (to_nonneg hp _) fun k hk => by
      have := hbd k (List.mem_append_left _ hk)
      rw [sm, sm_app] at this
      show sm (w k) (r :: Q) + _ ≤ b
      rw [sm]
      omega
    have hd : w i j + sm (w i) L ≤ b := by
      have := hbd i (List.mem_append_right _ hi)
      rw [sm, sm_app, sm_perm (w i) hp1, sm] at this
      have := hp i r
      have := sm_nonneg (hp i) (Q.erase j)
      omega
    have h3 : (w i j + sm (w i) L) * Z w L (to_ w (r :: Q)) ≤ b ^ (L.length + 1) := by
      rw [Int.pow_succ, Int.mul_comm (b ^ L.length)]
      exact Int.le_trans (Int.mul_le_mul_of_nonneg_right hd hZ0) (Int.mul_le_mul_of_nonneg_left hZ hb)
    omega
end Go.Proofs.YtbbdiondhnmnaaaDoor

/- Words that count, and the one bit at a place. Conditions: none. -/
namespace Go.Proofs.YtbbdiondhnmnaaaDoor
open Go.RowKit

def nw (k : Nat) : BitVec 32 := BitVec.ofNat 32 k
theorem wN_nw {k : Nat} (h : k < 4294967296) : wN (nw k) = k := by
  unfold wN nw
  rw [BitVec.toNat_ofNat]
  omega
theorem nw_succ (k : Nat) : wAdd (nw k) w1 = nw (k + 1) := by
  unfold wAdd w1 nw
  apply BitVec.eq_of_toNat_eq
  simp
theorem wN_pow {n : Nat} (h : n < 32) : wN (wShl w1 n) = (2 ^ n : Nat) := by
  unfold wN
  rw [wN_shl1 h]
theorem shr_and1_eq0 (x : BitVec 32) (i : Nat) : (wAnd (wShr x i) w1 == w0) = !bitB x i := by
  rw [bitB_nat, Bool.eq_iff_iff, beq_iff_eq]
  constructor
  · intro h
    have := congrArg (fun v => v.getLsbD 0) h
    simp only [b_and, b_shr, b_1, b_0, Nat.add_zero, decide_true, Bool.and_true] at this
    rw [this]
    rfl
  · intro h
    apply w_ext
    intro m _
    rw [b_and, b_shr, b_1, b_0]
    by_cases hm : m = 0
    · subst hm
      simpa using h
    · simp [hm]
theorem nw_toNat (x : BitVec 32) : nw x.toNat = x := by
  unfold nw
  exact BitVec.ofNat_toNat 32 x |>.trans (by simp)

end Go.Proofs.YtbbdiondhnmnaaaDoor
