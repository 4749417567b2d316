/- Trees and their edges: each tree is counted once for each of its edges. Conditions: the weights are the same both ways. -/
import Derived.Test.YtbbdiondhnmnaaaDoorSpanMany8
namespace Go.Proofs.YtbbdiondhnmnaaaDoor

/-- Trees on a list. -/
def D (w : Nat → Nat → Int) : List Nat → Int
  | [] => 0
  | r :: X => Z w X (w r)
/-- The edges between two lists. -/
def ee (w : Nat → Nat → Int) (h k : List Nat) : Int := sm (fun i => sm (w i) k) h
theorem ee_nil (w : Nat → Nat → Int) : ∀ h, ee w h [] = 0
  | [] => rfl
  | x :: h => by
    have := ee_nil w h
    unfold ee at this ⊢
    rw [sm, this]
    rfl
theorem ee_cons (w : Nat → Nat → Int) (x : Nat) (k : List Nat) : ∀ h, ee w h (x :: k) = sm (fun i => w i x) h + ee w h k
  | [] => rfl
  | y :: h => by
    have := ee_cons w x k h
    unfold ee at this ⊢
    rw [sm, this, sm, sm, sm]
    omega
theorem ee_symm {w : Nat → Nat → Int} (hw : ∀ i j, w i j = w j i) : ∀ h k, ee w h k = ee w k h
  | [], k => by rw [ee_nil]; rfl
  | x :: h, k => by
    rw [ee_cons, ← ee_symm hw h k]
    unfold ee
    rw [sm, show (fun i => w i x) = w x from funext fun i => hw i x]
theorem D_perm {w : Nat → Nat → Int} (hw : ∀ i j, w i j = w j i) {X Y : List Nat} (h : X.Perm Y) : D w X = D w Y := by
  induction h with
  | nil => rfl
  | cons x hp _ => exact Z_perm hw _ (Nat.le_refl _) hp _
  | swap x y X => exact Z_root hw y x X
  | trans _ _ ih1 ih2 => exact ih1.trans ih2
/-- One mark on a branch. -/
theorem Z_mark (w : Nat → Nat → Int) (c g : Nat → Int) : ∀ (n : Nat) (X : List Nat), X.length ≤ n → sm c X * Z w X g = sp X fun Q R => sm g Q * (sm c Q * (D w Q * Z w R g))
  | _, [], _ => by simp [sp, sm]
  | 0, a :: X, h => by simp at h
  | n + 1, a :: X, h => by
    simp only [List.length_cons] at h
    rw [sp]
    have e2 : sp X (fun U V => sm g U * (sm c U * (D w U * Z w (a :: V) g))) = sp X fun U W => sm g (a :: U) * (sm c W * (Z w U (w a) * Z w W g)) := by
      have : sp X (fun Q R => sm g Q * (sm c Q * (D w Q * Z w (a :: R) g))) = sp X fun Q R => sp R fun U V => sm g (a :: U) * (Z w U (w a) * (sm g Q * (sm c Q * (D w Q * Z w V g)))) := sp_congr fun Q R _ => by
        rw [Z_cons, ← sp_mul, ← sp_mul, ← sp_mul]
        exact sp_congr fun U V _ => by grind
      rw [this, sp_turn X fun Q U V => sm g (a :: U) * (Z w U (w a) * (sm g Q * (sm c Q * (D w Q * Z w V g))))]
      refine sp_congr fun U W hl => ?_
      rw [sp_mul, sp_mul, ← Z_mark w c g n W (by omega)]
      grind
    rw [e2, ← sp_add, Z_cons, sm]
    have e3 := sp_sm c X fun U V => sm g (a :: U) * (Z w U (w a) * Z w V g)
    rw [sp_mul] at e3
    rw [Int.add_mul, e3, ← sp_mul, ← sp_add]
    exact sp_congr fun U V _ => by
      show _ = sm g (a :: U) * (sm c (a :: U) * (Z w U (w a) * Z w V g)) + _
      rw [sm_cons_app c a U]
      grind
theorem sm_one : ∀ X : List Nat, sm (fun _ => 1) X = X.length
  | [] => rfl
  | x :: X => by rw [sm, sm_one X, List.length_cons]; omega
theorem edges_both {w : Nat → Nat → Int} (hw : ∀ i j, w i j = w j i) : ∀ n : Nat,
    (∀ s : List Nat, s.length ≤ n → sp s (fun h k => D w h * (D w k * ee w h k)) = 2 * ((s.length : Int) - 1) * D w s) ∧
    (∀ (Y : List Nat) (g : Nat → Int), Y.length ≤ n → sp Y (fun H k => Z w H g * (D w k * (sm g k + ee w H k))) = Y.length * Z w Y g) := by
  intro n
  induction n with
  | zero =>
    refine ⟨fun s h => ?_, fun Y g h => ?_⟩
    · obtain rfl : s = [] := List.eq_nil_of_length_eq_zero (by omega)
      simp [sp, D]
    · obtain rfl : Y = [] := List.eq_nil_of_length_eq_zero (by omega)
      simp [sp, D]
  | succ n ih =>
    have hE : ∀ s : List Nat, s.length ≤ n + 1 → sp s (fun h k => D w h * (D w k * ee w h k)) = 2 * ((s.length : Int) - 1) * D w s := by
      intro s hs
      match s, hs with
      | [], _ => simp [sp, D]
      | v :: Y, hs =>
        simp only [List.length_cons] at hs
        have h1 := ih.2 Y (w v) (by omega)
        rw [sp]
        have e1 : sp Y (fun U V => D w (v :: U) * (D w V * ee w (v :: U) V)) = Y.length * Z w Y (w v) := by rw [← h1]; rfl
        have e2 : sp Y (fun U V => D w U * (D w (v :: V) * ee w U (v :: V))) = Y.length * Z w Y (w v) := by
          rw [← e1, ← sp_flip Y fun U V => D w (v :: U) * (D w V * ee w (v :: U) V)]
          exact sp_congr fun U V _ => by rw [ee_symm hw U (v :: V)]; grind
        rw [e1, e2]
        show _ = 2 * (((Y.length + 1 : Nat) : Int) - 1) * Z w Y (w v)
        grind
    refine ⟨hE, fun Y g hY => ?_⟩
    have e1 : sp Y (fun H k => Z w H g * (D w k * (sm g k + ee w H k))) = sp Y (fun H k => sm g k * (D w k * Z w H g)) + sp Y (fun H k => D w k * (ee w H k * Z w H g)) := by
      rw [← sp_add]
      exact sp_congr fun U V _ => by grind
    have e2 : sp Y (fun H k => D w k * (ee w H k * Z w H g)) = sp Y fun R W => Z w R g * (sm g W * (((W.length : Int) - 1) * D w W)) := by
      have a1 : sp Y (fun H k => D w k * (ee w H k * Z w H g)) = sp Y fun k H => sp H fun Q R => D w k * (sm g Q * (ee w Q k * (D w Q * Z w R g))) := by
        rw [← sp_flip Y fun H k => D w k * (ee w H k * Z w H g)]
        refine sp_congr fun k H _ => ?_
        unfold ee
        rw [Z_mark w (fun i => sm (w i) k) g H.length H (Nat.le_refl _), ← sp_mul]
      rw [a1, sp_assoc Y fun k Q R => D w k * (sm g Q * (ee w Q k * (D w Q * Z w R g))), ← sp_flip Y]
      refine sp_congr fun R W hl => ?_
      have b1 := hE W (by omega)
      have b2 := sp_sm g W fun k Q => D w k * (D w Q * ee w k Q)
      rw [sp_mul, b1] at b2
      have b3 : sp W (fun k Q => (sm g k + sm g Q) * (D w k * (D w Q * ee w k Q))) = sp W (fun k Q => sm g k * (D w k * (D w Q * ee w k Q))) + sp W (fun k Q => sm g Q * (D w k * (D w Q * ee w k Q))) := by
        rw [← sp_add]
        exact sp_congr fun U V _ => by grind
      have b4 : sp W (fun k Q => sm g k * (D w k * (D w Q * ee w k Q))) = sp W (fun k Q => sm g Q * (D w k * (D w Q * ee w k Q))) := by
        rw [← sp_flip W fun k Q => sm g k * (D w k * (D w Q * ee w k Q))]
        exact sp_congr fun U V _ => by rw [ee_symm hw U V]; grind
      rw [b3, b4] at b2
      have b5 : sp W (fun k Q => D w k * (sm g Q * (ee w Q k * (D w Q * Z w R g)))) = Z w R g * sp W (fun k Q => sm g Q * (D w k * (D w Q * ee w k Q))) := by
        rw [← sp_mul]
        exact sp_congr fun U V _ => by rw [ee_symm hw U V]; grind
      rw [b5]
      have : sp W (fun k Q => sm g Q * (D w k * (D w Q * ee w k Q))) = sm g W * (((W.length : Int) - 1) * D w W) := by grind
      rw [this]
    rw [e1, e2, ← sp_flip Y fun H k => sm g k * (D w k * Z w H g), ← sp_flip Y fun R W => Z w R g * (sm g W * (((W.length : Int) - 1) * D w W)), ← sp_add, ← sm_one Y, Z_mark w (fun _ => 1) g Y.length Y (Nat.le_refl _)]
    exact sp_congr fun U V _ => by rw [sm_one]; grind
/-- The trees of a list, each counted twice for each of its edges: by the two parts that the edge links. -/
theorem trees_edges {w : Nat → Nat → Int} (hw : ∀ i j, w i j = w j i) (s : List Nat) : sp s (fun h k => D w h * (D w k * ee w h k)) = 2 * ((s.length : Int) - 1) * D w s := (edges_both hw s.length).1 s (Nat.le_refl _)
end Go.Proofs.YtbbdiondhnmnaaaDoor
