/- Forests on the ground, counted by branches, in plain Lean. Conditions: none. -/
import Derived.Test.YtbbdiondhnmnaaaDoorSpanMany6
namespace Go.Proofs.YtbbdiondhnmnaaaDoor

/-! Sums over the parts of a list. -/
def sp : List Nat → (List Nat → List Nat → Int) → Int
  | [], F => F [] []
  | x :: X, F => sp X (fun U V => F (x :: U) V) + sp X (fun U V => F U (x :: V))
theorem sp_congr : ∀ {X : List Nat} {F G : List Nat → List Nat → Int}, (∀ U V, U.length + V.length = X.length → F U V = G U V) → sp X F = sp X G
  | [], F, G, h => h [] [] rfl
  | x :: X, F, G, h => by
    rw [sp, sp, sp_congr fun U V hl => h (x :: U) V (by simp; omega), sp_congr fun U V hl => h U (x :: V) (by simp; omega)]
theorem sp_add : ∀ (X : List Nat) (F G : List Nat → List Nat → Int), sp X (fun U V => F U V + G U V) = sp X F + sp X G
  | [], F, G => rfl
  | x :: X, F, G => by
    rw [sp, sp, sp, sp_add X (fun U V => F (x :: U) V) (fun U V => G (x :: U) V), sp_add X (fun U V => F U (x :: V)) (fun U V => G U (x :: V))]
    omega
theorem sp_mul (c : Int) : ∀ (X : List Nat) (F : List Nat → List Nat → Int), sp X (fun U V => c * F U V) = c * sp X F
  | [], F => rfl
  | x :: X, F => by
    rw [sp, sp, sp_mul c X, sp_mul c X, Int.mul_add]
theorem sp_flip : ∀ (X : List Nat) (F : List Nat → List Nat → Int), sp X (fun U V => F V U) = sp X F
  | [], F => rfl
  | x :: X, F => by
    rw [sp, sp, sp_flip X (fun V U => F V (x :: U)), sp_flip X (fun V U => F (x :: V) U)]
    omega
theorem sp_assoc : ∀ (X : List Nat) (F : List Nat → List Nat → List Nat → Int), sp X (fun U V => sp V (fun S T => F U S T)) = sp X (fun W T => sp W (fun U S => F U S T))
  | [], F => rfl
  | x :: X, F => by
    rw [sp, sp]
    simp only [sp]
    rw [sp_add, sp_add, sp_assoc X (fun U S T => F (x :: U) S T), sp_assoc X (fun U S T => F U (x :: S) T), sp_assoc X (fun U S T => F U S (x :: T))]
    omega
/-- Three parts, the first two changed about. -/
theorem sp_turn (X : List Nat) (F : List Nat → List Nat → List Nat → Int) : sp X (fun U V => sp V (fun S T => F U S T)) = sp X (fun S V => sp V (fun U T => F U S T)) := by
  rw [sp_assoc, sp_assoc X (fun S U T => F U S T)]
  exact sp_congr fun W T _ => (sp_flip W fun U S => F U S T).symm

/-- The weights of a part. -/
def sm (g : Nat → Int) : List Nat → Int
  | [] => 0
  | x :: X => g x + sm g X
theorem sm_add (p q : Nat → Int) : ∀ X, sm (fun i => p i + q i) X = sm p X + sm q X
  | [] => rfl
  | x :: X => by rw [sm, sm, sm, sm_add p q X]; omega
/-- Forests on the ground: the first one's branch, and the others. -/
def Zf (w : Nat → Nat → Int) : Nat → List Nat → (Nat → Int) → Int
  | 0, _, _ => 1
  | _ + 1, [], _ => 1
  | n + 1, a :: X, g => sp X fun U V => sm g (a :: U) * (Zf w n U (w a) * Zf w n V g)
theorem Zf_fuel (w : Nat → Nat → Int) : ∀ (n m : Nat) (X : List Nat) (g : Nat → Int), X.length ≤ n → X.length ≤ m → Zf w n X g = Zf w m X g
  | 0, 0, _, _, _, _ => rfl
  | 0, m + 1, [], _, _, _ => rfl
  | n + 1, 0, [], _, _, _ => rfl
  | n + 1, m + 1, [], _, _, _ => rfl
  | 0, m + 1, a :: X, _, h, _ => by simp at h
  | n + 1, 0, a :: X, _, _, h => by simp at h
  | n + 1, m + 1, a :: X, g, h, h' => by
    rw [Zf, Zf]
    simp only [List.length_cons] at h h'
    exact sp_congr fun U V hl => by rw [Zf_fuel w n m U _ (by omega) (by omega), Zf_fuel w n m V _ (by omega) (by omega)]
def Z (w : Nat → Nat → Int) (X : List Nat) (g : Nat → Int) : Int := Zf w X.length X g
theorem Z_nil (w : Nat → Nat → Int) (g : Nat → Int) : Z w [] g = 1 := rfl
theorem Z_cons (w : Nat → Nat → Int) (a : Nat) (X : List Nat) (g : Nat → Int) : Z w (a :: X) g = sp X fun U V => sm g (a :: U) * (Z w U (w a) * Z w V g) := by
  show Zf w (X.length + 1) (a :: X) g = _
  rw [Zf]
  exact sp_congr fun U V hl => by rw [Z, Z, Zf_fuel w X.length U.length U _ (by omega) (Nat.le_refl _), Zf_fuel w X.length V.length V _ (by omega) (Nat.le_refl _)]
/-- Two grounds: who hangs on which. -/
theorem Z_split (w : Nat → Nat → Int) (p q : Nat → Int) : ∀ (n : Nat) (X : List Nat), X.length ≤ n → Z w X (fun i => p i + q i) = sp X fun U V => Z w U q * Z w V p
  | _, [], _ => rfl
  | 0, a :: X, h => by simp at h
  | n + 1, a :: X, h => by
    simp only [List.length_cons] at h
    rw [Z_cons, sp]
    have e1 : sp X (fun U V => Z w (a :: U) q * Z w V p) = sp X fun Y V => sp V fun S T => sm q (a :: Y) * (Z w Y (w a) * (Z w S q * Z w T p)) := by
      rw [sp_assoc]
      refine sp_congr fun W T _ => ?_
      rw [Z_cons, Int.mul_comm, ← sp_mul]
      exact sp_congr fun U S _ => by grind
    have e2 : sp X (fun U V => Z w U q * Z w (a :: V) p) = sp X fun Y V => sp V fun S T => sm p (a :: Y) * (Z w Y (w a) * (Z w S q * Z w T p)) := by
      rw [sp_turn]
      refine sp_congr fun S V _ => ?_
      rw [Z_cons, ← sp_mul]
      exact sp_congr fun U T _ => by grind
    rw [e1, e2, ← sp_add]
    refine sp_congr fun Y V hl => ?_
    rw [Z_split w p q n V (by omega), sm_add, ← sp_mul, ← sp_mul, ← sp_add]
    exact sp_congr fun S T _ => by grind
/-- One edge of the one ground to those that hang on the other. -/
def Phi (w : Nat → Nat → Int) (X : List Nat) (p q : Nat → Int) : Int := sp X fun U V => sm p U * (Z w U q * Z w V p)
theorem sm_cons_app (p : Nat → Int) (y : Nat) (U : List Nat) : sm p (y :: U) = p y + sm p U := rfl
/-- A sum over a part is that over its parts. -/
theorem sp_sm (p : Nat → Int) : ∀ (X : List Nat) (F : List Nat → List Nat → Int), sp X (fun U V => sm p X * F U V) = sp X fun U V => (sm p U + sm p V) * F U V
  | [], F => by simp [sp, sm]
  | x :: X, F => by
    rw [sp, sp]
    have h1 := sp_sm p X fun U V => F (x :: U) V
    have h2 := sp_sm p X fun U V => F U (x :: V)
    rw [sp_mul] at h1 h2 ⊢
    rw [sp_mul]
    have e1 : sp X (fun U V => (sm p (x :: U) + sm p V) * F (x :: U) V) = p x * sp X (fun U V => F (x :: U) V) + sp X (fun U V => (sm p U + sm p V) * F (x :: U) V) := by
      rw [← sp_mul, ← sp_add]
      exact sp_congr fun U V _ => by rw [sm]; grind
    have e2 : sp X (fun U V => (sm p U + sm p (x :: V)) * F U (x :: V)) = p x * sp X (fun U V => F U (x :: V)) + sp X (fun U V => (sm p U + sm p V) * F U (x :: V)) := by
      rw [← sp_mul, ← sp_add]
      exact sp_congr fun U V _ => by rw [sm]; grind
    rw [e1, e2, ← h1, ← h2, sm]
    grind
/-- What a connecting edge comes to behind the first one's part. -/
theorem Phi_cons (w : Nat → Nat → Int) (p q : Nat → Int) (y : Nat) (Y : List Nat) :
    Phi w (y :: Y) p q = sp Y fun V R => Z w V (w y) * ((sm p (y :: V) + sm q (y :: V)) * Phi w R p q + sm p (y :: V) * sm q (y :: V) * Z w R (fun i => p i + q i)) := by
  have e1 : sp Y (fun U V => sm p U * (Z w U q * Z w (y :: V) p)) = sp Y fun V R => sp R fun S T => Z w V (w y) * (sm p (y :: V) * (sm p S * (Z w S q * Z w T p))) := by
    rw [sp_turn]
    refine sp_congr fun S V _ => ?_
    rw [Z_cons, ← sp_mul, ← sp_mul]
    exact sp_congr fun U T _ => by grind
  have e2 : sp Y (fun U V => sm p (y :: U) * (Z w (y :: U) q * Z w V p)) = sp Y fun V R => sp R fun S T => Z w V (w y) * (sm q (y :: V) * ((sm p (y :: V) + sm p S) * (Z w S q * Z w T p))) := by
    rw [sp_assoc]
    refine sp_congr fun W T _ => ?_
    rw [Z_cons, Int.mul_comm (sp W _), ← sp_mul, ← sp_mul]
    have := sp_sm p W fun U S => sm q (y :: U) * (Z w U (w y) * Z w S q) * Z w T p
    have e3 : sp W (fun U S => sm p (y :: W) * (Z w T p * (sm q (y :: U) * (Z w U (w y) * Z w S q)))) = p y * sp W (fun U S => sm q (y :: U) * (Z w U (w y) * Z w S q) * Z w T p) + sp W (fun U S => sm p W * (sm q (y :: U) * (Z w U (w y) * Z w S q) * Z w T p)) := by
      rw [← sp_mul, ← sp_add]
      exact sp_congr fun U S _ => by rw [sm]; grind
    rw [e3, this, ← sp_mul, ← sp_add]
    exact sp_congr fun U S _ => by rw [sm_cons_app p y U]; grind
  show sp (y :: Y) _ = _
  rw [sp, e2, e1, ← sp_add]
  refine sp_congr fun V R _ => ?_
  rw [Z_split w p q R.length R (Nat.le_refl _)]
  show _ = Z w V (w y) * ((sm p (y :: V) + sm q (y :: V)) * sp R (fun S T => sm p S * (Z w S q * Z w T p)) + sm p (y :: V) * sm q (y :: V) * sp R (fun S T => Z w S q * Z w T p))
  rw [← sp_mul, ← sp_mul, ← sp_add, ← sp_add, ← sp_mul]
  exact sp_congr fun S T _ => by grind
theorem Phi_symm (w : Nat → Nat → Int) (p q : Nat → Int) : ∀ (n : Nat) (X : List Nat), X.length ≤ n → Phi w X p q = Phi w X q p
  | _, [], _ => by simp [Phi, sp, sm]
  | 0, a :: X, h => by simp at h
  | n + 1, a :: X, h => by
    simp only [List.length_cons] at h
    rw [Phi_cons, Phi_cons]
    refine sp_congr fun V R hl => ?_
    rw [Phi_symm w p q n R (by omega), show (fun i => q i + p i) = (fun i => p i + q i) from funext fun i => by omega]
    grind
/-- The first one's forefathers: it hangs on the ground or on one that does not hang on it. -/
theorem Z_star (w : Nat → Nat → Int) (a : Nat) (X : List Nat) (g : Nat → Int) : Z w (a :: X) g = sp X fun U V => (g a + sm (w a) V) * (Z w U (w a) * Z w V g) := by
  rw [Z_cons]
  have h1 := Phi_symm w g (w a) X.length X (Nat.le_refl _)
  have h2 : Phi w X (w a) g = sp X fun U V => sm (w a) V * (Z w U (w a) * Z w V g) := by
    unfold Phi
    rw [← sp_flip X fun U V => sm (w a) U * (Z w U g * Z w V (w a))]
    exact sp_congr fun U V _ => by grind
  rw [h2] at h1
  unfold Phi at h1
  have e1 : sp X (fun U V => sm g (a :: U) * (Z w U (w a) * Z w V g)) = g a * sp X (fun U V => Z w U (w a) * Z w V g) + sp X (fun U V => sm g U * (Z w U (w a) * Z w V g)) := by
    rw [← sp_mul, ← sp_add]
    exact sp_congr fun U V _ => by rw [sm]; grind
  have e2 : sp X (fun U V => (g a + sm (w a) V) * (Z w U (w a) * Z w V g)) = g a * sp X (fun U V => Z w U (w a) * Z w V g) + sp X (fun U V => sm (w a) V * (Z w U (w a) * Z w V g)) := by
    rw [← sp_mul, ← sp_add]
    exact sp_congr fun U V _ => by grind
  rw [e1, e2, ← h1]
/-- The root may be changed. -/
theorem Z_root {w : Nat → Nat → Int} (hw : ∀ i j, w i j = w j i) (a b : Nat) (Y : List Nat) : Z w (b :: Y) (w a) = Z w (a :: Y) (w b) := by
  rw [Z_cons, Z_star, ← sp_flip Y fun U V => (w b a + sm (w a) V) * (Z w U (w a) * Z w V (w b))]
  exact sp_congr fun U V _ => by rw [sm, hw b a]; grind
/-- The first two may be changed about. -/
theorem Z_swap {w : Nat → Nat → Int} (hw : ∀ i j, w i j = w j i) (a b : Nat) (X : List Nat) (g : Nat → Int) : Z w (a :: b :: X) g = Z w (b :: a :: X) g := by
  have key : ∀ c d, sp (d :: X) (fun U V => sm g (c :: U) * (Z w U (w c) * Z w V g)) = sp X (fun U V => (g c + g d + sm g U) * (Z w (d :: U) (w c) * Z w V g)) + sp X (fun U V => sp V fun S T => sm g (c :: U) * (Z w U (w c) * (sm g (d :: S) * (Z w S (w d) * Z w T g)))) := fun c d => by
    rw [sp]
    have e1 : sp X (fun U V => sm g (c :: d :: U) * (Z w (d :: U) (w c) * Z w V g)) = sp X (fun U V => (g c + g d + sm g U) * (Z w (d :: U) (w c) * Z w V g)) := sp_congr fun U V _ => by rw [sm, sm]; grind
    have e2 : sp X (fun U V => sm g (c :: U) * (Z w U (w c) * Z w (d :: V) g)) = sp X (fun U V => sp V fun S T => sm g (c :: U) * (Z w U (w c) * (sm g (d :: S) * (Z w S (w d) * Z w T g)))) := sp_congr fun U V _ => by rw [Z_cons, ← sp_mul, ← sp_mul]
    rw [e1, e2]
  rw [Z_cons, Z_cons, key a b, key b a, sp_turn X fun U S T => sm g (b :: U) * (Z w U (w b) * (sm g (a :: S) * (Z w S (w a) * Z w T g)))]
  congr 1
  · exact sp_congr fun U V _ => by rw [Z_root hw a b U]; grind
  · exact sp_congr fun U V _ => sp_congr fun S T _ => by grind
/-- A sum that does not tell the order of the part's own. -/
theorem sp_perm : ∀ {X Y : List Nat}, X.Perm Y → ∀ {F : List Nat → List Nat → Int}, (∀ U U' V V' : List Nat, U.Perm U' → V.Perm V' → U.length + V.length = X.length → F U V = F U' V') → sp X F = sp Y F := by
  intro X Y h
  induction h with
  | nil => exact fun _ => rfl
  | cons x _ ih =>
    intro F hF
    rw [sp, sp, ih fun U U' V V' h1 h2 h3 => hF _ _ _ _ (h1.cons x) h2 (by simp only [List.length_cons]; omega), ih fun U U' V V' h1 h2 h3 => hF _ _ _ _ h1 (h2.cons x) (by simp only [List.length_cons]; omega)]
  | swap x y X =>
    intro F hF
    simp only [sp]
    rw [sp_congr (F := fun U V => F (y :: x :: U) V) (G := fun U V => F (x :: y :: U) V) fun U V hl => hF _ _ _ _ (List.Perm.swap ..) (List.Perm.refl _) (by simp only [List.length_cons]; omega), sp_congr (F := fun U V => F U (y :: x :: V)) (G := fun U V => F U (x :: y :: V)) fun U V hl => hF _ _ _ _ (List.Perm.refl _) (List.Perm.swap ..) (by simp only [List.length_cons]; omega)]
    omega
  | trans h1 _ ih1 ih2 => exact fun hF => (ih1 hF).trans (ih2 fun U U' V V' a b c => by
      exact hF U U' V V' a b (by rw [h1.length_eq]; exact c))
theorem sm_perm (g : Nat → Int) {X Y : List Nat} (h : X.Perm Y) : sm g X = sm g Y := by
  induction h with
  | nil => rfl
  | cons x _ ih => rw [sm, sm, ih]
  | swap x y X => simp only [sm]; omega
  | trans _ _ ih1 ih2 => exact ih1.trans ih2
/-- The order counts for nothing. -/
theorem Z_perm {w : Nat → Nat → Int} (hw : ∀ i j, w i j = w j i) : ∀ (n : Nat) {X Y : List Nat}, X.length ≤ n → X.Perm Y → ∀ g, Z w X g = Z w Y g := by
  intro n
  induction n with
  | zero =>
    intro X Y hn h g
    obtain rfl : X = [] := List.eq_nil_of_length_eq_zero (by omega)
    rw [List.nil_perm.1 h]
  | succ n ih =>
    intro X Y hn h
    induction h with
    | nil => exact fun _ => rfl
    | @cons x X Y hp _ =>
      intro g
      simp only [List.length_cons] at hn
      rw [Z_cons, Z_cons]
      refine sp_perm hp fun U U' V V' h1 h2 h3 => ?_
      rw [ih (by omega) h1, ih (by omega) h2, sm_perm g (h1.cons x)]
    | swap x y X => exact fun g => Z_swap hw y x X g
    | trans h1 h2 ih1 ih2 => exact fun g => (ih1 hn g).trans (ih2 (by rw [← h1.length_eq]; exact hn) g)
theorem Z_pos {w : Nat → Nat → Int} (hw : ∀ i j, 0 ≤ w i j) : ∀ (n : Nat) (X : List Nat) (g : Nat → Int), X.length ≤ n → (∀ i, 0 ≤ g i) → 0 ≤ Z w X g := by
  have hsm : ∀ (g : Nat → Int), (∀ i, 0 ≤ g i) → ∀ X, 0 ≤ sm g X := fun g hg X => by
    induction X with
    | nil => exact Int.le_refl _
    | cons x X ih => rw [sm]; have := hg x; omega
  have hsp : ∀ (X : List Nat) (F : List Nat → List Nat → Int), (∀ U V, U.length + V.length = X.length → 0 ≤ F U V) → 0 ≤ sp X F := by
    intro X
    induction X with
    | nil => exact fun F h => h [] [] rfl
    | cons x X ih =>
      intro F h
      rw [sp]
      have h1 := ih (fun U V => F (x :: U) V) fun U V hl => h _ _ (by simp only [List.length_cons]; omega)
      have h2 := ih (fun U V => F U (x :: V)) fun U V hl => h _ _ (by simp only [List.length_cons]; omega)
      omega
  intro n
  induction n with
  | zero =>
    intro X g hn _
    obtain rfl : X = [] := List.eq_nil_of_length_eq_zero (by omega)
    rw [Z_nil]
    decide
  | succ n ih =>
    intro X g hn hg
    match X, hn with
    | [], _ => rw [Z_nil]; decide
    | a :: X, hn =>
      simp only [List.length_cons] at hn
      rw [Z_cons]
      exact hsp X _ fun U V hl => Int.mul_nonneg (hsm g hg _) (Int.mul_nonneg (ih U _ (by omega) (hw a)) (ih V _ (by omega) hg))
end Go.Proofs.YtbbdiondhnmnaaaDoor
