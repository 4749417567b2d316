/- Determinants by the first row, in plain Lean: columns are functions of the row. Conditions: none. -/
import Derived.Test.YtbbdiondhnmnaaaDoorSpanMany6
namespace Go.Proofs.YtbbdiondhnmnaaaDoor

abbrev Col := Nat → Int
/-- One row: its numbers by turns plus and minus, each with what is made of the other columns. -/
def alt : (List Col → Int) → Nat → List Col → Int
  | _, _, [] => 0
  | g, r, x :: C => x r * g C - alt (fun c => g (x :: c)) r C
def det : List Nat → List Col → Int
  | [], [] => 1
  | [], _ :: _ => 0
  | r :: R, C => alt (det R) r C
theorem alt_congr {g h : List Col → Int} (r : Nat) : ∀ {C : List Col}, (∀ c : List Col, c.length + 1 = C.length → g c = h c) → alt g r C = alt h r C := by
  intro C
  induction C generalizing g h with
  | nil => exact fun _ => rfl
  | cons x C ih =>
    intro hg
    rw [alt, alt, hg C rfl, ih fun c hc => hg (x :: c) (by simp only [List.length_cons]; omega)]
theorem alt_lin (g h : List Col → Int) (t : Int) (r : Nat) : ∀ C : List Col, alt (fun c => g c + t * h c) r C = alt g r C + t * alt h r C := by
  intro C
  induction C generalizing g h with
  | nil => simp [alt]
  | cons x C ih =>
    rw [alt, alt, alt, ih]
    grind
theorem alt_neg (g : List Col → Int) (r : Nat) (C : List Col) : alt (fun c => - g c) r C = - alt g r C := by
  have := alt_lin (fun _ => 0) g (-1) r C
  have h0 : alt (fun _ => 0) r C = 0 := by
    have := alt_lin (fun _ => 0) (fun _ => 0) 1 r C
    simp only [Int.mul_zero, Int.add_zero] at this
    omega
  rw [h0] at this
  rw [show (fun c => - g c) = (fun c => 0 + -1 * g c) from funext fun c => by omega, this]
  omega
theorem alt_zero (r : Nat) (C : List Col) : alt (fun _ => 0) r C = 0 := by
  have := alt_lin (fun _ => 0) (fun _ => 0) 1 r C
  simp only [Int.mul_zero, Int.add_zero] at this
  omega
/-- Two rows changed about. -/
theorem alt_rows (g : List Col → Int) (r s : Nat) : ∀ C : List Col, alt (alt g s) r C = - alt (alt g r) s C := by
  intro C
  induction C generalizing g with
  | nil => rfl
  | cons x C ih =>
    rw [alt, alt]
    have e1 : alt (fun c => alt g s (x :: c)) r C = x s * alt g r C - alt (alt (fun c => g (x :: c)) s) r C := by
      rw [show (fun c => alt g s (x :: c)) = (fun c => (- alt (fun c' => g (x :: c')) s c) + x s * g c) from funext fun c => by rw [alt]; omega, alt_lin, alt_neg]
      omega
    have e2 : alt (fun c => alt g r (x :: c)) s C = x r * alt g s C - alt (alt (fun c => g (x :: c)) r) s C := by
      rw [show (fun c => alt g r (x :: c)) = (fun c => (- alt (fun c' => g (x :: c')) r c) + x r * g c) from funext fun c => by rw [alt]; omega, alt_lin, alt_neg]
      omega
    rw [e1, e2, ih]
    omega
theorem det_rows (r s : Nat) (R : List Nat) (C : List Col) : det (r :: s :: R) C = - det (s :: r :: R) C := alt_rows (det R) r s C
theorem det_rows_at (r s : Nat) (R : List Nat) : ∀ (P : List Nat) (C : List Col), det (P ++ r :: s :: R) C = - det (P ++ s :: r :: R) C
  | [], C => det_rows r s R C
  | p :: P, C => by
    show alt (det (P ++ r :: s :: R)) p C = - alt (det (P ++ s :: r :: R)) p C
    rw [← alt_neg]
    exact alt_congr p fun c _ => det_rows_at r s R P c
theorem alt_cols {g : List Col → Int} (r : Nat) (x y : Col) (Q : List Col) : ∀ (P : List Col), (∀ P Q, g (P ++ x :: y :: Q) = - g (P ++ y :: x :: Q)) → alt g r (P ++ x :: y :: Q) = - alt g r (P ++ y :: x :: Q) := by
  intro P
  induction P generalizing g with
  | nil =>
    intro h
    show alt g r (x :: y :: Q) = - alt g r (y :: x :: Q)
    rw [alt, alt, alt, alt, show (fun c => g (x :: y :: c)) = (fun c => - g (y :: x :: c)) from funext fun c => h [] c, alt_neg]
    omega
  | cons p P ih =>
    intro h
    show alt g r (p :: (P ++ x :: y :: Q)) = - alt g r (p :: (P ++ y :: x :: Q))
    rw [alt, alt, h P Q, ih fun P' Q' => h (p :: P') Q']
    grind
/-- Two columns changed about. -/
theorem det_cols (x y : Col) : ∀ (R : List Nat) (P Q : List Col), det R (P ++ x :: y :: Q) = - det R (P ++ y :: x :: Q)
  | [], [], Q => rfl
  | [], p :: P, Q => rfl
  | r :: R, P, Q => alt_cols r x y Q P fun P Q => det_cols x y R P Q
theorem alt_col {g : List Col → Int} (r : Nat) (x y : Col) (t : Int) (Q : List Col) : ∀ (P : List Col), (∀ P Q, g (P ++ (fun i => x i + t * y i) :: Q) = g (P ++ x :: Q) + t * g (P ++ y :: Q)) →
    alt g r (P ++ (fun i => x i + t * y i) :: Q) = alt g r (P ++ x :: Q) + t * alt g r (P ++ y :: Q) := by
  intro P
  induction P generalizing g with
  | nil =>
    intro h
    show alt g r ((fun i => x i + t * y i) :: Q) = alt g r (x :: Q) + t * alt g r (y :: Q)
    rw [alt, alt, alt, show (fun c => g ((fun i => x i + t * y i) :: c)) = (fun c => g (x :: c) + t * g (y :: c)) from funext fun c => h [] c, alt_lin]
    grind
  | cons p P ih =>
    intro h
    show alt g r (p :: (P ++ (fun i => x i + t * y i) :: Q)) = alt g r (p :: (P ++ x :: Q)) + t * alt g r (p :: (P ++ y :: Q))
    rw [alt, alt, alt, h P Q, ih fun P' Q' => h (p :: P') Q']
    grind
/-- A column is a sum. -/
theorem det_col (x y : Col) (t : Int) : ∀ (R : List Nat) (P Q : List Col), det R (P ++ (fun i => x i + t * y i) :: Q) = det R (P ++ x :: Q) + t * det R (P ++ y :: Q)
  | [], [], Q => by simp [det]
  | [], p :: P, Q => by simp [det]
  | r :: R, P, Q => alt_col r x y t Q P fun P Q => det_col x y t R P Q
/-- A column twice. -/
theorem det_same (x : Col) (R : List Nat) (Q : List Col) : ∀ (P P1 : List Col), det R (P1 ++ x :: (P ++ x :: Q)) = 0
  | [], P1 => by
    have := det_cols x x R P1 Q
    show det R (P1 ++ x :: x :: Q) = 0
    omega
  | p :: P, P1 => by
    have h1 := det_cols x p R P1 (P ++ x :: Q)
    have h2 := det_same x R Q P (P1 ++ [p])
    simp only [List.append_assoc, List.cons_append, List.nil_append] at h2
    show det R (P1 ++ x :: p :: (P ++ x :: Q)) = 0
    rw [h1, h2]
    rfl
/-- The first column is put to another, so many times. -/
theorem det_put (x y : Col) (t : Int) (R : List Nat) (P Q : List Col) : det R (x :: (P ++ (fun i => y i + t * x i) :: Q)) = det R (x :: (P ++ y :: Q)) := by
  have h := det_col y x t R (x :: P) Q
  have h0 := det_same x R Q P []
  simp only [List.cons_append, List.nil_append] at h h0
  rw [h, h0]
  omega
/-- The first column is put to all the others. -/
theorem det_put_all {α : Type} (x : Col) (f : α → Col) (t : α → Int) (R : List Nat) : ∀ (Q : List α) (P : List Col), det R (x :: (P ++ Q.map fun y => fun i => f y i + t y * x i)) = det R (x :: (P ++ Q.map f))
  | [], P => rfl
  | y :: Q, P => by
    rw [List.map_cons, det_put x (f y) (t y) R P, show P ++ f y :: Q.map (fun y => fun i => f y i + t y * x i) = (P ++ [f y]) ++ Q.map (fun y => fun i => f y i + t y * x i) by simp, det_put_all x f t R Q (P ++ [f y])]
    simp
/-- All columns but the first times a number. -/
theorem det_times (p : Int) : ∀ (R : List Nat) (Q P : List Col), det R (P ++ Q.map fun y => fun i => p * y i) = p ^ Q.length * det R (P ++ Q)
  | R, [], P => by simp
  | R, y :: Q, P => by
    have h := det_col (fun _ => 0) y p R P (Q.map fun y => fun i => p * y i)
    have h0 : det R (P ++ (fun _ => 0) :: Q.map fun y => fun i => p * y i) = 0 := by
      have := det_col (fun _ => 0) (fun _ => 0) 1 R P (Q.map fun y => fun i => p * y i)
      simp only [Int.mul_zero, Int.add_zero] at this
      omega
    rw [h0] at h
    simp only [Int.zero_add] at h
    rw [List.map_cons, h, show P ++ y :: Q.map (fun y => fun i => p * y i) = (P ++ [y]) ++ Q.map (fun y => fun i => p * y i) by simp, det_times p R Q (P ++ [y]), List.length_cons, Int.pow_succ]
    simp only [List.append_assoc, List.cons_append, List.nil_append]
    grind
/-- A first row that is 0 but at its first place. -/
theorem alt_one (g : List Col → Int) (r : Nat) (x : Col) (C : List Col) (h : ∀ y ∈ C, y r = 0) : alt g r (x :: C) = x r * g C := by
  have : ∀ (C : List Col) (g : List Col → Int), (∀ y ∈ C, y r = 0) → alt g r C = 0 := by
    intro C
    induction C with
    | nil => exact fun _ _ => rfl
    | cons y C ih =>
      intro g h
      rw [alt, h y (by simp), ih _ fun z hz => h z (by simp [hz])]
      omega
  rw [alt, this C _ h]
  omega
/-- The step of an elimination without division. -/
theorem det_chio (r : Nat) (R : List Nat) (x : Col) (C : List Col) : x r ^ C.length * det (r :: R) (x :: C) = x r * det R (C.map fun y => fun i => x r * y i - y r * x i) := by
  have h1 := det_times (x r) (r :: R) C [x]
  have h2 := det_put_all x (fun y : Col => fun i => x r * y i) (fun y => - y r) (r :: R) C []
  simp only [List.cons_append, List.nil_append] at h1 h2
  rw [← h1, ← h2]
  have h3 := alt_one (det R) r x (C.map fun y => fun i => x r * y i + - y r * x i) (fun y hy => by
    obtain ⟨z, _, rfl⟩ := List.mem_map.1 hy
    show x r * z r + - z r * x r = 0
    grind)
  show alt (det R) r _ = _
  rw [h3]
  congr 2
  exact List.map_congr_left fun y _ => funext fun i => by grind

/-! A matrix, the rows and columns of a list, and one row and one column more. -/
def colM (M : Nat → Nat → Int) (j : Nat) : Col := fun i => M i j
/-- The minor of the rows and the columns of a list, bordered by row i and column j. -/
def brd (M : Nat → Nat → Int) (L : List Nat) (i j : Nat) : Int := det (L ++ [i]) ((L ++ [j]).map (colM M))
def lead (M : Nat → Nat → Int) (L : List Nat) : Int := det L (L.map (colM M))
def chi (M : Nat → Nat → Int) (r : Nat) : Nat → Nat → Int := fun i j => M r r * M i j - M r j * M i r
theorem brd_nil (M : Nat → Nat → Int) (i j : Nat) : brd M [] i j = M i j := by
  show alt (det []) i [colM M j] = _
  rw [alt, alt]
  show M i j * 1 - 0 = _
  omega
theorem brd_chi (M : Nat → Nat → Int) (r : Nat) (L : List Nat) (i j : Nat) : M r r ^ (L.length + 1) * brd M (r :: L) i j = M r r * brd (chi M r) L i j := by
  have h := det_chio r (L ++ [i]) (colM M r) ((L ++ [j]).map (colM M))
  rw [List.length_map, List.length_append, List.map_map] at h
  exact h
theorem lead_chi (M : Nat → Nat → Int) (r : Nat) (L : List Nat) : M r r ^ L.length * lead M (r :: L) = M r r * lead (chi M r) L := by
  have h := det_chio r L (colM M r) (L.map (colM M))
  rw [List.length_map, List.map_map] at h
  exact h
theorem lead_snoc (M : Nat → Nat → Int) (L : List Nat) (k : Nat) : lead M (L ++ [k]) = brd M L k k := rfl
end Go.Proofs.YtbbdiondhnmnaaaDoor

/- Minors with one row and one column more: the division of the elimination leaves nothing. Conditions: the leading minors are not 0. -/
namespace Go.Proofs.YtbbdiondhnmnaaaDoor

/-- No leading minor is 0. -/
def NZ (M : Nat → Nat → Int) (L : List Nat) : Prop := ∀ P Q, L = P ++ Q → lead M P ≠ 0
theorem brd_one (M : Nat → Nat → Int) (k i j : Nat) : brd M [k] i j = M k k * M i j - M k j * M i k := by
  show alt (alt (det []) i) k [colM M k, colM M j] = _
  simp only [alt, det, colM]
  grind
theorem pow_cancel {p a b : Int} (n : Nat) (hp : p ≠ 0) (h : p ^ n * a = p ^ n * b) : a = b := Int.eq_of_mul_eq_mul_left (Int.pow_ne_zero hp) h
theorem NZ.head {M : Nat → Nat → Int} {r : Nat} {L : List Nat} (h : NZ M (r :: L)) : M r r ≠ 0 := by
  have := h [r] L rfl
  have e : lead M [r] = M r r := by
    show alt (det []) r [colM M r] = _
    rw [alt, alt]
    show M r r * 1 - 0 = _
    omega
  rwa [e] at this
theorem NZ.chi {M : Nat → Nat → Int} {r : Nat} {L : List Nat} (h : NZ M (r :: L)) : NZ (chi M r) L := fun P Q e h0 => by
  have h1 := lead_chi M r P
  rw [h0, Int.mul_zero] at h1
  rcases Int.mul_eq_zero.1 h1 with h2 | h2
  · exact Int.pow_ne_zero h.head h2
  · exact h (r :: P) Q (by rw [e]; rfl) h2
/-- Sylvester's identity, for one row and one column. -/
theorem syl : ∀ (L : List Nat) (M : Nat → Nat → Int), NZ M L → ∀ k i j, lead M L * brd M (L ++ [k]) i j = brd M L k k * brd M L i j - brd M L i k * brd M L k j
  | [], M, _, k, i, j => by
    show 1 * brd M [k] i j = _
    rw [brd_one, brd_nil, brd_nil, brd_nil, brd_nil]
    grind
  | r :: L, M, h, k, i, j => by
    have ih := syl L (chi M r) h.chi k i j
    have a0 := lead_chi M r L
    have a1 := brd_chi M r (L ++ [k]) i j
    rw [List.length_append, List.length_singleton] at a1
    have a2 := brd_chi M r L k k
    have a3 := brd_chi M r L i j
    have a4 := brd_chi M r L i k
    have a5 := brd_chi M r L k j
    show lead M (r :: L) * brd M (r :: (L ++ [k])) i j = _
    generalize lead (chi M r) L = c0 at *
    generalize brd (chi M r) (L ++ [k]) i j = c1 at *
    generalize brd (chi M r) L k k = c2 at *
    generalize brd (chi M r) L i j = c3 at *
    generalize brd (chi M r) L i k = c4 at *
    generalize brd (chi M r) L k j = c5 at *
    refine pow_cancel (L.length + (L.length + 1 + 1)) h.head ?_
    rw [Int.pow_add]
    have e1 : M r r ^ L.length * M r r ^ (L.length + 1 + 1) * (lead M (r :: L) * brd M (r :: (L ++ [k])) i j) = (M r r ^ L.length * lead M (r :: L)) * (M r r ^ (L.length + 1 + 1) * brd M (r :: (L ++ [k])) i j) := by grind
    have e2 : M r r ^ L.length * M r r ^ (L.length + 1 + 1) = M r r ^ (L.length + 1) * M r r ^ (L.length + 1) := by
      rw [Int.pow_succ (M r r) (L.length + 1), Int.pow_succ]
      grind
    rw [e1, a0, a1, e2]
    have e3 : M r r ^ (L.length + 1) * M r r ^ (L.length + 1) * (brd M (r :: L) k k * brd M (r :: L) i j - brd M (r :: L) i k * brd M (r :: L) k j) = (M r r ^ (L.length + 1) * brd M (r :: L) k k) * (M r r ^ (L.length + 1) * brd M (r :: L) i j) - (M r r ^ (L.length + 1) * brd M (r :: L) i k) * (M r r ^ (L.length + 1) * brd M (r :: L) k j) := by grind
    rw [e3, a2, a3, a4, a5]
    grind
/-- What the program's division makes. -/
theorem syl_div {M : Nat → Nat → Int} {L : List Nat} (h : NZ M L) (k i j : Nat) : (brd M L i j * brd M L k k - brd M L i k * brd M L k j).tdiv (lead M L) = brd M (L ++ [k]) i j := by
  have := syl L M h k i j
  rw [show brd M L i j * brd M L k k - brd M L i k * brd M L k j = lead M L * brd M (L ++ [k]) i j by rw [this]; grind]
  exact Int.mul_tdiv_cancel_left _ (h L [] (by simp))
end Go.Proofs.YtbbdiondhnmnaaaDoor
