/- The determinant of a grounded graph counts its forests. Conditions: the weights are the same both ways, none from one to itself. -/
import Derived.Test.YtbbdiondhnmnaaaDoorSpanMany7
import Derived.Test.YtbbdiondhnmnaaaDoorSpanMany9
namespace Go.Proofs.YtbbdiondhnmnaaaDoor

/-- A sum over the places of a list: one, and the others. -/
def sz : (Nat → List Nat → Int) → List Nat → Int
  | _, [] => 0
  | F, x :: X => F x X + sz (fun y R => F y (x :: R)) X
theorem sz_congr : ∀ {X : List Nat} {F G : Nat → List Nat → Int}, (∀ x R, (x :: R).Perm X → F x R = G x R) → sz F X = sz G X
  | [], _, _, _ => rfl
  | x :: X, F, G, h => by
    rw [sz, sz, h x X (List.Perm.refl _), sz_congr fun y R hp => h y (x :: R) ((List.Perm.swap ..).trans (hp.cons x))]
theorem sz_add : ∀ (X : List Nat) (F G : Nat → List Nat → Int), sz (fun x R => F x R + G x R) X = sz F X + sz G X
  | [], _, _ => rfl
  | x :: X, F, G => by
    rw [sz, sz, sz, sz_add X (fun y R => F y (x :: R)) (fun y R => G y (x :: R))]
    omega
/-- One of a part, and the rest of it. -/
theorem sz_sp (c : Nat → Int) : ∀ (X : List Nat) (G : List Nat → List Nat → Int), (∀ U U' V V' : List Nat, U.Perm U' → V.Perm V' → G U V = G U' V') → sz (fun x R => c x * sp R fun U V => G (x :: U) V) X = sp X fun W V => sm c W * G W V
  | [], G, _ => by simp [sz, sp, sm]
  | x :: X, G, hG => by
    rw [sz, sp]
    have e : sz (fun y R => c y * sp (x :: R) fun U V => G (y :: U) V) X = sz (fun y R => c y * sp R fun U V => (fun U V => G (x :: U) V) (y :: U) V) X + sz (fun y R => c y * sp R fun U V => (fun U V => G U (x :: V)) (y :: U) V) X := by
      rw [← sz_add]
      refine sz_congr fun y R _ => ?_
      rw [sp, Int.mul_add]
      congr 2
      exact sp_congr fun U V _ => hG _ _ _ _ (List.Perm.swap ..) (List.Perm.refl _)
    rw [e, sz_sp c X (fun U V => G (x :: U) V) fun U U' V V' h1 h2 => hG _ _ _ _ (h1.cons x) h2, sz_sp c X (fun U V => G U (x :: V)) fun U U' V V' h1 h2 => hG _ _ _ _ h1 (h2.cons x)]
    rw [← sp_mul, ← Int.add_assoc, ← sp_add]
    congr 1
    exact sp_congr fun U V _ => by rw [sm]; grind
/-- A row to the front. -/
theorem det_front (x : Nat) (R : List Nat) : ∀ (P : List Nat) (C : List Col), det (P ++ x :: R) C = (-1) ^ P.length * det (x :: (P ++ R)) C
  | [], C => by simp
  | p :: P, C => by
    have h1 : det (p :: (P ++ x :: R)) C = (-1) ^ P.length * det (p :: x :: (P ++ R)) C := by
      show alt (det (P ++ x :: R)) p C = _ * alt (det (x :: (P ++ R))) p C
      have := alt_lin (fun _ => 0) (det (x :: (P ++ R))) ((-1) ^ P.length) p C
      rw [alt_zero] at this
      rw [Int.zero_add] at this
      rw [← this]
      exact alt_congr p fun c _ => by rw [det_front x R P c]; omega
    show det (p :: (P ++ x :: R)) C = (-1) ^ (P.length + 1) * det (x :: p :: (P ++ R)) C
    rw [h1, det_rows p x, Int.pow_succ]
    grind
/-- A row laid out: each column's own row to the front. -/
theorem alt_lay (f : Nat → Col) (j : Nat) : ∀ (X P : List Nat) (K : List Col), alt (fun c => det (P ++ X) (K ++ c)) j (X.map f) = (-1) ^ P.length * sz (fun x R => f x j * det (x :: (P ++ R)) (K ++ R.map f)) X
  | [], P, K => by simp [alt, sz]
  | x :: X, P, K => by
    rw [List.map_cons, alt, sz]
    have h := alt_lay f j X (P ++ [x]) (K ++ [f x])
    simp only [List.append_assoc, List.cons_append, List.nil_append, List.length_append, List.length_singleton] at h
    rw [h, det_front x X P, Int.pow_succ]
    simp only [List.map_cons]
    grind
/-- Only the numbers at the rows count. -/
theorem det_entries {α : Type} (f f' : α → Col) : ∀ (R : List Nat) (X : List α), (∀ r ∈ R, ∀ x ∈ X, f x r = f' x r) → det R (X.map f) = det R (X.map f')
  | [], [], _ => rfl
  | [], x :: X, _ => rfl
  | r :: R, X, h => by
    have key : ∀ (X K : List α), (∀ x ∈ K ++ X, ∀ r' ∈ r :: R, f x r' = f' x r') → alt (fun c => det R (K.map f ++ c)) r (X.map f) = alt (fun c => det R (K.map f' ++ c)) r (X.map f') := by
      intro X
      induction X with
      | nil => exact fun _ _ => rfl
      | cons x X ih =>
        intro K hK
        rw [List.map_cons, List.map_cons, alt, alt, hK x (by simp) r (by simp)]
        have h1 := ih (K ++ [x]) (by simpa using hK)
        simp only [List.map_append, List.map_cons, List.map_nil, List.append_assoc, List.cons_append, List.nil_append] at h1
        rw [h1, ← List.map_append, ← List.map_append, det_entries f f' R (K ++ X) fun r' hr x' hx => hK x' (by
          rcases List.mem_append.1 hx with hx | hx
          · simp [hx]
          · simp [hx]) r' (by simp [hr])]
    have := key X [] fun x hx r' hr => h r' hr x hx
    exact this
/-- The matrix of a grounded graph. -/
def LM (w : Nat → Nat → Int) (X : List Nat) (g : Nat → Int) : Nat → Nat → Int := fun i j => if i = j then g i + sm (w i) X else - w i j
theorem Z_ground (w : Nat → Nat → Int) (X : List Nat) {g g' : Nat → Int} (h : ∀ i, g i = g' i) : Z w X g = Z w X g' := by rw [show g = g' from funext h]
theorem det_forests {w : Nat → Nat → Int} (hw : ∀ i j, w i j = w j i) (h0 : ∀ i, w i i = 0) : ∀ n : Nat,
    (∀ (X : List Nat) (g : Nat → Int), X.length ≤ n → X.Nodup → lead (LM w X g) X = Z w X g) ∧
    (∀ (j : Nat) (X : List Nat) (g q : Nat → Int), X.length ≤ n → (j :: X).Nodup → det (j :: X) (q :: X.map (colM (LM w (j :: X) fun i => g i + q i))) = sp X fun U V => Z w (j :: U) q * Z w V g) := by
  have sub : ∀ (M : Nat → Nat → Int) (Y : List Nat) (g : Nat → Int), (∀ i ∈ Y, ∀ j ∈ Y, M i j = LM w Y g i j) → lead M Y = lead (LM w Y g) Y := fun M Y g h => det_entries (colM M) (colM (LM w Y g)) Y Y fun r hr x hx => h r hr x hx
  have subq : ∀ (M : Nat → Nat → Int) (x : Nat) (R : List Nat) (g q : Nat → Int), (∀ i ∈ x :: R, ∀ j ∈ R, M i j = LM w (x :: R) g i j) → det (x :: R) (q :: R.map (colM M)) = det (x :: R) (q :: R.map (colM (LM w (x :: R) g))) := fun M x R g q h => by
    have := det_entries (fun o : Option Nat => match o with | none => q | some y => colM M y) (fun o : Option Nat => match o with | none => q | some y => colM (LM w (x :: R) g) y) (x :: R) (none :: R.map some) (fun r hr o ho => by
      rcases List.mem_cons.1 ho with rfl | ho
      · rfl
      · obtain ⟨y, hy, rfl⟩ := List.mem_map.1 ho
        exact h r hr y hy)
    simpa [List.map_map, Function.comp_def] using this
  intro n
  induction n with
  | zero =>
    refine ⟨fun X g h _ => ?_, fun j X g q h _ => ?_⟩
    · obtain rfl : X = [] := List.eq_nil_of_length_eq_zero (by omega)
      rfl
    · obtain rfl : X = [] := List.eq_nil_of_length_eq_zero (by omega)
      show alt (det []) j [q] = _
      rw [alt, alt, sp, Z_cons]
      simp [det, sp, sm, Z_nil]
  | succ n ih =>
    have hZ : ∀ (X : List Nat) (g : Nat → Int), X.length ≤ n + 1 → X.Nodup → lead (LM w X g) X = Z w X g := by
      intro X g hX hnd
      match X, hX, hnd with
      | [], _, _ => rfl
      | j :: X, hX, hnd =>
        simp only [List.length_cons] at hX
        obtain ⟨hj, hnd'⟩ := List.nodup_cons.1 hnd
        obtain ⟨M, hM⟩ : ∃ M, M = LM w (j :: X) g := ⟨_, rfl⟩
        rw [← hM]
        have a1 : det X (X.map (colM M)) = Z w X fun i => g i + w j i := by
          rw [← ih.1 X (fun i => g i + w j i) (by omega) hnd']
          exact sub M X _ fun i hi k hk => by
            rw [hM]
            unfold LM
            split
            · rw [sm, hw i j]
              show g i + (w j i + sm (w i) X) = g i + w j i + sm (w i) X
              omega
            · rfl
        have a2 := alt_lay (colM M) j X [] [colM M j]
        have a3 : sz (fun x R => colM M x j * det (x :: ([] ++ R)) ([colM M j] ++ R.map (colM M))) X = sp X fun W V => sm (w j) W * (Z w W (w j) * Z w V g) := by
          rw [← sz_sp (w j) X (fun U V => Z w U (w j) * Z w V g) fun U U' V V' h1 h2 => by rw [Z_perm hw _ (Nat.le_refl _) h1, Z_perm hw _ (Nat.le_refl _) h2]]
          refine sz_congr fun x R hp => ?_
          have hxR : (x :: R).Nodup := hp.nodup_iff.2 hnd'
          have hxj : j ≠ x := fun e => hj (by rw [e]; exact hp.mem_iff.1 (by simp))
          have b1 := ih.2 x R g (w j) (by have := hp.length_eq; simp only [List.length_cons] at this; omega) hxR
          have b2 := subq M x R (fun i => g i + w j i) (w j) fun i hi k hk => by
            rw [hM]
            unfold LM
            split
            · rw [sm, hw i j, ← sm_perm (w i) hp]
              show g i + (w j i + sm (w i) (x :: R)) = g i + w j i + sm (w i) (x :: R)
              omega
            · rfl
          have b3 : det (x :: R) (colM M j :: R.map (colM M)) = - det (x :: R) (w j :: R.map (colM M)) := by
            have c1 := det_col (fun _ => 0) (w j) (-1) (x :: R) [] (R.map (colM M))
            have c2 : det (x :: R) ([] ++ (fun _ => 0) :: R.map (colM M)) = 0 := by
              have := det_col (fun _ => 0) (fun _ => 0) 1 (x :: R) [] (R.map (colM M))
              simp only [Int.mul_zero, Int.add_zero] at this
              omega
            rw [c2] at c1
            simp only [List.nil_append] at c1
            have c3 := det_entries (fun o : Option Nat => match o with | none => colM M j | some y => colM M y) (fun o : Option Nat => match o with | none => (fun i => 0 + -1 * w j i) | some y => colM M y) (x :: R) (none :: R.map some) (fun r hr o ho => by
              rcases List.mem_cons.1 ho with rfl | ho
              · show M r j = 0 + -1 * w j r
                have hrj : r ≠ j := fun e => hj (by rw [← e]; exact hp.mem_iff.1 hr)
                rw [hM]
                unfold LM
                rw [if_neg hrj, hw r j]
                omega
              · obtain ⟨y, hy, rfl⟩ := List.mem_map.1 ho
                rfl)
            simp only [List.map_cons, List.map_map, Function.comp_def] at c3
            rw [c3, c1]
            omega
          show M j x * det (x :: R) (colM M j :: R.map (colM M)) = _
          rw [b3, b2, b1, hM]
          unfold LM
          rw [if_neg hxj]
          grind
        show alt (det X) j (colM M j :: X.map (colM M)) = _
        rw [alt, a1]
        have a4 : alt (fun c => det X (colM M j :: c)) j (X.map (colM M)) = sp X fun W V => sm (w j) W * (Z w W (w j) * Z w V g) := by
          rw [← a3]
          simpa using a2
        rw [a4, Z_split w g (w j) X.length X (Nat.le_refl _), Z_star]
        have a5 : colM M j j = g j + sm (w j) X := by
          show M j j = _
          rw [hM]
          unfold LM
          rw [if_pos rfl, sm, h0 j]
          omega
        have a6 := sp_sm (w j) X fun U V => Z w U (w j) * Z w V g
        rw [sp_mul] at a6
        rw [a5, Int.add_mul, a6, ← sp_mul]
        have a7 : sp X (fun U V => (g j + sm (w j) V) * (Z w U (w j) * Z w V g)) + sp X (fun W V => sm (w j) W * (Z w W (w j) * Z w V g)) = sp X (fun U V => g j * (Z w U (w j) * Z w V g)) + sp X (fun U V => (sm (w j) U + sm (w j) V) * (Z w U (w j) * Z w V g)) := by
          rw [← sp_add, ← sp_add]
          exact sp_congr fun U V _ => by grind
        omega
    refine ⟨hZ, fun j X g q hX hnd => ?_⟩
    obtain ⟨hj, hnd'⟩ := List.nodup_cons.1 hnd
    obtain ⟨M, hM⟩ : ∃ M, M = LM w (j :: X) fun i => g i + q i := ⟨_, rfl⟩
    rw [← hM]
    have a1 : det X (X.map (colM M)) = Z w X fun i => (g i + w j i) + q i := by
      rw [← hZ X (fun i => (g i + w j i) + q i) hX hnd']
      exact sub M X _ fun i hi k hk => by
        rw [hM]
        unfold LM
        split
        · rw [sm, hw i j]
          show g i + q i + (w j i + sm (w i) X) = g i + w j i + q i + sm (w i) X
          omega
        · rfl
    have a2 := alt_lay (colM M) j X [] [q]
    have a3 : sz (fun x R => colM M x j * det (x :: ([] ++ R)) ([q] ++ R.map (colM M))) X = - sp X fun W V => sm (w j) W * (Z w W q * Z w V fun i => g i + w j i) := by
      have b0 : sz (fun x R => w j x * sp R fun U V => Z w (x :: U) q * Z w V fun i => g i + w j i) X = sp X (fun W V => sm (w j) W * (Z w W q * Z w V fun i => g i + w j i)) := sz_sp (w j) X (fun U V => Z w U q * Z w V fun i => g i + w j i) fun U U' V V' h1 h2 => by rw [Z_perm hw _ (Nat.le_refl _) h1, Z_perm hw _ (Nat.le_refl _) h2]
      have b00 : sz (fun x R => colM M x j * det (x :: ([] ++ R)) ([q] ++ R.map (colM M))) X + sz (fun x R => w j x * sp R fun U V => Z w (x :: U) q * Z w V fun i => g i + w j i) X = 0 := by
        rw [← sz_add]
        have hz0 : ∀ X : List Nat, sz (fun _ _ => 0) X = 0 := fun X => by
          induction X with
          | nil => rfl
          | cons x X ih => rw [sz, ih]; rfl
        rw [← hz0 X]
        refine sz_congr fun x R hp => ?_
        have hxR : (x :: R).Nodup := hp.nodup_iff.2 hnd'
        have hxj : j ≠ x := fun e => hj (by rw [e]; exact hp.mem_iff.1 (by simp))
        have b1 := ih.2 x R (fun i => g i + w j i) q (by have := hp.length_eq; simp only [List.length_cons] at this; omega) hxR
        have b2 := subq M x R (fun i => g i + w j i + q i) q fun i hi k hk => by
          rw [hM]
          unfold LM
          split
          · rw [sm, hw i j, ← sm_perm (w i) hp]
            show g i + q i + (w j i + sm (w i) (x :: R)) = g i + w j i + q i + sm (w i) (x :: R)
            omega
          · rfl
        show M j x * det (x :: R) (q :: R.map (colM M)) + _ = 0
        rw [b2, b1, hM]
        unfold LM
        rw [if_neg hxj]
        grind
      omega
    show alt (det X) j (q :: X.map (colM M)) = _
    rw [alt, a1]
    have a4 : alt (fun c => det X (q :: c)) j (X.map (colM M)) = - sp X fun W V => sm (w j) W * (Z w W q * Z w V fun i => g i + w j i) := by
      rw [← a3]
      simpa using a2
    rw [a4, Z_split w (fun i => g i + w j i) q X.length X (Nat.le_refl _)]
    have a5 : sp X (fun U V => Z w (j :: U) q * Z w V g) = sp X fun U V => sp V fun S T => (q j + sm (w j) U) * (Z w U q * (Z w S (w j) * Z w T g)) := by
      rw [sp_assoc]
      refine sp_congr fun W T _ => ?_
      rw [Z_star, Int.mul_comm, ← sp_mul, ← sp_flip W fun U S => (q j + sm (w j) U) * (Z w U q * (Z w S (w j) * Z w T g))]
      exact sp_congr fun U V _ => by grind
    have a6 : sp X (fun U V => sp V fun S T => (q j + sm (w j) U) * (Z w U q * (Z w S (w j) * Z w T g))) = sp X fun U V => (q j + sm (w j) U) * (Z w U q * Z w V fun i => g i + w j i) := sp_congr fun U V _ => by
      rw [Z_split w g (w j) V.length V (Nat.le_refl _), ← sp_mul, ← sp_mul]
    rw [a5, a6, ← sp_mul]
    have a7 : sp X (fun U V => (q j + sm (w j) U) * (Z w U q * Z w V fun i => g i + w j i)) = sp X (fun U V => q j * (Z w U q * Z w V fun i => g i + w j i)) + sp X (fun W V => sm (w j) W * (Z w W q * Z w V fun i => g i + w j i)) := by
      rw [← sp_add]
      exact sp_congr fun U V _ => by grind
    rw [a7]
    omega
end Go.Proofs.YtbbdiondhnmnaaaDoor
