/- How many forests there are: some where all hang together, and at most so many. Conditions: the weights are the same both ways and not below 0. -/
import Derived.Test.YtbbdiondhnmnaaaDoorSpanMany10
namespace Go.Proofs.YtbbdiondhnmnaaaDoor

theorem sm_nonneg {g : Nat → Int} (hg : ∀ i, 0 ≤ g i) : ∀ X, 0 ≤ sm g X
  | [] => Int.le_refl _
  | x :: X => by
    rw [sm]
    have := hg x
    have := sm_nonneg hg X
    omega
theorem sm_app (g : Nat → Int) : ∀ U V, sm g (U ++ V) = sm g U + sm g V
  | [], V => by simp [sm]
  | u :: U, V => by
    rw [List.cons_append, sm, sm, sm_app g U V]
    omega
theorem sp_le : ∀ {X : List Nat} {F G : List Nat → List Nat → Int}, (∀ U V, (U ++ V).Perm X → F U V ≤ G U V) → sp X F ≤ sp X G
  | [], F, G, h => h [] [] (List.Perm.refl _)
  | x :: X, F, G, h => by
    rw [sp, sp]
    have h1 := sp_le (X := X) (F := fun U V => F (x :: U) V) (G := fun U V => G (x :: U) V) fun U V hp => h _ _ (hp.cons x)
    have h2 := sp_le (X := X) (F := fun U V => F U (x :: V)) (G := fun U V => G U (x :: V)) fun U V hp => h _ _ (List.perm_middle.trans (hp.cons x))
    omega
theorem Z_nonneg {w : Nat → Nat → Int} (hp : ∀ i j, 0 ≤ w i j) (X : List Nat) {g : Nat → Int} (hg : ∀ i, 0 ≤ g i) : 0 ≤ Z w X g := Z_pos hp X.length X g (Nat.le_refl _) hg
/-- The first one hangs on the ground: so many at least; it hangs on any: so many at most. -/
theorem Z_head {w : Nat → Nat → Int} (hp : ∀ i j, 0 ≤ w i j) (y : Nat) (X : List Nat) {g : Nat → Int} (hg : ∀ i, 0 ≤ g i) :
    g y * Z w X (fun i => g i + w y i) ≤ Z w (y :: X) g ∧ Z w (y :: X) g ≤ (g y + sm (w y) X) * Z w X (fun i => g i + w y i) := by
  rw [Z_star, Z_split w g (w y) X.length X (Nat.le_refl _), ← sp_mul, ← sp_mul]
  have h1 : ∀ U V, (U ++ V).Perm X → 0 ≤ Z w U (w y) * Z w V g := fun U V _ => Int.mul_nonneg (Z_nonneg hp U (hp y)) (Z_nonneg hp V hg)
  constructor
  · exact sp_le fun U V hq => Int.mul_le_mul_of_nonneg_right (by have := sm_nonneg (hp y) V; omega) (h1 U V hq)
  · refine sp_le fun U V hq => Int.mul_le_mul_of_nonneg_right ?_ (h1 U V hq)
    have hs := sm_perm (w y) hq
    rw [sm_app] at hs
    have := sm_nonneg (hp y) U
    omega
theorem Z_le {w : Nat → Nat → Int} (hw : ∀ i j, w i j = w j i) (hp : ∀ i j, 0 ≤ w i j) {b : Int} (hb : 0 ≤ b) : ∀ (X : List Nat) (g : Nat → Int), (∀ i, 0 ≤ g i) → (∀ i ∈ X, g i + sm (w i) X ≤ b) → Z w X g ≤ b ^ X.length
  | [], g, _, _ => by rw [Z_nil]; simp
  | y :: X, g, hg, h => by
    have h1 := (Z_head hp y X hg).2
    have h2 := Z_le hw hp hb X (fun i => g i + w y i) (fun i => by have := hg i; have := hp y i; omega) fun i hi => by
      have := h i (by simp [hi])
      rw [sm, hw i y] at this
      show g i + w y i + sm (w i) X ≤ b
      omega
    have h3 : g y + sm (w y) X ≤ b := by
      have := h y (by simp)
      rw [sm] at this
      have := hp y y
      omega
    have h4 := Z_nonneg hp X (g := fun i => g i + w y i) fun i => by have := hg i; have := hp y i; omega
    rw [List.length_cons, Int.pow_succ, Int.mul_comm]
    exact Int.le_trans h1 (Int.le_trans (Int.mul_le_mul_of_nonneg_right h3 h4) (Int.mul_le_mul_of_nonneg_left h2 hb))
/-- All hang together with the ground: every part has an edge out of it. -/
def Hangs (w : Nat → Nat → Int) (X : List Nat) (g : Nat → Int) : Prop := ∀ P : Nat → Prop, (∃ x ∈ X, P x) → ∃ y ∈ X, P y ∧ (0 < g y ∨ ∃ z ∈ X, ¬ P z ∧ 0 < w y z)
theorem Z_some {w : Nat → Nat → Int} (hw : ∀ i j, w i j = w j i) (hp : ∀ i j, 0 ≤ w i j) : ∀ (n : Nat) (X : List Nat) (g : Nat → Int), X.length ≤ n → X.Nodup → (∀ i, 0 ≤ g i) → Hangs w X g → 0 < Z w X g
  | _, [], g, _, _, _, _ => by rw [Z_nil]; decide
  | 0, x :: X, g, h, _, _, _ => by simp at h
  | n + 1, x :: X, g, hn, hnd, hg, hh => by
    obtain ⟨y, hy, _, h1⟩ := hh (fun _ => True) ⟨x, by simp, trivial⟩
    have hgy : 0 < g y := by
      rcases h1 with h1 | ⟨z, _, h2, _⟩
      · exact h1
      · exact absurd trivial h2
    have hperm : (x :: X).Perm (y :: (x :: X).erase y) := List.perm_cons_erase hy
    obtain ⟨X', hX'⟩ : ∃ X', X' = (x :: X).erase y := ⟨_, rfl⟩
    rw [← hX'] at hperm
    have hl := hperm.length_eq
    simp only [List.length_cons] at hl hn
    rw [Z_perm hw (X.length + 1) (by simp) hperm g]
    have hnd' := List.nodup_cons.1 (hperm.nodup_iff.1 hnd)
    have h2 := Z_some hw hp n X' (fun i => g i + w y i) (by omega) hnd'.2 (fun i => by have := hg i; have := hp y i; omega) fun P ⟨a, ha, hPa⟩ => by
      have hay : a ≠ y := fun e => hnd'.1 (by rw [← e]; exact ha)
      obtain ⟨y', hy', ⟨hP', hne⟩, h3⟩ := hh (fun i => P i ∧ i ≠ y) ⟨a, hperm.mem_iff.2 (by simp [ha]), hPa, hay⟩
      have hyX : y' ∈ X' := by
        rcases List.mem_cons.1 (hperm.mem_iff.1 hy') with e | e
        · exact absurd e hne
        · exact e
      refine ⟨y', hyX, hP', ?_⟩
      rcases h3 with h3 | ⟨z, hz, hnz, hwz⟩
      · left
        have := hp y y'
        show 0 < g y' + w y y'
        omega
      · by_cases hzy : z = y
        · left
          rw [hzy, hw y' y] at hwz
          have := hg y'
          show 0 < g y' + w y y'
          omega
        · right
          refine ⟨z, ?_, fun hPz => hnz ⟨hPz, hzy⟩, hwz⟩
          rcases List.mem_cons.1 (hperm.mem_iff.1 hz) with e | e
          · exact absurd e hzy
          · exact e
    have h3 := (Z_head hp y X' hg).1
    exact Int.lt_of_lt_of_le (Int.mul_pos hgy h2) h3
end Go.Proofs.YtbbdiondhnmnaaaDoor

/- The elimination's numbers are counts of forests: their signs and sizes. Conditions: the weights are the same both ways, not below 0, none from one to itself. -/
namespace Go.Proofs.YtbbdiondhnmnaaaDoor

/-- A column to the front. -/
theorem det_front_col (R : List Nat) (x : Col) (Q : List Col) : ∀ (P : List Col), det R (P ++ x :: Q) = (-1) ^ P.length * det R (x :: (P ++ Q))
  | P => by
    have : ∀ (P P1 : List Col), det R (P1 ++ (P ++ x :: Q)) = (-1) ^ P.length * det R (P1 ++ x :: (P ++ Q)) := by
      intro P
      induction P with
      | nil => intro P1; simp
      | cons p P ih =>
        intro P1
        have h := ih (P1 ++ [p])
        simp only [List.append_assoc, List.cons_append, List.nil_append] at h
        show det R (P1 ++ p :: (P ++ x :: Q)) = _
        rw [h, det_cols p x R P1 (P ++ Q), List.length_cons, Int.pow_succ]
        show _ = _ * det R (P1 ++ x :: p :: (P ++ Q))
        grind
    have h := this P []
    simpa using h
theorem sq_one (n : Nat) : (-1 : Int) ^ n * (-1) ^ n = 1 := by
  induction n with
  | zero => rfl
  | succ n ih => rw [Int.pow_succ]; grind
/-- The border's row and column to the front. -/
theorem brd_front (M : Nat → Nat → Int) (L : List Nat) (i j : Nat) : brd M L i j = det (i :: L) (colM M j :: L.map (colM M)) := by
  unfold brd
  have h1 := det_front i [] L ((L ++ [j]).map (colM M))
  rw [List.append_nil] at h1
  have h2 := det_front_col (i :: L) (colM M j) [] (L.map (colM M))
  rw [List.append_nil, List.length_map] at h2
  rw [h1, List.map_append]
  show _ * det (i :: L) (L.map (colM M) ++ [colM M j]) = _
  rw [h2, ← Int.mul_assoc, sq_one, Int.one_mul]
/-- The numbers at the rows, a first column for itself. -/
theorem det_entries1 (f f' : Nat → Col) (q q' : Col) (R X : List Nat) (hq : ∀ r ∈ R, q r = q' r) (h : ∀ r ∈ R, ∀ x ∈ X, f x r = f' x r) : det R (q :: X.map f) = det R (q' :: X.map f') := by
  have := det_entries (fun o : Option Nat => match o with | none => q | some y => f y) (fun o : Option Nat => match o with | none => q' | some y => f' y) R (none :: X.map some) (fun r hr o ho => by
    rcases List.mem_cons.1 ho with rfl | ho
    · exact hq r hr
    · obtain ⟨y, hy, rfl⟩ := List.mem_map.1 ho
      exact h r hr y hy)
  simpa [List.map_map, Function.comp_def] using this
theorem det_neg1 (q : Col) (R : List Nat) (C : List Col) : det R ((fun i => - q i) :: C) = - det R (q :: C) := by
  have c1 := det_col (fun _ => 0) q (-1) R [] C
  have c2 : det R ([] ++ (fun _ => 0) :: C) = 0 := by
    have := det_col (fun _ => 0) (fun _ => 0) 1 R [] C
    simp only [Int.mul_zero, Int.add_zero] at this
    omega
  rw [c2] at c1
  simp only [List.nil_append] at c1
  rw [show (fun i => - q i) = (fun i => 0 + -1 * q i) from funext fun i => by omega, c1]
  omega
/-- What the elimination makes off the diagonal. -/
theorem brd_off {w : Nat → Nat → Int} (hw : ∀ i j, w i j = w j i) (h0 : ∀ i, w i i = 0) (M : Nat → Nat → Int) (L : List Nat) (i j : Nat) (g : Nat → Int) (hnd : L.Nodup)
    (h1 : ∀ a ∈ L, ∀ b ∈ L, M a b = LM w L (fun k => g k + w j k) a b) (h2 : M i j = - w i j) (h3 : ∀ x ∈ L, M i x = - w i x) (h4 : ∀ x ∈ L, M x j = - w j x) :
    brd M L i j = - (w i j * Z w L (fun k => g k + w j k) + sp L fun W V => sm (w i) W * (Z w W (w j) * Z w V g)) := by
  have a1 : det L (L.map (colM M)) = Z w L fun k => g k + w j k := by
    rw [← (det_forests hw h0 L.length).1 L (fun k => g k + w j k) (Nat.le_refl _) hnd]
    exact det_entries (colM M) (colM (LM w L _)) L L fun r hr x hx => h1 r hr x hx
  have a2 := alt_lay (colM M) i L [] [colM M j]
  have a3 : sz (fun x R => colM M x i * det (x :: ([] ++ R)) ([colM M j] ++ R.map (colM M))) L = sp L fun W V => sm (w i) W * (Z w W (w j) * Z w V g) := by
    rw [← sz_sp (w i) L (fun U V => Z w U (w j) * Z w V g) fun U U' V V' h1 h2 => by rw [Z_perm hw _ (Nat.le_refl _) h1, Z_perm hw _ (Nat.le_refl _) h2]]
    refine sz_congr fun x R hp => ?_
    have hxR : (x :: R).Nodup := hp.nodup_iff.2 hnd
    have b1 := (det_forests hw h0 R.length).2 x R g (w j) (Nat.le_refl _) hxR
    have b2 : det (x :: R) (colM M j :: R.map (colM M)) = det (x :: R) ((fun k => - w j k) :: R.map (colM (LM w (x :: R) fun k => g k + w j k))) := det_entries1 _ _ _ _ _ _ (fun r hr => h4 r (hp.mem_iff.1 hr)) fun r hr y hy => by
      show M r y = _
      rw [h1 r (hp.mem_iff.1 hr) y (hp.mem_iff.1 (by simp [hy]))]
      show LM w L (fun k => g k + w j k) r y = LM w (x :: R) (fun k => g k + w j k) r y
      unfold LM
      rw [sm_perm (w r) hp]
    show M i x * det (x :: R) (colM M j :: R.map (colM M)) = _
    rw [b2, det_neg1, b1, h3 x (hp.mem_iff.1 (by simp))]
    grind
  rw [brd_front]
  show alt (det L) i (colM M j :: L.map (colM M)) = _
  rw [alt, a1]
  have a4 : alt (fun c => det L (colM M j :: c)) i (L.map (colM M)) = sp L fun W V => sm (w i) W * (Z w W (w j) * Z w V g) := by
    rw [← a3]
    simpa using a2
  rw [a4]
  show M i j * _ - _ = _
  rw [h2]
  grind
/-- Its size. -/
theorem brd_off_le {w : Nat → Nat → Int} (hw : ∀ i j, w i j = w j i) (h0 : ∀ i, w i i = 0) (hp : ∀ i j, 0 ≤ w i j) (M : Nat → Nat → Int) (L : List Nat) (i j : Nat) (g : Nat → Int) (hg : ∀ k, 0 ≤ g k) (hnd : L.Nodup)
    (h1 : ∀ a ∈ L, ∀ b ∈ L, M a b = LM w L (fun k => g k + w j k) a b) (h2 : M i j = - w i j) (h3 : ∀ x ∈ L, M i x = - w i x) (h4 : ∀ x ∈ L, M x j = - w j x) :
    brd M L i j ≤ 0 ∧ - ((w i j + sm (w i) L) * Z w L fun k => g k + w j k) ≤ brd M L i j := by
  rw [brd_off hw h0 M L i j g hnd h1 h2 h3 h4]
  have hZ := Z_nonneg hp L (g := fun k => g k + w j k) fun k => by have := hg k; have := hp j k; omega
  have hWV : ∀ U V, 0 ≤ Z w U (w j) * Z w V g := fun U V => Int.mul_nonneg (Z_nonneg hp U (hp j)) (Z_nonneg hp V hg)
  have e1 : sp L (fun W V => sm (w i) W * (Z w W (w j) * Z w V g)) ≤ sm (w i) L * Z w L fun k => g k + w j k := by
    rw [Z_split w g (w j) L.length L (Nat.le_refl _), ← sp_mul]
    refine sp_le fun U V hq => Int.mul_le_mul_of_nonneg_right ?_ (hWV U V)
    have := sm_perm (w i) hq
    rw [sm_app] at this
    have := sm_nonneg (hp i) V
    omega
  have e2 : 0 ≤ sp L (fun W V => sm (w i) W * (Z w W (w j) * Z w V g)) := by
    have := sp_le (X := L) (F := fun _ _ => 0) (G := fun W V => sm (w i) W * (Z w W (w j) * Z w V g)) fun U V _ => Int.mul_nonneg (sm_nonneg (hp i) U) (hWV U V)
    have hz : ∀ X : List Nat, sp X (fun _ _ => 0) = 0 := fun X => by
      have := sp_mul 0 X fun _ _ => 0
      simpa using this
    rw [hz] at this
    exact this
  have e3 := Int.mul_nonneg (hp i j) hZ
  rw [Int.add_mul]
  constructor <;> omega
end Go.Proofs.YtbbdiondhnmnaaaDoor
