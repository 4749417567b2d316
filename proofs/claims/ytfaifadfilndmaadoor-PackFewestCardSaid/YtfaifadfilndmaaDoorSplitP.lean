/- Work for many hands in plain Lean: who has the least, who gets what. Conditions: none. -/
import Derived.Test.YtfaifadfilndmaaDoorPackP
namespace Go.Proofs.YtfaifadfilndmaaDoor

/-- The first of the places 0..m at which f is the least. -/
def amF (f : Nat → Int) : Nat → Nat
  | 0 => 0
  | h + 1 => if f (h + 1) < f (amF f h) then h + 1 else amF f h
theorem amF_le (f : Nat → Int) : ∀ m, amF f m ≤ m
  | 0 => Nat.le_refl _
  | h + 1 => by
    have := amF_le f h
    rw [amF]
    split <;> omega
theorem amF_min (f : Nat → Int) : ∀ m j, j ≤ m → f (amF f m) ≤ f j
  | 0, j, hj => by
    obtain rfl : j = 0 := by omega
    exact Int.le_refl _
  | h + 1, j, hj => by
    rw [amF]
    split
    · rename_i hlt
      by_cases hjh : j = h + 1
      · rw [hjh]; exact Int.le_refl _
      · have := amF_min f h j (by omega)
        omega
    · rename_i hge
      by_cases hjh : j = h + 1
      · rw [hjh]; omega
      · exact amF_min f h j (by omega)
theorem amF_first (f : Nat → Int) : ∀ m j, j < amF f m → f (amF f m) < f j
  | 0, j, hj => by rw [amF] at hj; omega
  | h + 1, j, hj => by
    rw [amF] at hj ⊢
    split at hj
    · rename_i hlt
      rw [if_pos hlt]
      have := amF_min f h j (by omega)
      omega
    · rename_i hge
      rw [if_neg hge]
      exact amF_first f h j hj
/-- The greatest of f 0 .. f (k - 1), and of 0. -/
def mxF (f : Nat → Int) : Nat → Int
  | 0 => 0
  | k + 1 => if mxF f k < f k then f k else mxF f k
theorem mxF_nonneg (f : Nat → Int) : ∀ k, 0 ≤ mxF f k
  | 0 => Int.le_refl _
  | k + 1 => by
    have := mxF_nonneg f k
    rw [mxF]
    split <;> omega
theorem mxF_one (f : Nat → Int) (h : 0 ≤ f 0) : mxF f 1 = f 0 := by
  rw [mxF, mxF]
  split <;> omega
theorem mxF_le {f : Nat → Int} {M : Int} (hM : 0 ≤ M) (h : ∀ j, f j ≤ M) : ∀ k, mxF f k ≤ M
  | 0 => hM
  | k + 1 => by
    rw [mxF]
    split
    · exact h k
    · exact mxF_le hM h k
theorem mxF_congr {f g : Nat → Int} : ∀ k, (∀ j, j < k → f j = g j) → mxF f k = mxF g k
  | 0, _ => rfl
  | k + 1, h => by rw [mxF, mxF, mxF_congr k (fun j hj => h j (by omega)), h k (by omega)]
theorem amF_congr {f g : Nat → Int} : ∀ m, (∀ j, j ≤ m → f j = g j) → amF f m = amF g m
  | 0, _ => rfl
  | h + 1, hh => by
    have e := amF_congr h (fun j hj => hh j (by omega))
    have hl := amF_le g h
    rw [amF, amF, e, hh (h + 1) (by omega), hh (amF g h) (by omega)]
/-- What each hand has. -/
def hasL (sz R : List Int) (H : Nat) : List Int := (List.range H).map fun h : Nat => inB sz R h
theorem hasL_length (sz R : List Int) (H : Nat) : (hasL sz R H).length = H := by simp [hasL]
theorem hasL_get (sz R : List Int) {H h : Nat} (hh : h < H) : (hasL sz R H).getD h 0 = inB sz R h := by simp [hasL, List.getD_eq_getElem?_getD, hh]
theorem hasL_set {n m H : Nat} {R : List Int} (hp : Placed n m R) (sz : List Int) {i k : Nat} (hi : i < n) (hno : R.getD i 0 = -1) (hk : k < H) : (hasL sz R H).set k (inB sz R k + sz.getD i 0) = hasL sz (R.set i k) H := by
  apply List.ext_getElem (by simp [hasL])
  intro h h1 h2
  have hH : h < H := by simpa [hasL] using h2
  rw [List.getElem_set]
  have e : (hasL sz (R.set i k) H)[h] = inB sz (R.set i k) h := by simp [hasL]
  have e2 : ∀ hh, (hasL sz R H)[h]'hh = inB sz R h := fun hh => by simp [hasL]
  rw [e, e2, inB_set hp sz hi hno]
  by_cases hkh : k = h
  · subst hkh
    rw [if_pos rfl, if_pos rfl]
  · rw [if_neg hkh, if_neg hkh]
    omega
/-- One more is given. -/
def giveS (sz : List Int) (H : Nat) (R : List Int) (i : Int) : List Int := R.set i.toNat (amF (fun h => inB sz R h) (H - 1) : Nat)
def givR (sz : List Int) (H : Nat) (od : List Int) : List Int := od.foldl (giveS sz H) (List.replicate sz.length (-1))
theorem givR_snoc (sz : List Int) (H : Nat) (od : List Int) (i : Int) : givR sz H (od ++ [i]) = giveS sz H (givR sz H od) i := by simp [givR, List.foldl_append]
theorem has_idx (sz R : List Int) {H : Nat} (hH : 0 < H) : idxF (fun y => inB sz R (amF (fun h => inB sz R h) (H - 1) : Nat) == y) (hasL sz R H) = amF (fun h => inB sz R h) (H - 1) := by
  have hle := amF_le (fun h : Nat => inB sz R h) (H - 1)
  refine idxF_at (k := amF (fun h : Nat => inB sz R h) (H - 1)) (by rw [hasL_length]; omega) ?_ (by simp [hasL])
  rw [List.any_eq_false]
  intro x hx
  unfold hasL at hx
  rw [← List.map_take] at hx
  obtain ⟨j, hj, rfl⟩ := List.mem_map.1 hx
  rw [List.take_range, List.mem_range] at hj
  have := amF_first (fun h : Nat => inB sz R h) (H - 1) j (by omega)
  simp
  omega
def handBad (x : Int) : Bool := decide (x < 0) || decide (1048576 < x)
def splitCheck (sz : List Int) (hands : Int) : Int := if 8 < sz.length then 1 else if hands < 1 ∨ 4 < hands then 4 else if sz.any handBad then 4 else 0
theorem split_good {sz : List Int} {hands : Int} (h : splitCheck sz hands = 0) : sz.length ≤ 8 ∧ (∃ H : Nat, hands = H ∧ 1 ≤ H ∧ H ≤ 4) ∧ ∀ i, 0 ≤ sz.getD i 0 ∧ sz.getD i 0 ≤ 1048576 := by
  unfold splitCheck at h
  split at h
  · omega
  · split at h
    · omega
    · split at h
      · omega
      · rename_i h1 h2 h3
        refine ⟨by omega, ⟨hands.toNat, by omega, by omega, by omega⟩, fun i => ?_⟩
        by_cases hi : i < sz.length
        · have e := getD_at sz i hi 0
          rw [e]
          have := List.any_eq_false.1 (by simpa using h3) sz[i] (List.getElem_mem hi)
          unfold handBad at this
          simp at this
          omega
        · have : sz.getD i 0 = 0 := by simp [List.getD_eq_getElem?_getD, show sz.length ≤ i by omega]
          omega
theorem placed_start (n H : Nat) : Placed n H (List.replicate n (-1 : Int)) := ⟨by simp, fun i hi => by simp [List.getD_eq_getElem?_getD, hi], fun i hi => by simp [List.getD_eq_getElem?_getD, hi]; omega⟩
theorem givR_inv {sz od : List Int} {n H : Nat} (hn : sz.length = n) (hH : 0 < H) (hnd : od.Nodup) (ho : ∀ x ∈ od, 0 ≤ x ∧ x < n) : ∀ k, k ≤ od.length → Placed n H (givR sz H (od.take k)) ∧ ∀ i : Nat, i < n → ((givR sz H (od.take k)).getD i 0 ≠ -1 ↔ (i : Int) ∈ od.take k)
  | 0, _ => by
    have e : givR sz H (od.take 0) = List.replicate n (-1) := by rw [← hn]; rfl
    rw [e]
    refine ⟨placed_start n H, fun i hi => ?_⟩
    simp [List.getD_eq_getElem?_getD, hi]
  | k + 1, hk => by
    have hkl : k < od.length := by omega
    obtain ⟨h1, h2⟩ := givR_inv hn hH hnd ho k (by omega)
    have hx := ho _ (List.getElem_mem hkl)
    obtain ⟨i, hi⟩ := Int.eq_ofNat_of_zero_le hx.1
    have hin : i < n := by omega
    rw [List.take_succ_eq_append_getElem hkl, givR_snoc, hi]
    have hle := amF_le (fun h : Nat => inB sz (givR sz H (od.take k)) h) (H - 1)
    unfold giveS
    rw [Int.toNat_natCast]
    refine ⟨?_, fun j hj => ?_⟩
    · have := h1.set_ (i := i) (j := amF (fun h : Nat => inB sz (givR sz H (od.take k)) h) (H - 1)) hin (by omega)
      rwa [Nat.max_eq_left (by omega)] at this
    · rw [List.mem_append, List.mem_singleton]
      by_cases hij : i = j
      · subst hij
        rw [getD_set_eq _ _ _ (by rw [h1.len]; exact hin)]
        exact ⟨fun _ => .inr rfl, fun _ => by omega⟩
      · rw [getD_set_ne _ _ _ _ hij, h2 j hj]
        exact ⟨.inl, fun h => h.elim id fun e => absurd (by omega) hij⟩
theorem givR_free {sz od : List Int} {n H : Nat} (hn : sz.length = n) (hH : 0 < H) (hnd : od.Nodup) (ho : ∀ x ∈ od, 0 ≤ x ∧ x < n) {k i : Nat} (hk : k < od.length) (hi : od[k] = (i : Int)) (hin : i < n) : (givR sz H (od.take k)).getD i 0 = -1 := by
  rcases Classical.em ((givR sz H (od.take k)).getD i 0 = -1) with h | h
  · exact h
  · have h1 := ((givR_inv hn hH hnd ho k (by omega)).2 i hin).1 h
    have h2 : (od.take (k + 1)).Nodup := hnd.sublist (List.take_sublist _ _)
    rw [List.take_succ_eq_append_getElem hk, hi] at h2
    have := (List.nodup_append.1 h2).2.2 _ h1 (i : Int) (by simp)
    exact absurd rfl this
theorem givR_filled {sz od : List Int} {n H : Nat} (hn : sz.length = n) (hH : 0 < H) (hnd : od.Nodup) (ho : ∀ x ∈ od, 0 ≤ x ∧ x < n) (hall : ∀ i : Nat, i < n → (i : Int) ∈ od) : filled (givR sz H od) = givR sz H od := by
  have h := givR_inv hn hH hnd ho od.length (Nat.le_refl _)
  rw [List.take_length] at h
  exact filled_all h.1 fun i hi => (h.2 i hi).2 (hall i hi)
theorem has_min (sz R : List Int) {H : Nat} (hH : 0 < H) : (hasL sz R H).getD (amF (fun j => (hasL sz R H).getD j 0) (H - 1)) 0 = inB sz R (amF (fun h => inB sz R h) (H - 1) : Nat) := by
  have e := amF_congr (f := fun j => (hasL sz R H).getD j 0) (g := fun h : Nat => inB sz R h) (H - 1) (fun j hj => hasL_get sz R (by omega))
  have hle := amF_le (fun h : Nat => inB sz R h) (H - 1)
  rw [e, hasL_get sz R (by omega)]
theorem has_max (sz R : List Int) (H : Nat) : mxF (fun j => (hasL sz R H).getD j 0) H = mxF (fun h => inB sz R h) H := mxF_congr H fun j hj => hasL_get sz R hj
theorem has_start (sz : List Int) (n H : Nat) : hasL sz (List.replicate n (-1)) H = List.replicate H 0 := by
  apply List.ext_getElem (by simp [hasL])
  intro h h1 h2
  have e : (hasL sz (List.replicate n (-1)) H)[h] = inB sz (List.replicate n (-1)) h := by simp [hasL]
  rw [e, List.getElem_replicate]
  exact inTo_none sz _ h _ fun i hi => by
    rw [List.length_replicate] at hi
    simp [List.getD_eq_getElem?_getD, hi]
theorem inB_bounds {sz R : List Int} {n : Nat} (hR : R.length = n) (h8 : n ≤ 8) (hb : ∀ i, 0 ≤ sz.getD i 0 ∧ sz.getD i 0 ≤ 1048576) (j : Int) : 0 ≤ inB sz R j ∧ inB sz R j ≤ 8388608 := by
  have := inTo_bounds sz R j 1048576 hb R.length
  unfold inB
  omega
end Go.Proofs.YtfaifadfilndmaaDoor
