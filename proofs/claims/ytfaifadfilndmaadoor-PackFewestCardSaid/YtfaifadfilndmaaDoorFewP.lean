/- How few boxes: one thing behind the other, a new box where it does not fit; which state is the lesser: in plain Lean. Conditions: none. -/
import Derived.Test.YtfaifadfilndmaaDoorRowP
namespace Go.Proofs.YtfaifadfilndmaaDoor
open Go.RowKit

/-- Boxes in use, and what stands in the last one. -/
abbrev FSt := Int × Int
def fLe (a b : FSt) : Prop := a.1 < b.1 ∨ (a.1 = b.1 ∧ a.2 ≤ b.2)
def fStep (room : Int) (s : FSt) (x : Int) : FSt := if room < s.2 + x then (s.1 + 1, x) else (s.1, s.2 + x)
theorem fLe_refl (a : FSt) : fLe a a := .inr ⟨rfl, Int.le_refl _⟩
theorem fLe_trans {a b c : FSt} (h : fLe a b) (k : fLe b c) : fLe a c := by unfold fLe at *; omega
theorem fLe_total (a b : FSt) : fLe a b ∨ fLe b a := by unfold fLe; omega
theorem fLe_anti {a b : FSt} (h : fLe a b) (k : fLe b a) : a = b := by
  obtain ⟨a1, a2⟩ := a
  obtain ⟨b1, b2⟩ := b
  unfold fLe at h k
  simp at h k
  have h1 : a1 = b1 := by omega
  have h2 : a2 = b2 := by omega
  rw [h1, h2]
theorem fStep_mono {room : Int} {a b : FSt} {x : Int} (h : fLe a b) (hb : 0 ≤ b.2) : fLe (fStep room a x) (fStep room b x) := by
  unfold fStep
  unfold fLe at h ⊢
  split <;> split <;> simp <;> omega
theorem fStep_last {room : Int} {a : FSt} {x : Int} (ha : 0 ≤ a.2) (hx : 0 ≤ x) : 0 ≤ (fStep room a x).2 := by
  unfold fStep
  split <;> simp <;> omega
/-- All of a list, one behind the other. -/
def fRun (room : Int) (sz : Nat → Int) (l : List Nat) : FSt := l.foldl (fun s i => fStep room s (sz i)) (0, room + 1)
theorem fRun_snoc (room : Int) (sz : Nat → Int) (l : List Nat) (i : Nat) : fRun room sz (l ++ [i]) = fStep room (fRun room sz l) (sz i) := by simp [fRun]
theorem fRun_last {room : Int} {sz : Nat → Int} (hr : 0 ≤ room) (hs : ∀ i, 0 ≤ sz i) (l : List Nat) : 0 ≤ (fRun room sz l).2 := by
  have : ∀ (l : List Nat) (s : FSt), 0 ≤ s.2 → 0 ≤ (l.foldl (fun s i => fStep room s (sz i)) s).2 := fun l => by
    induction l with
    | nil => exact fun s h => h
    | cons a l ih => exact fun s h => ih _ (fStep_last h (hs a))
  exact this l _ (by show (0 : Int) ≤ room + 1; omega)
/-- The least over all orders of some things. -/
structure FMin (room : Int) (sz : Nat → Int) (L : List Nat) (b : FSt) : Prop where
  is : ∃ l : List Nat, l.Perm L ∧ b = fRun room sz l
  le : ∀ l : List Nat, l.Perm L → fLe b (fRun room sz l)
theorem FMin.nil (room : Int) (sz : Nat → Int) : FMin room sz [] (0, room + 1) := ⟨⟨[], List.Perm.refl _, rfl⟩, fun l hl => by rw [hl.eq_nil]; exact fLe_refl _⟩
theorem FMin.same {room : Int} {sz : Nat → Int} {L : List Nat} {a b : FSt} (h : FMin room sz L a) (k : FMin room sz L b) : a = b := by
  obtain ⟨l, hl, ha⟩ := h.is
  obtain ⟨l', hl', hb⟩ := k.is
  exact fLe_anti (by rw [hb]; exact h.le l' hl') (by rw [ha]; exact k.le l hl)
/-- Some things' least, by the one that comes last. -/
theorem FMin.step {room : Int} {sz : Nat → Int} (hr : 0 ≤ room) (hs : ∀ i, 0 ≤ sz i) {L : List Nat} (hn : L ≠ []) {g : Nat → FSt} (hg : ∀ i ∈ L, FMin room sz (L.erase i) (g i)) {b : FSt} (hb : ∃ i ∈ L, b = fStep room (g i) (sz i)) (hle : ∀ i ∈ L, fLe b (fStep room (g i) (sz i))) : FMin room sz L b := by
  refine ⟨?_, fun l hl => ?_⟩
  · obtain ⟨i, hi, rfl⟩ := hb
    obtain ⟨l, hl, he⟩ := (hg i hi).is
    refine ⟨l ++ [i], ?_, by rw [fRun_snoc, he]⟩
    exact (List.perm_append_comm.trans (hl.cons i)).trans (List.perm_cons_erase hi).symm
  · rcases List.eq_nil_or_concat l with rfl | ⟨l', i, rfl⟩
    · exact absurd hl.symm.eq_nil hn
    · rw [List.concat_eq_append] at hl ⊢
      have hi : i ∈ L := hl.mem_iff.1 (by simp)
      have hl' : l'.Perm (L.erase i) := by
        have h1 : (i :: l').Perm L := (List.perm_append_comm (l₁ := [i]) (l₂ := l')).trans hl
        have h2 := (List.perm_cons_erase hi).symm
        exact (List.perm_cons i).1 (h1.trans h2.symm)
      rw [fRun_snoc]
      exact fLe_trans (hle i hi) (fStep_mono ((hg i hi).le l' hl') (fRun_last hr hs l'))
/-! ### A way to put them is no better -/
/-- Of some the sum. -/
def fSum (sz : Nat → Int) (l : List Nat) : Int := (l.map sz).sum
theorem fSum_cons (sz : Nat → Int) (a : Nat) (l : List Nat) : fSum sz (a :: l) = sz a + fSum sz l := by simp [fSum]
theorem fRun_append (room : Int) (sz : Nat → Int) (l k : List Nat) : fRun room sz (l ++ k) = k.foldl (fun s i => fStep room s (sz i)) (fRun room sz l) := by simp [fRun]
theorem fold_box {room : Int} {sz : Nat → Int} (hs : ∀ i, 0 ≤ sz i) (b : Int) : ∀ (l : List Nat) (s : FSt) (y : Int), fLe s (b, y) → 0 ≤ y → y + fSum sz l ≤ room → fLe (l.foldl (fun s i => fStep room s (sz i)) s) (b, y + fSum sz l)
  | [], s, y, h, _, _ => by simpa [fSum] using h
  | a :: l, s, y, h, h0, hr => by
    rw [fSum_cons] at hr ⊢
    have hnn : ∀ l : List Nat, 0 ≤ fSum sz l := fun l => by
      induction l with
      | nil => simp [fSum]
      | cons c l ih => rw [fSum_cons]; have := hs c; omega
    have h1 := fStep_mono (room := room) (x := sz a) h h0
    have h2 : fStep room (b, y) (sz a) = (b, y + sz a) := by
      unfold fStep
      rw [if_neg (by have := hnn l; show ¬ room < y + sz a; omega)]
    rw [h2] at h1
    have := fold_box (room := room) hs b l _ (y + sz a) h1 (by have := hs a; omega) (by omega)
    rw [List.foldl_cons, show y + (sz a + fSum sz l) = y + sz a + fSum sz l by omega]
    exact this
/-- A new box full behind some boxes: one box more at the most. -/
theorem fold_new {room : Int} {sz : Nat → Int} (hs : ∀ i, 0 ≤ sz i) {s : FSt} {b : Int} (h : s.1 ≤ b) (l : List Nat) (hr : fSum sz l ≤ room) : (l.foldl (fun s i => fStep room s (sz i)) s).1 ≤ b + 1 := by
  have h1 : fLe s (b + 1, 0) := .inl (by show s.1 < b + 1; omega)
  have := fold_box (room := room) hs (b + 1) l s 0 h1 (Int.le_refl _) (by omega)
  unfold fLe at this
  simp at this
  omega
/-- Box behind box: as many as there are, at the most. -/
theorem run_boxes {room : Int} {sz : Nat → Int} (hs : ∀ i, 0 ≤ sz i) : ∀ (ls : List (List Nat)), (∀ l ∈ ls, fSum sz l ≤ room) → ∀ (s : FSt) (b : Int), s.1 ≤ b → (ls.flatten.foldl (fun s i => fStep room s (sz i)) s).1 ≤ b + ls.length
  | [], _, s, b, h => by simpa using h
  | l :: ls, hl, s, b, h => by
    rw [List.flatten_cons, List.foldl_append]
    have h1 := fold_new (room := room) hs h l (hl l (by simp))
    have := run_boxes (room := room) hs ls (fun k hk => hl k (by simp [hk])) _ _ h1
    simp only [List.length_cons]
    omega
end Go.Proofs.YtfaifadfilndmaaDoor
