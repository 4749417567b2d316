/- A table of rows that grow; a list of rows that are done. Conditions: none. -/
import Derived.Test.YtjkfogkpacmdlaaLanesApart26
import Derived.Test.YtjkfogkpacmdlaaLanesApart2
import Derived.Test.YtjkfogkpacmdlaaLanesApart7
namespace Go.Proofs.Ytjkfogkpacmdlaa
open Go.RowKit

abbrev slG (s : Sls Int) : List Value := [s.val]
def rwG (rows : List (Sls Int)) (j : Nat) : Sls Int := rows.getD j ⟨none, 0, []⟩
theorem own_cellsG {α : Type} {w : World} {B c cap : Nat} {e : TypeId} {f : α → List Value} {A : Option Addr} {l : List α} (h : Own w B e c f A cap l) {g : Nat} (hg : blkOf A = some g) : ∃ cur, Blk w g e cur := by
  rcases h.2.2 with hn | ⟨g', cp, cur', hv, hb', hg', r⟩
  · have hAn : A = none := by
      have := hn.1
      simp only [Value.slice.injEq] at this
      exact this.1
    rw [hAn] at hg
    cases hg
  · have hA' : A = some ⟨g', 0, none⟩ := by
      simp only [Value.slice.injEq] at hv
      exact hv.1
    rw [hA'] at hg
    have : g' = g := by simpa [blkOf] using hg
    subst this
    exact ⟨cur', hg'⟩
theorem getD_set_G {α : Type} (l : List α) (j q : Nat) (x d : α) (hj : j < l.length) : (l.set j x).getD q d = if j = q then x else l.getD q d := by
  simp only [List.getD_eq_getElem?_getD, List.getElem?_set]
  by_cases h : j = q
  · subst h
    simp [hj]
  · simp [h]
structure TabG (w : World) (lo gt N : Nat) (rows : List (Sls Int)) : Prop where
  tab : Own w lo 30 1 slG (some ⟨gt, 0, none⟩) N rows
  row : ∀ j, j < N → Own w lo 3 1 icell (rwG rows j).A (rwG rows j).c (rwG rows j).l
  far : ∀ i j : Nat, i < N → j < N → i ≠ j → ∀ g, blkOf (rwG rows i).A = some g → blkOf (rwG rows j).A ≠ some g
  rl : rows.length = N
theorem TabG.below {w w' : World} {lo gt N B : Nat} {rows : List (Sls Int)} (h : TabG w lo gt N rows) (hb : Below B w w') (hB : w.heap.size ≤ B) : TabG w' lo gt N rows :=
  ⟨h.tab.below hb hB, fun j hj => (h.row j hj).below hb hB, h.far, h.rl⟩
theorem TabG.alloc {w : World} {lo gt N : Nat} {rows : List (Sls Int)} (h : TabG w lo gt N rows) (o : Obj) : TabG (w.alloc o) lo gt N rows := h.below ((Below.refl _ w).alloc (Nat.le_refl _) o) (Nat.le_refl _)
theorem TabG.drew {w : World} {lo gt N : Nat} {rows : List (Sls Int)} (h : TabG w lo gt N rows) : TabG w.drew lo gt N rows := h.below (Below.refl _ w).drew (Nat.le_refl _)
theorem TabG.lt {w : World} {lo gt N : Nat} {rows : List (Sls Int)} (h : TabG w lo gt N rows) : lo ≤ gt ∧ gt < w.heap.size := h.tab.lt gt rfl
/-- The cell of a row. -/
theorem TabG.at_ {w : World} {lo gt N : Nat} {rows : List (Sls Int)} (h : TabG w lo gt N rows) {j : Nat} (hj : j < N) : w.cell? ⟨gt, j, none⟩ = some (rwG rows j).val ∧ w.frozen? ⟨gt, j, none⟩ = false := by
  obtain ⟨g, hg, _, _, h1, h2⟩ := h.tab.cell1 (f := fun s : Sls Int => s.val) (k := j) (by rw [h.rl]; exact hj)
  have : g = gt := by simpa using hg.symm
  subst this
  refine ⟨?_, h2⟩
  rw [h1]
  unfold rwG
  rw [getD_at rows j (by rw [h.rl]; exact hj)]
/-- One more in a row: the row has grown, its slice has been put. -/
theorem TabG.put {w w2 : World} {lo gt N k : Nat} {rows : List (Sls Int)} {s : Sls Int} (h : TabG w lo gt N rows) (hk : k < N) (hg : w.grownBy w2 (blkOf (rwG rows k).A)) (hs : Own w2 lo 3 1 icell s.A s.c s.l) (hloc : blkOf s.A = blkOf (rwG rows k).A ∨ blkOf s.A = some w.heap.size) :
    TabG (w2.setCell ⟨gt, k, none⟩ s.val) lo gt N (rows.set k s) := by
  have hkl : k < rows.length := by rw [h.rl]; exact hk
  have hat : ∀ j, rwG (rows.set k s) j = if k = j then s else rwG rows j := fun j => getD_set_G rows k j s _ hkl
  have htab2 : Own w2 lo 30 1 slG (some ⟨gt, 0, none⟩) N rows := h.tab.kept hg (Own.apart h.tab (h.row k hk) (by decide))
  have hfar : ∀ j, j < N → j ≠ k → ∀ g, blkOf s.A = some g → blkOf (rwG rows j).A ≠ some g := fun j hj hne g hgs e => by
    rcases hloc with e2 | e2
    · exact h.far j k hj hk hne g e (by rw [← e2]; exact hgs)
    · have h1 : g = w.heap.size := by rw [hgs] at e2; simpa using e2
      have h2 := ((h.row j hj).lt g e).2
      omega
  have hty : ∀ {A : Option Addr} {cap : Nat} {l : List Int}, Own w2 lo 3 1 icell A cap l → Own (w2.setCell ⟨gt, k, none⟩ s.val) lo 3 1 icell A cap l := fun ho =>
    ho.far (p := ⟨gt, k, none⟩) (fun e => by
      obtain ⟨cur, hcur⟩ := own_cellsG ho e
      exact own_far_blk htab2 hcur (by decide) rfl) _
  refine ⟨htab2.put1 (f := fun s : Sls Int => s.val) hkl, fun j hj => ?_, fun i j hi hj hne g hgi => ?_, by rw [List.length_set]; exact h.rl⟩
  · rw [hat]
    by_cases hjk : k = j
    · rw [if_pos hjk]
      exact hty hs
    · rw [if_neg hjk]
      refine hty ((h.row j hj).kept hg ?_)
      cases hA : blkOf (rwG rows j).A with
      | none => exact .inl rfl
      | some g => exact .inr fun e => h.far j k hj hk (fun e => hjk e.symm) g hA e.symm
  · rw [hat] at hgi ⊢
    by_cases hik : k = i
    · rw [if_pos hik] at hgi
      rw [if_neg (by omega)]
      exact hfar j hj (by omega) g hgi
    · rw [if_neg hik] at hgi
      by_cases hjk : k = j
      · rw [if_pos hjk]
        exact fun e => hfar i hi (by omega) g e hgi
      · rw [if_neg hjk]
        exact h.far i j hi hj hne g hgi
/-- As many empty rows. -/
theorem TabG.made {w : World} {lo gt N : Nat} (h : Own w lo 30 1 slG (some ⟨gt, 0, none⟩) N (List.replicate N ⟨none, 0, []⟩)) : TabG w lo gt N (List.replicate N ⟨none, 0, []⟩) := by
  have hat : ∀ j, rwG (List.replicate N ⟨none, 0, []⟩) j = ⟨none, 0, []⟩ := fun j => by
    unfold rwG
    rw [List.getD_eq_getElem?_getD, List.getElem?_replicate]
    split <;> rfl
  refine ⟨h, fun j _ => ?_, fun i j _ _ _ g hg => ?_, List.length_replicate⟩
  · rw [hat]
    exact Own.nil _ _ _ (fun _ => rfl)
  · rw [hat] at hg
    cases hg

/-- Rows that are done, in a list of their own. -/
structure OutG (w : World) (B : Nat) (A : Option Addr) (cap : Nat) (ways : List (Sls Int)) : Prop where
  tab : Own w B 30 1 slG A cap ways
  row : ∀ s ∈ ways, Own w B 3 1 icell s.A s.c s.l
theorem OutG.nil (w : World) (B : Nat) : OutG w B none 0 [] := ⟨Own.nil _ _ _ (fun _ => rfl), fun s hs => by cases hs⟩
theorem OutG.below {w w' : World} {B B' cap : Nat} {A : Option Addr} {ways : List (Sls Int)} (h : OutG w B A cap ways) (hb : Below B' w w') (hB : w.heap.size ≤ B') : OutG w' B A cap ways :=
  ⟨h.tab.below hb hB, fun s hs => (h.row s hs).below hb hB⟩
theorem OutG.alloc {w : World} {B cap : Nat} {A : Option Addr} {ways : List (Sls Int)} (h : OutG w B A cap ways) (o : Obj) : OutG (w.alloc o) B A cap ways := h.below ((Below.refl _ w).alloc (Nat.le_refl _) o) (Nat.le_refl _)
/-- Another row of numbers grows. -/
theorem OutG.beside {w w2 : World} {B cap c : Nat} {A Ac : Option Addr} {ways : List (Sls Int)} {l : List Int} (h : OutG w B A cap ways) (hc : Own w B 3 1 icell Ac c l) (hf : ∀ s ∈ ways, ∀ g, blkOf s.A = some g → blkOf Ac ≠ some g) (hg : w.grownBy w2 (blkOf Ac)) : OutG w2 B A cap ways :=
  ⟨h.tab.kept hg (Own.apart h.tab hc (by decide)), fun s hs => (h.row s hs).kept hg (by
    cases hA : blkOf s.A with
    | none => exact .inl rfl
    | some g => exact .inr fun e => hf s hs g hA e.symm)⟩
/-- What is told grows by a row. -/
theorem OutG.more {w w2 : World} {B cap cap2 : Nat} {A A2 : Option Addr} {ways : List (Sls Int)} {s : Sls Int} (h : OutG w B A cap ways) (hs : Own w B 3 1 icell s.A s.c s.l) (hg : w.grownBy w2 (blkOf A)) (h2 : Own w2 B 30 1 slG A2 cap2 (ways ++ [s])) : OutG w2 B A2 cap2 (ways ++ [s]) :=
  ⟨h2, fun u hu => by
    rcases List.mem_append.1 hu with hu | hu
    · exact (h.row u hu).kept hg (Own.apart (h.row u hu) h.tab (by decide))
    · rw [List.mem_singleton] at hu
      subst hu
      exact hs.kept hg (Own.apart hs h.tab (by decide))⟩
end Go.Proofs.Ytjkfogkpacmdlaa
