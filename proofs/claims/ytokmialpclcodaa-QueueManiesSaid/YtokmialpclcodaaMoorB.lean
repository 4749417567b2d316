/- slices.Delete of one number. Conditions: the slice is a row of its own; the number is there. -/
import Derived.Test.YtokmialpclcodaaMoorA
import Derived.Test.YtokmialpclcodaaDelG
import Derived.Deep.RegionLaw
namespace Go.Proofs.Ytokmialpclcodaa
open Go.RowKit

theorem own_lay {B cap g : Nat} {e : TypeId} {f : Int → Value} : ∀ (xs : List Int) (o : Nat) (w : World) (L : List Int), o + xs.length ≤ L.length → Own w B e 1 (fun a => [f a]) (some ⟨g, 0, none⟩) cap L → ∃ L', L'.length = L.length ∧ L'.take (o + xs.length) = L.take o ++ xs ∧ Own (w.setCells g o (xs.map f)) B e 1 (fun a => [f a]) (some ⟨g, 0, none⟩) cap L' ∧ w.grownBy (w.setCells g o (xs.map f)) (some g)
  | [], o, w, L, _, h => ⟨L, rfl, by simp, h, World.grownBy.refl w _⟩
  | x :: xs, o, w, L, hk, h => by
    have hk' : o + (xs.length + 1) ≤ L.length := hk
    obtain ⟨L', h1, h2, h3, h4⟩ := own_lay xs (o + 1) (w.setCell ⟨g, o, none⟩ (f x)) (L.set o x) (by rw [List.length_set]; omega) (h.put1 (by omega))
    refine ⟨L', by rw [h1, List.length_set], ?_, h3, gb_trans (gb_setCell w g o _) h4⟩
    rw [List.length_cons, show o + (xs.length + 1) = o + 1 + xs.length by omega, h2]
    rw [List.take_succ_eq_append_getElem (by rw [List.length_set]; omega), List.getElem_set_self, List.take_set_of_le (Nat.le_refl _)]
    simp
set_option maxRecDepth 100000 in
set_option maxHeartbeats 1000000 in
theorem Delete_long (A : Option Addr) (n B cap k : Nat) (x : Int) (l : List Int) (w : World) (hl : l.length = n) (hk : k < n) (hx : x = ((k + 1 : Nat) : Int)) (hn : n ≤ 65536) (ho : Own w B 2 1 icell A cap l) :
    Calls Try.prog 39 #[.slice A n cap, .int .i64 (k : Int), .int .i64 x] w fun e w' => e = .returned (.slice A (n - 1) cap) ∧ Own w' B 2 1 icell A cap (l.take k ++ l.drop (k + 1)) ∧ w.grownBy w' (blkOf A) := by
  obtain ⟨g, rfl, hgB, -, -, -⟩ := ho.cell1 (f := fun x : Int => Value.int .i64 x) (k := k) (by omega)
  have hcap := ho.cap_le
  rw [hl] at hcap
  obtain ⟨j, hj⟩ : ∃ j, j = k + 1 := ⟨_, rfl⟩
  rw [← hj] at hx ⊢
  subst hx
  obtain ⟨i0, hi0, _, hz1, _⟩ := info_parts (P := Try.prog) (e := 2) (z := .int .i64 0) (size := 1) (bytes := 8) (by kernel_rfl)
  obtain ⟨ad, had, hsrc⟩ : ∃ ad : Addr, (if cap = j then some (⟨g, 0, none⟩ : Addr) else (some ⟨g, 0, none⟩ : Option Addr).map (·.add (j * 1))) = some ad ∧ Hid (∀ t u, ((l.drop j).map fun x : Int => Value.int .i64 x)[t]? = some u → w.drew.cell? (ad.add t) = some u) := by
    by_cases h : cap = j
    · refine ⟨⟨g, 0, none⟩, by rw [if_pos h], fun t u hu => ?_⟩
      rw [List.drop_of_length_le (by omega)] at hu
      simp at hu
    · refine ⟨⟨g, j, none⟩, by rw [if_neg h]; simp [addr_add], fun t u hu => ?_⟩
      rw [List.getElem?_map, List.getElem?_drop] at hu
      obtain ⟨y, hy, rfl⟩ := Option.map_eq_some_iff.1 hu
      obtain ⟨hy1, hy2⟩ := List.getElem?_eq_some_iff.1 hy
      obtain ⟨g', hg', _, _, r, _⟩ := ho.cell1 (f := fun x : Int => Value.int .i64 x) (k := j + t) hy1
      have : g = g' := by simpa using hg'
      subst this
      rw [addr_add]
      show w.cell? _ = _
      rw [r, hy2]
  have hct : ∀ W0 : World, (Instr.slice 46 (.slice (some ⟨g, 0, none⟩) n cap) (some (.int .i64 (j : Int))) none none).run Try.prog W0 = .ok (.slice (some ad) (n - j) (cap - j)) W0 := fun W0 => by
    have := run_tail Try.underlying46 (fun w => by kernel_rfl) (some ⟨g, 0, none⟩) n cap j (by omega) hcap (by omega) W0
    rw [this, had]
  have s1 : Hid (((l.drop j).map fun x : Int => Value.int .i64 x).length = (n - j) * 1) := by
    show ((l.drop j).map fun x : Int => Value.int .i64 x).length = (n - j) * 1
    rw [List.length_map, List.length_drop, hl, Nat.mul_one]
  have s2 : Hid (∀ u ∈ (l.drop j).map fun x : Int => Value.int .i64 x, u.oneCell' = true) := fun u hu => by
    obtain ⟨y, _, rfl⟩ := List.mem_map.1 hu
    rfl
  have s3 : Hid (∀ t, t < ((l.drop j).map fun x : Int => Value.int .i64 x).length → (w.drew.cell? ⟨g, 0 + k * 1 + t, none⟩).isSome = true ∧ w.drew.frozen? ⟨g, 0 + k * 1 + t, none⟩ = false) := fun t ht => by
    rw [s1.out] at ht
    obtain ⟨g', hg', _, _, r, f⟩ := ho.cell1 (f := fun x : Int => Value.int .i64 x) (k := k + t) (by omega)
    have : g = g' := by simpa using hg'
    subst this
    rw [Nat.mul_one, Nat.zero_add]
    exact ⟨by show (w.cell? _).isSome = true; rw [r]; rfl, f⟩
  obtain ⟨L1, e1, e2, e3, e4⟩ := own_lay (f := fun x : Int => Value.int .i64 x) (l.drop j) k w.drew l (by rw [List.length_drop]; omega) ho.drew
  obtain ⟨W1, hW1⟩ : ∃ W1, W1 = w.drew.setCells g (0 + k * 1) ((l.drop j).map fun x : Int => Value.int .i64 x) := ⟨_, rfl⟩
  rw [show k = 0 + k * 1 by omega, ← hW1] at e3 e4
  obtain ⟨m, hm⟩ : ∃ m, m = k + (n - j) := ⟨_, rfl⟩
  have hcl : ∀ ty, (Builtin.clear_ #[46] ty #[.slice (some ⟨g, m, none⟩) (n - m) (cap - m)]).run Try.prog W1 = .ok (.tuple #[]) (W1.setCells g m (List.replicate (n - m) (.int .i64 0))) := fun ty =>
    Lib.run_clear_slice (P := Try.prog) W1 46 2 ty (.int .i64 0) Try.underlying46 (fun w => by kernel_rfl) rfl rfl g m (n - m) (cap - m) (by omega) (fun q hq => by
      obtain ⟨g', hg', _, _, r, _⟩ := e3.cell1 (f := fun x : Int => Value.int .i64 x) (k := m + q) (by omega)
      have : g' = g := by simpa using hg'.symm
      subst this
      rw [r]; rfl) (fun q hq => by
      obtain ⟨g', hg', _, _, _, f⟩ := e3.cell1 (f := fun x : Int => Value.int .i64 x) (k := m + q) (by omega)
      have : g' = g := by simpa using hg'.symm
      subst this
      exact f)
  have hct2 : ∀ W0 : World, (Instr.slice 46 (.slice (some ⟨g, 0, none⟩) m cap) (some (.int .i64 (m : Int))) (some (.int .i64 (n : Int))) none).run Try.prog W0 = .ok (.slice (some ⟨g, m, none⟩) (n - m) (cap - m)) W0 := fun W0 => by
    have h1 : (0 : Int) ≤ (m : Int) ∧ (m : Int) ≤ (n : Int) := by omega
    have h2 : (0 : Int) ≤ (n : Int) ∧ (n : Int) ≤ (cap : Int) := by omega
    have hne : ¬ cap = m := by omega
    have hs : ∀ w, (sizeOf 2).run Try.prog w = .ok 1 w := fun w => by kernel_rfl
    have h3 : n ≤ cap := by omega
    have h4 : m ≤ n := by omega
    simp [Instr.slice, run_underlying Try.underlying46, Instr.sliceBounds, Instr.sliceBound, asIntOf, hs, Result.andThen, addr_add, h3, h4, hne]
  obtain ⟨L2, d1, d2, d3, d4⟩ := own_setCells (w := W1) (f := fun x : Int => Value.int .i64 x) 0 (n - m) m W1 L1 (by omega) e3
  have hfin := d3.first m
  rw [d2] at hfin
  have hLm : L1.take m = l.take k ++ l.drop j := by
    have : k + (l.drop j).length = m := by rw [List.length_drop, hl, hm]
    rw [← this]; exact e2
  rw [hLm] at hfin
  have HF := Lib.hid hfin
  have HG := Lib.hid (gb_trans e4 d4)
  have hW : Hid (W1 = w.drew.setCells g (0 + k * 1) ((l.drop j).map fun x : Int => Value.int .i64 x)) := hW1
  obtain ⟨news, hnews⟩ : ∃ news, news = (l.drop j).map fun x : Int => Value.int .i64 x := ⟨_, rfl⟩
  rw [← hnews] at s1 s2 s3 hsrc hW
  have HM := Lib.hid hm
  have HJ := Lib.hid hj
  have hkc : k ≤ cap := by omega
  have hjc : j ≤ cap := by omega
  have hkj : k < j := by omega
  have hjn : j ≤ n := by omega
  have hne : ((k : Int) == (j : Int)) = false := by rw [beq_eq_false_iff_ne]; omega
  have hmn : m = n - 1 := by omega
  have HMN := Lib.hid hmn
  obtain ⟨W2, hW2⟩ : ∃ W2, W2 = W1.setCells g m (List.replicate (n - m) (.int .i64 0)) := ⟨_, rfl⟩
  rw [← hW2] at hcl HF HG
  clear ho hl hW1 e1 e2 e3 e4 d1 d2 d3 d4 hfin hLm hnews had hmn hj hm hW2
  go_enter Try.func39, Try.ntmps39
  go_wp2_with fail
  go_region_law (refine step_append_room rfl (.tmp 22) (.tmp 25) 46 rfl 2 i0 1 Try.underlying46 hi0 hz1 g 0 k cap (by simp [Act.eval, Act.put]) ad (n - j) (cap - j) news (by simp [Act.eval, Act.put]) s1.out hsrc.out s2.out (by omega) s3.out ?_; rw [← hW.out, ← HM.out])
  go_wp2_with fail
  go_ret
  exact ⟨by rw [HMN.out]; rfl, HF.out, gb_trans (b := w.drew) ⟨rfl, rfl, rfl, Nat.le_refl _, fun _ _ _ => rfl⟩ HG.out⟩
end Go.Proofs.Ytokmialpclcodaa
