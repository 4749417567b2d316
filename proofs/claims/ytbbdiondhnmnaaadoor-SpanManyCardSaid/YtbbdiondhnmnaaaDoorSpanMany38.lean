/- A table of numbers: rows in blocks of their own behind a slice of rows. Conditions: none. -/
import Derived.Test.YtbbdiondhnmnaaaDoorSpanMany24
import Derived.Test.YtbbdiondhnmnaaaDoorSpanMany25
import Derived.Test.YtbbdiondhnmnaaaDoorSpanMany6
import Derived.Test.YtbbdiondhnmnaaaDoorSpanMany29
namespace Go.Proofs.YtbbdiondhnmnaaaDoor
open Go.RowKit

abbrev rowV (N : Nat) (p : Nat × Nat) : Value := .slice (some ⟨p.1, 0, none⟩) N p.2
abbrev rowF (N : Nat) (p : Nat × Nat) : List Value := [rowV N p]
def rowL (N : Nat) (f : Nat → Int) : List Int := (List.range N).map f
theorem rowL_len (N : Nat) (f : Nat → Int) : (rowL N f).length = N := mapR_len f N
theorem rowL_succ (k : Nat) (f : Nat → Int) : rowL (k + 1) f = rowL k f ++ [f k] := map_range_succ f k
def pAt (P : List (Nat × Nat)) (i : Nat) : Nat × Nat := P.getD i (0, 0)
/-- So many rows of N numbers each. -/
structure Mat (W : World) (B N : Nat) (A : Option Addr) (c : Nat) (P : List (Nat × Nat)) (M : Nat → Nat → Int) : Prop where
  out : Own W B 40 1 (rowF N) A c P
  row : ∀ i, i < P.length → Own W B 3 1 icell (some ⟨(pAt P i).1, 0, none⟩) (pAt P i).2 (rowL N (M i))
  ne : ∀ i j, i < P.length → j < P.length → i ≠ j → (pAt P i).1 ≠ (pAt P j).1
theorem Mat.nil (W : World) (B N : Nat) (M : Nat → Nat → Int) : Mat W B N none 0 [] M := ⟨Own.nil _ _ _ (fun _ => rfl), fun i h => absurd h (by simp), fun i j h => absurd h (by simp)⟩
theorem Mat.below {W W' : World} {B N c : Nat} {A : Option Addr} {P : List (Nat × Nat)} {M : Nat → Nat → Int} (h : Mat W B N A c P M) (hb : Below W.heap.size W W') : Mat W' B N A c P M :=
  ⟨h.out.below hb (Nat.le_refl _), fun i hi => (h.row i hi).below hb (Nat.le_refl _), h.ne⟩
theorem Mat.drewN {W : World} {B N c : Nat} {A : Option Addr} {P : List (Nat × Nat)} {M : Nat → Nat → Int} (h : Mat W B N A c P M) (n : Nat) : Mat (W.drewN n) B N A c P M :=
  ⟨h.out.drewN n, fun i hi => (h.row i hi).drewN n, h.ne⟩
theorem Mat.low {W : World} {B N c : Nat} {A : Option Addr} {P : List (Nat × Nat)} {M : Nat → Nat → Int} (h : Mat W B N A c P M) {p : Addr} (hp : p.block < B) (u : Value) : Mat (W.setCell p u) B N A c P M :=
  ⟨h.out.low hp u, fun i hi => (h.row i hi).low hp u, h.ne⟩
theorem Mat.weaken {W : World} {B B' N c : Nat} {A : Option Addr} {P : List (Nat × Nat)} {M : Nat → Nat → Int} (h : Mat W B N A c P M) (hB : B' ≤ B) : Mat W B' N A c P M :=
  ⟨h.out.weaken hB, fun i hi => (h.row i hi).weaken hB, h.ne⟩
theorem pAt_app {P : List (Nat × Nat)} {i : Nat} (q : Nat × Nat) (h : i < P.length) : pAt (P ++ [q]) i = pAt P i := by
  simp [pAt, List.getD_eq_getElem?_getD, List.getElem?_append_left h]
theorem pAt_end (P : List (Nat × Nat)) (q : Nat × Nat) : pAt (P ++ [q]) P.length = q := by simp [pAt, List.getD_eq_getElem?_getD]
theorem pAt_at {P : List (Nat × Nat)} {i : Nat} (h : i < P.length) : pAt P i = P[i] := getD_at P i h _
/-- The row at hand lies apart from those that are in. -/
def Apart (P : List (Nat × Nat)) (g : Nat) : Prop := ∀ i, i < P.length → (pAt P i).1 ≠ g
/-- A row more, the world grown at the outer row alone. -/
theorem Mat.snoc {W V W' : World} {B N c c' : Nat} {A A' : Option Addr} {P : List (Nat × Nat)} {M : Nat → Nat → Int} {g d : Nat} (h : Mat W B N A c P M) (hn : Own W B 3 1 icell (some ⟨g, 0, none⟩) d (rowL N (M P.length))) (hap : Apart P g)
    (o : Obj) (hV : V = W.alloc o) (ho : Own W' B 40 1 (rowF N) A' c' (P ++ [(g, d)])) (hg : V.grownBy W' (blkOf A)) : Mat W' B N A' c' (P ++ [(g, d)]) M := by
  subst hV
  have hk : ∀ (g' d' : Nat) (L : List Int), Own W B 3 1 icell (some ⟨g', 0, none⟩) d' L → Own W' B 3 1 icell (some ⟨g', 0, none⟩) d' L := fun g' d' L h' =>
    (h'.alloc o).kept hg (h'.apart h.out (by decide))
  refine ⟨ho, fun i hi => ?_, fun i j hi hj hij => ?_⟩
  · rw [List.length_append, List.length_singleton] at hi
    by_cases hlt : i < P.length
    · rw [pAt_app _ hlt]
      exact hk _ _ _ (h.row i hlt)
    · obtain rfl : i = P.length := by omega
      rw [pAt_end]
      exact hk _ _ _ hn
  · rw [List.length_append, List.length_singleton] at hi hj
    by_cases hlt : i < P.length
    · by_cases hlj : j < P.length
      · rw [pAt_app _ hlt, pAt_app _ hlj]
        exact h.ne i j hlt hlj hij
      · obtain rfl : j = P.length := by omega
        rw [pAt_app _ hlt, pAt_end]
        exact hap i hlt
    · obtain rfl : i = P.length := by omega
      rw [pAt_end, pAt_app _ (show j < P.length by omega)]
      exact (hap j (by omega)).symm
/-- A row that is being made grows; the rows that are in stay. -/
theorem Mat.grownRow {W V W' : World} {B N c c5 : Nat} {A A5 : Option Addr} {P : List (Nat × Nat)} {M : Nat → Nat → Int} {L : List Int} (h : Mat W B N A c P M) (o : Obj) (hV : V = W.alloc o) (hg : V.grownBy W' (blkOf A5))
    (ho : Own W B 3 1 icell A5 c5 L) (hap : ∀ g, blkOf A5 = some g → Apart P g) : Mat W' B N A c P M := by
  subst hV
  refine ⟨(h.out.alloc o).kept hg (h.out.apart ho (by decide)), fun i hi => ?_, h.ne⟩
  refine ((h.row i hi).alloc o).kept hg (.inr fun e => ?_)
  exact hap _ e.symm i hi rfl
theorem Mat.congr {W : World} {B N c : Nat} {A : Option Addr} {P : List (Nat × Nat)} {M M' : Nat → Nat → Int} (h : Mat W B N A c P M) (he : ∀ i, i < P.length → ∀ j, j < N → M i j = M' i j) : Mat W B N A c P M' :=
  ⟨h.out, fun i hi => by
    rw [show rowL N (M' i) = rowL N (M i) from mapR_congr fun j hj => (he i hi j hj).symm]
    exact h.row i hi, h.ne⟩
/-- The cells on the way to a number. -/
theorem Mat.at_ {W : World} {B N c : Nat} {A : Option Addr} {P : List (Nat × Nat)} {M : Nat → Nat → Int} (h : Mat W B N A c P M) {i : Nat} (hi : i < P.length) :
    ∃ g, A = some ⟨g, 0, none⟩ ∧ B ≤ g ∧ g < W.heap.size ∧ g ≠ (pAt P i).1 ∧ W.cell? ⟨g, i, none⟩ = some (.slice (some ⟨(pAt P i).1, 0, none⟩) N (pAt P i).2) ∧ B ≤ (pAt P i).1 ∧ (pAt P i).1 < W.heap.size ∧
      ∀ j, j < N → W.cell? ⟨(pAt P i).1, j, none⟩ = some (.int .i64 (M i j)) ∧ W.frozen? ⟨(pAt P i).1, j, none⟩ = false := by
  obtain ⟨g, hA, hB, hg, hc, _⟩ := h.out.cell1 hi
  rw [← pAt_at hi] at hc
  have hr := h.row i hi
  have hlt := hr.lt (pAt P i).1 rfl
  refine ⟨g, hA, hB, hg, ?_, hc, hlt.1, hlt.2, fun j hj => ?_⟩
  · have := hr.apart h.out (by decide)
    rw [hA] at this
    intro e
    rcases this with e' | e'
    · cases e'
    · exact e' (by rw [e])
  · obtain ⟨g', e, _, _, hc', hf'⟩ := hr.cell1 (k := j) (by rw [rowL_len]; exact hj)
    injection e with e
    injection e with e _
    subst e
    refine ⟨?_, hf'⟩
    rw [hc']
    unfold rowL
    rw [mapR_get]
/-- A number stored. -/
theorem Mat.put {W : World} {B N c : Nat} {A : Option Addr} {P : List (Nat × Nat)} {M M' : Nat → Nat → Int} (h : Mat W B N A c P M) {i j : Nat} (hi : i < P.length) (hj : j < N) (x : Int)
    (h1 : M' i j = x) (h2 : ∀ i' j', ¬ (i' = i ∧ j' = j) → M' i' j' = M i' j') : Mat (W.setCell ⟨(pAt P i).1, j, none⟩ (.int .i64 x)) B N A c P M' := by
  obtain ⟨g, hA, _, _, hne, _⟩ := h.at_ hi
  refine ⟨h.out.far (by rw [hA]; simpa [blkOf] using hne) _, fun i' hi' => ?_, h.ne⟩
  by_cases e : i' = i
  · subst e
    have hs : (rowL N (M i')).set j x = rowL N (M' i') := by
      unfold rowL
      rw [mapR_set]
      refine mapR_congr fun k hk => ?_
      by_cases e : k = j
      · subst e; rw [if_pos rfl, h1]
      · rw [if_neg e, h2 i' k (by omega)]
    rw [← hs]
    exact (h.row i' hi).put1 (f := fun x => .int .i64 x) (by rw [rowL_len]; exact hj)
  · rw [show rowL N (M' i') = rowL N (M i') from mapR_congr fun k hk => h2 i' k (by omega)]
    exact (h.row i' hi').far (by simpa [blkOf] using h.ne i' i hi' hi e) _
end Go.Proofs.YtbbdiondhnmnaaaDoor

/- The reference's look whether two nodes have an edge. Conditions: the edges read as a list. -/
namespace Go.Proofs.YtbbdiondhnmnaaaDoor
open Go.RowKit

set_option maxRecDepth 100000 in
set_option maxHeartbeats 1000000 in
theorem ref_Near (N : Int) (i j : Nat) (A : Option Addr) (n c : Nat) (l : List Ed) (w : World) (hl : l.length = n) (hn : n ≤ 45) (hr : Els w w.heap.size 3 Ed.cells A l) :
    Calls Tryd.prog 22 #[.agg #[.int .i64 N, .slice A n c], .int .i64 i, .int .i64 j] w fun e w' => e = .returned (.bool (adj l i j)) ∧ Below w.heap.size w w' := by
  have HL := Lib.hid hl
  clear hl
  have d0 := (Blk.new w 24 #[.int .i64 N, .slice A n c]).cell 1
  go_enter Tryd.func22, Tryd.ntmps22
  go_wp2_with fail
  go_loopw [12] (fun i' wr => ∃ k : Nat, k ≤ n ∧ i' = .int .i64 k ∧ Below w.heap.size w wr ∧ (l.take k).any (joins i j) = false) (fun i' _ => n - (intOf i').toNat)
  case atStart => exact ⟨0, by omega, rfl, (Below.refl _ _).alloc (Nat.le_refl _) _, rfl⟩
  case round =>
    clear d0
    rename World => wr
    obtain ⟨k, hk, rfl, hb, hall⟩ := hrel
    have hsz := hb.size
    have HB := Lib.hid hb
    have HA := Lib.hid hall
    clear hall
    by_cases hlt : k < n
    · have hkl : k < l.length := by rw [HL.out]; exact hlt
      obtain ⟨b0, off, rfl, hbb, g0, g1, g2⟩ := (hr.below hb).at3 hkl
      have HS := Lib.hid (any_take_succ (joins i j) l k hkl)
      have HF := Lib.hid (fun h => any_of_get (p := joins i j) (l := l) hkl h)
      obtain ⟨e, he⟩ : ∃ e, e = l[k] := ⟨_, rfl⟩
      have HE := Lib.hid he
      rw [← he] at g0 g1 g2
      clear hb he
      have hE0 := Blk.new wr 34 #[.int .i64 e.a, .int .i64 e.b, .int .i64 e.w]
      have e0 := hE0.cell 0
      have e1 := hE0.cell 1
      clear hE0
      have hT : joins i j e = decide ((e.a = i ∧ e.b = j) ∨ (e.a = j ∧ e.b = i)) := rfl
      have HT := Lib.hid hT
      have b1 : (e.a == (i : Int)) = decide (e.a = i) := by rw [Bool.eq_iff_iff]; simp
      have b2 : (e.b == (j : Int)) = decide (e.b = j) := by rw [Bool.eq_iff_iff]; simp
      have b3 : (e.a == (j : Int)) = decide (e.a = j) := by rw [Bool.eq_iff_iff]; simp
      have b4 : (e.b == (i : Int)) = decide (e.b = i) := by rw [Bool.eq_iff_iff]; simp
      have hgo : joins i j e = true ∨ joins i j e = false := by cases joins i j e <;> simp
      have HB1 := Lib.hid b1
      have HB2 := Lib.hid b2
      have HB3 := Lib.hid b3
      have HB4 := Lib.hid b4
      clear b1 b2 b3 b4 hT
      have no : ∀ {p : Prop} [Decidable p] {b : Bool}, b = decide p → ¬ p → b = false := fun h hp => by rw [h]; simpa using hp
      have ye : ∀ {p : Prop} [Decidable p] {b : Bool}, b = decide p → p → b = true := fun h hp => by rw [h]; simpa using hp
      by_cases r1 : e.a = i
      · by_cases r2 : e.b = j
        · have t1 := ye HB1.out r1
          have t2 := ye HB2.out r2
          have HJ := Lib.hid (HT.out.trans (decide_eq_true (.inl ⟨r1, r2⟩)))
          clear r1 r2 hgo no ye
          go_wp2_with fail
          go_ret
          exact ⟨ret_bool (HF.out (by rw [← HE.out]; exact HJ.out)).symm, HB.out.alloc hsz _⟩
        · by_cases r3 : e.a = j
          · by_cases r4 : e.b = i
            · have t1 := ye HB1.out r1
              have t2 := no HB2.out r2
              have t3 := ye HB3.out r3
              have t4 := ye HB4.out r4
              have HJ := Lib.hid (HT.out.trans (decide_eq_true (.inr ⟨r3, r4⟩)))
              clear r1 r2 r3 r4 hgo no ye
              go_wp2_with fail
              go_ret
              exact ⟨ret_bool (HF.out (by rw [← HE.out]; exact HJ.out)).symm, HB.out.alloc hsz _⟩
            · have t1 := ye HB1.out r1
              have t2 := no HB2.out r2
              have t3 := ye HB3.out r3
              have t4 := no HB4.out r4
              have HJ := Lib.hid (HT.out.trans (decide_eq_false (by omega)))
              clear r1 r2 r3 r4 hgo no ye
              go_wp2_with fail
              go_roundw
              case rel => exact ⟨k + 1, by omega, by go_num, HB.out.alloc hsz _, by rw [HS.out, HA.out, ← HE.out, HJ.out]; rfl⟩
              case measure => simp [intOf]; omega
          · have t1 := ye HB1.out r1
            have t2 := no HB2.out r2
            have t3 := no HB3.out r3
            have HJ := Lib.hid (HT.out.trans (decide_eq_false (by omega)))
            clear r1 r2 r3 hgo no ye
            go_wp2_with fail
            go_roundw
            case rel => exact ⟨k + 1, by omega, by go_num, HB.out.alloc hsz _, by rw [HS.out, HA.out, ← HE.out, HJ.out]; rfl⟩
            case measure => simp [intOf]; omega
      · by_cases r3 : e.a = j
        · by_cases r4 : e.b = i
          · have t1 := no HB1.out r1
            have t3 := ye HB3.out r3
            have t4 := ye HB4.out r4
            have HJ := Lib.hid (HT.out.trans (decide_eq_true (.inr ⟨r3, r4⟩)))
            clear r1 r3 r4 hgo no ye
            go_wp2_with fail
            go_ret
            exact ⟨ret_bool (HF.out (by rw [← HE.out]; exact HJ.out)).symm, HB.out.alloc hsz _⟩
          · have t1 := no HB1.out r1
            have t3 := ye HB3.out r3
            have t4 := no HB4.out r4
            have HJ := Lib.hid (HT.out.trans (decide_eq_false (by omega)))
            clear r1 r3 r4 hgo no ye
            go_wp2_with fail
            go_roundw
            case rel => exact ⟨k + 1, by omega, by go_num, HB.out.alloc hsz _, by rw [HS.out, HA.out, ← HE.out, HJ.out]; rfl⟩
            case measure => simp [intOf]; omega
        · have t1 := no HB1.out r1
          have t3 := no HB3.out r3
          have HJ := Lib.hid (HT.out.trans (decide_eq_false (by omega)))
          clear r1 r3 hgo no ye
          go_wp2_with fail
          go_roundw
          case rel => exact ⟨k + 1, by omega, by go_num, HB.out.alloc hsz _, by rw [HS.out, HA.out, ← HE.out, HJ.out]; rfl⟩
          case measure => simp [intOf]; omega
    · obtain rfl : k = n := by omega
      have hno := Lib.hid (any_take_all (by rw [HL.out]; omega) HA.out)
      clear HA
      go_wp2_with fail
      go_ret
      exact ⟨ret_bool hno.out.symm, HB.out⟩

end Go.Proofs.YtbbdiondhnmnaaaDoor
