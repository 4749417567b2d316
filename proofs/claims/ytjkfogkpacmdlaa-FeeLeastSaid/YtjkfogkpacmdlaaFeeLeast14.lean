/- Sets in an int: the operations on '.int .i64' as operations on Nat, in the walk's own spelling. Conditions: none. -/
import Derived.Test.YtjkfogkpacmdlaaFeeLeast9
import Derived.Test.YtjkfogkpacmdlaaFeeLeast13
import Derived.IntWalk
namespace Go.Proofs.Ytjkfogkpacmdlaa
open Go.RowKit

def nAnd (x y : Nat) : Nat := x &&& y
def nXor (x y : Nat) : Nat := x ^^^ y
def nOr (x y : Nat) : Nat := x ||| y
theorem bits_and (x y : BitVec 32) : bits .and .i64 (sN x) (sN y) = sN (wAnd x y) := by
  show (IntKind.i64.wrap ((BitVec.ofInt 64 (x.toNat : Int) &&& BitVec.ofInt 64 (y.toNat : Int)).toNat : Int)) = _
  rw [ofInt_s, ofInt_s, show (BitVec.setWidth 64 x &&& BitVec.setWidth 64 y).toNat = (x &&& y).toNat from by rw [BitVec.toNat_and, sw_toNat, sw_toNat, BitVec.toNat_and], wrap_s]
  rfl
theorem bits_or (x y : BitVec 32) : bits .or .i64 (sN x) (sN y) = sN (wOr x y) := by
  show (IntKind.i64.wrap ((BitVec.ofInt 64 (x.toNat : Int) ||| BitVec.ofInt 64 (y.toNat : Int)).toNat : Int)) = _
  rw [ofInt_s, ofInt_s, show (BitVec.setWidth 64 x ||| BitVec.setWidth 64 y).toNat = (x ||| y).toNat from by rw [BitVec.toNat_or, sw_toNat, sw_toNat, BitVec.toNat_or], wrap_s]
  rfl
theorem bits_but (x y : BitVec 32) : bits .andNot .i64 (sN x) (sN y) = sN (wBut x y) := by
  show (IntKind.i64.wrap ((BitVec.ofInt 64 (x.toNat : Int) &&& ~~~BitVec.ofInt 64 (y.toNat : Int)).toNat : Int)) = _
  rw [ofInt_s, ofInt_s]
  have h : (BitVec.setWidth 64 x &&& ~~~BitVec.setWidth 64 y) = BitVec.setWidth 64 (x &&& ~~~y) := by
    apply BitVec.eq_of_getLsbD_eq
    intro i hi
    simp only [BitVec.getLsbD_and, BitVec.getLsbD_not, BitVec.getLsbD_setWidth]
    rcases Nat.lt_or_ge i 32 with h | h
    · simp [hi, h]
    · simp [BitVec.getLsbD_of_ge x i h]
  rw [h, sw_toNat, wrap_s]
  rfl
theorem sN_of (x : Nat) (hx : x ≤ 1048576) : sN (BitVec.ofNat 32 x) = (x : Int) := by
  unfold sN
  rw [BitVec.toNat_ofNat, Nat.mod_eq_of_lt (by omega)]
theorem n_and (x y : Nat) (hx : x ≤ 1048576) (hy : y ≤ 1048576) : bits .and .i64 (x : Int) (y : Int) = (nAnd x y : Nat) := by
  have e := bits_and (BitVec.ofNat 32 x) (BitVec.ofNat 32 y)
  rw [sN_of x hx, sN_of y hy] at e
  rw [e]
  unfold sN wAnd nAnd
  rw [BitVec.toNat_and, BitVec.toNat_ofNat, BitVec.toNat_ofNat, Nat.mod_eq_of_lt (by omega), Nat.mod_eq_of_lt (by omega)]
theorem n_or (x y : Nat) (hx : x ≤ 1048576) (hy : y ≤ 1048576) : bits .or .i64 (x : Int) (y : Int) = (nOr x y : Nat) := by
  have e := bits_or (BitVec.ofNat 32 x) (BitVec.ofNat 32 y)
  rw [sN_of x hx, sN_of y hy] at e
  rw [e]
  unfold sN wOr nOr
  rw [BitVec.toNat_or, BitVec.toNat_ofNat, BitVec.toNat_ofNat, Nat.mod_eq_of_lt (by omega), Nat.mod_eq_of_lt (by omega)]
theorem xor_le {a s : Nat} (h : s &&& a = s) : nXor a s ≤ a := by
  have : (nXor a s) &&& a = nXor a s := sub_of_bits fun i hi => by
    unfold nXor at hi
    rw [Nat.testBit_xor] at hi
    have hb := @bit_sub a s h i
    revert hi hb
    cases a.testBit i <;> cases s.testBit i <;> simp
  exact sub_le this
theorem n_but (x y : Nat) (hx : x ≤ 1048576) (hy : y &&& x = y) : bits .andNot .i64 (x : Int) (y : Int) = (nXor x y : Nat) := by
  have hyx := sub_le hy
  have hxor := xor_le hy
  have e := bits_but (BitVec.ofNat 32 x) (BitVec.ofNat 32 y)
  rw [sN_of x hx, sN_of y (by omega)] at e
  rw [e]
  have h : wBut (BitVec.ofNat 32 x) (BitVec.ofNat 32 y) = BitVec.ofNat 32 (nXor x y) := by
    apply w_ext
    intro i hi
    have hb := @bit_sub x y hy i
    rw [b_but]
    simp only [BitVec.getLsbD_ofNat, hi, decide_true, Bool.true_and]
    unfold nXor
    rw [Nat.testBit_xor]
    revert hb
    cases x.testBit i <;> cases y.testBit i <;> simp
  rw [h, sN_of _ (by omega)]
/-- 'x >> i & 1'. -/
theorem n_bit (x i : Nat) (hx : x ≤ 1048576) : bits .and .i64 ((x : Int) / 2 ^ i) 1 = if x.testBit i then 1 else 0 := by
  have h1 : x / 2 ^ i ≤ x := Nat.div_le_self _ _
  have e := n_and (x / 2 ^ i) 1 (by omega) (by omega)
  rw [show ((1 : Nat) : Int) = 1 from rfl, Int.natCast_ediv, Int.natCast_pow] at e
  rw [show ((2 : Int) ^ i) = (((2 : Nat) : Int) ^ i) from rfl, e]
  unfold nAnd
  rw [Nat.and_one_is_mod, Nat.testBit_eq_decide_div_mod_eq]
  rcases Nat.mod_two_eq_zero_or_one (x / 2 ^ i) with h | h <;> rw [h] <;> rfl
theorem n_bit1 (x i : Nat) (hx : x ≤ 1048576) : (bits .and .i64 ((x : Int) / 2 ^ i) 1 == 1) = x.testBit i := by
  rw [n_bit x i hx]
  cases x.testBit i <;> rfl
theorem n_bit0 (x i : Nat) (hx : x ≤ 1048576) : (bits .and .i64 ((x : Int) / 2 ^ i) 1 == 0) = !x.testBit i := by
  rw [n_bit x i hx]
  cases x.testBit i <;> rfl
theorem n_shl1 (k : IntKind) (n : Nat) (h : n ≤ 20) : Op.shift .shl .i64 1 k (n : Int) = pure (.int .i64 ((2 ^ n : Nat) : Int)) := by
  have e := s_shl1 k (n : Int) (by omega) (by omega)
  rw [Int.toNat_natCast] at e
  unfold sN at e
  rw [wN_shl1 (by omega)] at e
  exact e
def pw (n : Nat) : Nat := 2 ^ n
theorem n_shlp (k : IntKind) (n : Int) (h : 0 ≤ n) (h1 : n ≤ 20) : Op.shift .shl .i64 1 k n = pure (.int .i64 (pw n.toNat : Nat)) := by
  have e := n_shl1 k n.toNat (by omega)
  rw [Int.toNat_of_nonneg h] at e
  exact e
/-- A list told by a function, one place stored anew. -/
theorem mapR_set {α : Type} (f : Nat → α) (P a : Nat) (x : α) : ((List.range P).map f).set a x = (List.range P).map fun i => if i = a then x else f i := by
  apply List.ext_getElem (by simp)
  intro i h1 h2
  simp only [List.getElem_set, List.getElem_map, List.getElem_range]
  by_cases h : a = i
  · rw [if_pos h, if_pos h.symm]
  · rw [if_neg h, if_neg (fun e => h e.symm)]
theorem mapR_congr {α : Type} {f g : Nat → α} {P : Nat} (h : ∀ i, i < P → f i = g i) : (List.range P).map f = (List.range P).map g := List.map_congr_left fun i hi => h i (List.mem_range.1 hi)
theorem mapR_get {α : Type} (f : Nat → α) {P a : Nat} (h : a < ((List.range P).map f).length) : ((List.range P).map f)[a] = f a := by simp
theorem mapR_len {α : Type} (f : Nat → α) (P : Nat) : ((List.range P).map f).length = P := by simp
end Go.Proofs.Ytjkfogkpacmdlaa

/- A table of numbers: rows in blocks of their own behind a slice of rows. Conditions: none. -/
namespace Go.Proofs.Ytjkfogkpacmdlaa
open Go.RowKit

abbrev rowV (N : Nat) (p : Nat × Nat) : Value := .slice (some ⟨p.1, 0, none⟩) N p.2
abbrev rowF (N : Nat) (p : Nat × Nat) : List Value := [rowV N p]
def rowL (N : Nat) (f : Nat → Int) : List Int := (List.range N).map f
theorem rowL_len (N : Nat) (f : Nat → Int) : (rowL N f).length = N := mapR_len f N
theorem rowL_succ (k : Nat) (f : Nat → Int) : rowL (k + 1) f = rowL k f ++ [f k] := map_range_succ f k
def pAt (P : List (Nat × Nat)) (i : Nat) : Nat × Nat := P.getD i (0, 0)
/-- So many rows of N numbers each. -/
structure Mat (W : World) (B N : Nat) (A : Option Addr) (c : Nat) (P : List (Nat × Nat)) (M : Nat → Nat → Int) : Prop where
  out : Own W B 40 1 (rowF N) A c P
  row : ∀ i, i < P.length → Own W B 2 1 icell (some ⟨(pAt P i).1, 0, none⟩) (pAt P i).2 (rowL N (M i))
  ne : ∀ i j, i < P.length → j < P.length → i ≠ j → (pAt P i).1 ≠ (pAt P j).1
theorem Mat.nil (W : World) (B N : Nat) (M : Nat → Nat → Int) : Mat W B N none 0 [] M := ⟨Own.nil _ _ _ (fun _ => rfl), fun i h => absurd h (by simp), fun i j h => absurd h (by simp)⟩
theorem Mat.below {W W' : World} {B N c : Nat} {A : Option Addr} {P : List (Nat × Nat)} {M : Nat → Nat → Int} (h : Mat W B N A c P M) (hb : Below W.heap.size W W') : Mat W' B N A c P M :=
  ⟨h.out.below hb (Nat.le_refl _), fun i hi => (h.row i hi).below hb (Nat.le_refl _), h.ne⟩
theorem Mat.drewN {W : World} {B N c : Nat} {A : Option Addr} {P : List (Nat × Nat)} {M : Nat → Nat → Int} (h : Mat W B N A c P M) (n : Nat) : Mat (W.drewN n) B N A c P M :=
  ⟨h.out.drewN n, fun i hi => (h.row i hi).drewN n, h.ne⟩
theorem Mat.low {W : World} {B N c : Nat} {A : Option Addr} {P : List (Nat × Nat)} {M : Nat → Nat → Int} (h : Mat W B N A c P M) {p : Addr} (hp : p.block < B) (u : Value) : Mat (W.setCell p u) B N A c P M :=
  ⟨h.out.low hp u, fun i hi => (h.row i hi).low hp u, h.ne⟩
theorem Mat.weaken {W : World} {B B' N c : Nat} {A : Option Addr} {P : List (Nat × Nat)} {M : Nat → Nat → Int} (h : Mat W B N A c P M) (hB : B' ≤ B) : Mat W B' N A c P M :=
  ⟨h.out.weaken hB, fun i hi => (h.row i hi).weaken hB, h.ne⟩
theorem pAt_app {P : List (Nat × Nat)} {i : Nat} (q : Nat × Nat) (h : i < P.length) : pAt (P ++ [q]) i = pAt P i := by
  simp [pAt, List.getD_eq_getElem?_getD, List.getElem?_append_left h]
theorem pAt_end (P : List (Nat × Nat)) (q : Nat × Nat) : pAt (P ++ [q]) P.length = q := by simp [pAt, List.getD_eq_getElem?_getD]
theorem pAt_at {P : List (Nat × Nat)} {i : Nat} (h : i < P.length) : pAt P i = P[i] := getD_at P i h _
/-- The row at hand lies apart from those that are in. -/
def Apart (P : List (Nat × Nat)) (g : Nat) : Prop := ∀ i, i < P.length → (pAt P i).1 ≠ g
/-- A row more, the world grown at the outer row alone. -/
theorem Mat.snoc {W V W' : World} {B N c c' : Nat} {A A' : Option Addr} {P : List (Nat × Nat)} {M : Nat → Nat → Int} {g d : Nat} (h : Mat W B N A c P M) (hn : Own W B 2 1 icell (some ⟨g, 0, none⟩) d (rowL N (M P.length))) (hap : Apart P g)
    (o : Obj) (hV : V = W.alloc o) (ho : Own W' B 40 1 (rowF N) A' c' (P ++ [(g, d)])) (hg : V.grownBy W' (blkOf A)) : Mat W' B N A' c' (P ++ [(g, d)]) M := by
  subst hV
  have hk : ∀ (g' d' : Nat) (L : List Int), Own W B 2 1 icell (some ⟨g', 0, none⟩) d' L → Own W' B 2 1 icell (some ⟨g', 0, none⟩) d' L := fun g' d' L h' =>
    (h'.alloc o).kept hg (h'.apart h.out (by decide))
  refine ⟨ho, fun i hi => ?_, fun i j hi hj hij => ?_⟩
  · rw [List.length_append, List.length_singleton] at hi
    by_cases hlt : i < P.length
    · rw [pAt_app _ hlt]
      exact hk _ _ _ (h.row i hlt)
    · obtain rfl : i = P.length := by omega
      rw [pAt_end]
      exact hk _ _ _ hn
  · rw [List.length_append, List.length_singleton] at hi hj
    by_cases hlt : i < P.length
    · by_cases hlj : j < P.length
      · rw [pAt_app _ hlt, pAt_app _ hlj]
        exact h.ne i j hlt hlj hij
      · obtain rfl : j = P.length := by omega
        rw [pAt_app _ hlt, pAt_end]
        exact hap i hlt
    · obtain rfl : i = P.length := by omega
      rw [pAt_end, pAt_app _ (show j < P.length by omega)]
      exact (hap j (by omega)).symm
/-- A row that is being made grows; the rows that are in stay. -/
theorem Mat.grownRow {W V W' : World} {B N c c5 : Nat} {A A5 : Option Addr} {P : List (Nat × Nat)} {M : Nat → Nat → Int} {L : List Int} (h : Mat W B N A c P M) (o : Obj) (hV : V = W.alloc o) (hg : V.grownBy W' (blkOf A5))
    (ho : Own W B 2 1 icell A5 c5 L) (hap : ∀ g, blkOf A5 = some g → Apart P g) : Mat W' B N A c P M := by
  subst hV
  refine ⟨(h.out.alloc o).kept hg (h.out.apart ho (by decide)), fun i hi => ?_, h.ne⟩
  refine ((h.row i hi).alloc o).kept hg (.inr fun e => ?_)
  exact hap _ e.symm i hi rfl
theorem Mat.congr {W : World} {B N c : Nat} {A : Option Addr} {P : List (Nat × Nat)} {M M' : Nat → Nat → Int} (h : Mat W B N A c P M) (he : ∀ i, i < P.length → ∀ j, j < N → M i j = M' i j) : Mat W B N A c P M' :=
  ⟨h.out, fun i hi => by
    rw [show rowL N (M' i) = rowL N (M i) from mapR_congr fun j hj => (he i hi j hj).symm]
    exact h.row i hi, h.ne⟩
/-- The cells on the way to a number. -/
theorem Mat.at_ {W : World} {B N c : Nat} {A : Option Addr} {P : List (Nat × Nat)} {M : Nat → Nat → Int} (h : Mat W B N A c P M) {i : Nat} (hi : i < P.length) :
    ∃ g, A = some ⟨g, 0, none⟩ ∧ B ≤ g ∧ g < W.heap.size ∧ g ≠ (pAt P i).1 ∧ W.cell? ⟨g, i, none⟩ = some (.slice (some ⟨(pAt P i).1, 0, none⟩) N (pAt P i).2) ∧ B ≤ (pAt P i).1 ∧ (pAt P i).1 < W.heap.size ∧
      ∀ j, j < N → W.cell? ⟨(pAt P i).1, j, none⟩ = some (.int .i64 (M i j)) ∧ W.frozen? ⟨(pAt P i).1, j, none⟩ = false := by
  obtain ⟨g, hA, hB, hg, hc, _⟩ := h.out.cell1 hi
  rw [← pAt_at hi] at hc
  have hr := h.row i hi
  have hlt := hr.lt (pAt P i).1 rfl
  refine ⟨g, hA, hB, hg, ?_, hc, hlt.1, hlt.2, fun j hj => ?_⟩
  · have := hr.apart h.out (by decide)
    rw [hA] at this
    intro e
    rcases this with e' | e'
    · cases e'
    · exact e' (by rw [e])
  · obtain ⟨g', e, _, _, hc', hf'⟩ := hr.cell1 (k := j) (by rw [rowL_len]; exact hj)
    injection e with e
    injection e with e _
    subst e
    refine ⟨?_, hf'⟩
    rw [hc']
    unfold rowL
    rw [mapR_get]
/-- A number stored. -/
theorem Mat.put {W : World} {B N c : Nat} {A : Option Addr} {P : List (Nat × Nat)} {M M' : Nat → Nat → Int} (h : Mat W B N A c P M) {i j : Nat} (hi : i < P.length) (hj : j < N) (x : Int)
    (h1 : M' i j = x) (h2 : ∀ i' j', ¬ (i' = i ∧ j' = j) → M' i' j' = M i' j') : Mat (W.setCell ⟨(pAt P i).1, j, none⟩ (.int .i64 x)) B N A c P M' := by
  obtain ⟨g, hA, _, _, hne, _⟩ := h.at_ hi
  refine ⟨h.out.far (by rw [hA]; simpa [blkOf] using hne) _, fun i' hi' => ?_, h.ne⟩
  by_cases e : i' = i
  · subst e
    have hs : (rowL N (M i')).set j x = rowL N (M' i') := by
      unfold rowL
      rw [mapR_set]
      refine mapR_congr fun k hk => ?_
      by_cases e : k = j
      · subst e; rw [if_pos rfl, h1]
      · rw [if_neg e, h2 i' k (by omega)]
    rw [← hs]
    exact (h.row i' hi).put1 (f := fun x => .int .i64 x) (by rw [rowL_len]; exact hj)
  · rw [show rowL N (M' i') = rowL N (M i') from mapR_congr fun k hk => h2 i' k (by omega)]
    exact (h.row i' hi').far (by simpa [blkOf] using h.ne i' i hi' hi e) _
end Go.Proofs.Ytjkfogkpacmdlaa
