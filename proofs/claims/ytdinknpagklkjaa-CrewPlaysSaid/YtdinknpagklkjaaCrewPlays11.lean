/- Does a pairing hold: what the program asks and what the reference asks come to the same; plain Lean. Conditions: none. -/
import Derived.Test.YtdinknpagklkjaaCrewPlays10
import Derived.Test.YtdinknpagklkjaaCrewPlays3
import Derived.Test.YtdinknpagklkjaaProg
import Derived.Test.YtdinknpagklkjaaCrewPlays5
import Derived.Test.YtdinknpagklkjaaCrewPlays2
import Derived.Test.YtdinknpagklkjaaCrewPlays7
import Derived.Test.YtdinknpagklkjaaCrewPlays9
namespace Go.Proofs.Ytdinknpagklkjaa
open Go.RowKit

def idxI (x : Int) (l : List Int) : Int := idxF (fun y => x == y) l
def rankI (x : Int) (l : List Int) : Int := if 0 ≤ idxI x l then idxI x l else 8
theorem idxI_nil (x : Int) : idxI x [] = -1 := rfl
theorem idxI_hit (x : Int) (l : List Int) : idxI x (x :: l) = 0 := by
  unfold idxI idxF
  simp [List.findIdx_cons]
theorem idxI_skip {x y : Int} (l : List Int) (h : x ≠ y) : idxI x (y :: l) = if 0 ≤ idxI x l then idxI x l + 1 else -1 := by
  have hb : (x == y) = false := by simpa using h
  have e : idxI x (y :: l) = if l.any (fun y => x == y) = true then ((l.findIdx (fun y => x == y) + 1 : Nat) : Int) else -1 := by
    unfold idxI idxF
    simp only [List.any_cons, hb, Bool.false_or, List.findIdx_cons, cond_false]
  have e2 : idxI x l = if l.any (fun y => x == y) = true then (l.findIdx (fun y => x == y) : Int) else -1 := rfl
  rw [e, e2]
  split
  · rename_i h1
    rw [if_pos (by omega)]
    omega
  · rename_i h1
    rw [if_neg (by omega)]
theorem idxI_range (x : Int) : ∀ l : List Int, -1 ≤ idxI x l ∧ idxI x l < l.length
  | [] => by rw [idxI_nil]; simp
  | y :: l => by
    have ih := idxI_range x l
    by_cases h : x = y
    · subst h; rw [idxI_hit]; simp
    · rw [idxI_skip l h]
      simp only [List.length_cons]
      split <;> omega
theorem hasB_cons (x y : Int) (l : List Int) : hasB (y :: l) x = ((x == y) || hasB l x) := rfl
theorem idxI_has (x : Int) : ∀ l : List Int, (0 ≤ idxI x l ↔ hasB l x = true)
  | [] => by rw [idxI_nil]; simp [hasB]
  | y :: l => by
    have ih := idxI_has x l
    rw [hasB_cons]
    by_cases h : x = y
    · subst h; rw [idxI_hit]; simp
    · rw [idxI_skip l h]
      have hb : (x == y) = false := by simpa using h
      rw [hb, Bool.false_or, ← ih]
      split <;> omega
theorem rank8 {x : Int} {l : List Int} (h : l.length ≤ 8) : (rankI x l == 8) = !hasB l x := by
  have h1 := idxI_range x l
  have h2 := idxI_has x l
  unfold rankI
  cases hh : hasB l x with
  | true =>
    have := h2.2 hh
    rw [if_pos this]
    simp
    omega
  | false =>
    have : ¬ 0 ≤ idxI x l := fun h => by rw [h2.1 h] at hh; cases hh
    rw [if_neg this]
    rfl
theorem rank_lt8 {x : Int} {l : List Int} (h : l.length ≤ 8) : decide (rankI x l < 8) = hasB l x := by
  have h1 := idxI_range x l
  have h2 := idxI_has x l
  unfold rankI
  cases hh : hasB l x with
  | true =>
    have := h2.2 hh
    rw [if_pos this]
    simp
    omega
  | false =>
    have : ¬ 0 ≤ idxI x l := fun h => by rw [h2.1 h] at hh; cases hh
    rw [if_neg this]
    rfl
theorem rank_bounds {x : Int} {l : List Int} (h : l.length ≤ 8) : 0 ≤ rankI x l ∧ rankI x l ≤ 8 := by
  have h1 := idxI_range x l
  unfold rankI
  split <;> omega
/-- Would one, by its list, rather have a than b? -/
def ratherB (a b : Int) : List Int → Bool
  | [] => false
  | x :: l => if x = b then false else if x = a then true else ratherB a b l
theorem rather_none {a b : Int} : ∀ {l : List Int}, (∀ x ∈ l, x ≠ b) → ratherB a b l = hasB l a
  | [], _ => rfl
  | x :: l, h => by
    rw [ratherB, if_neg (h x (by simp)), hasB_cons]
    by_cases hx : x = a
    · rw [if_pos hx, hx]; simp
    · rw [if_neg hx, rather_none (fun y hy => h y (by simp [hy]))]
      have : (a == x) = false := by simp; exact fun e => hx e.symm
      rw [this, Bool.false_or]
theorem rank_hit (x : Int) (l : List Int) : rankI x (x :: l) = 0 := by
  unfold rankI
  rw [idxI_hit]
  rfl
theorem rank_skip {x y : Int} (l : List Int) (h : x ≠ y) : rankI x (y :: l) = if 0 ≤ idxI x l then idxI x l + 1 else 8 := by
  unfold rankI
  rw [idxI_skip l h]
  by_cases p : 0 ≤ idxI x l
  · rw [if_pos p, if_pos (by omega)]
    rw [if_pos p]
  · rw [if_neg p, if_neg (by omega)]
    rw [if_neg p]
theorem rather_rank {a b : Int} (hab : a ≠ b) : ∀ {l : List Int}, l.length ≤ 8 → (ratherB a b l = true ↔ rankI a l < 8 ∧ rankI a l < rankI b l)
  | [], _ => by simp [ratherB, rankI, idxI_nil]
  | x :: l, h => by
    have hl : l.length ≤ 8 := by simp at h; omega
    have ih := rather_rank hab (l := l) hl
    have r1 := idxI_range a l
    have r2 := idxI_range b l
    have r3 := rank_bounds (x := a) h
    rw [ratherB]
    by_cases hb : x = b
    · subst hb
      rw [if_pos rfl, rank_hit]
      constructor
      · intro h; cases h
      · intro h; omega
    · rw [if_neg hb]
      have hb' : b ≠ x := fun e => hb e.symm
      by_cases ha : x = a
      · subst ha
        rw [if_pos rfl, rank_hit, rank_skip l hb']
        refine ⟨fun _ => ⟨by omega, ?_⟩, fun _ => rfl⟩
        split <;> omega
      · rw [if_neg ha, ih]
        have ha' : a ≠ x := fun e => ha e.symm
        have hl9 : l.length < 8 := by simp at h; omega
        rw [rank_skip l hb', rank_skip l ha']
        unfold rankI
        by_cases p1 : 0 ≤ idxI a l
        · rw [if_pos p1, if_pos p1]
          by_cases p2 : 0 ≤ idxI b l
          · rw [if_pos p2, if_pos p2]; omega
          · rw [if_neg p2, if_neg p2]; omega
        · rw [if_neg p1, if_neg p1]; omega
/-- On the list, ahead of the one that is had: is there a bad one? -/
def scanB (bad : Int → Bool) (li : Int) : List Int → Bool
  | [] => true
  | x :: r => if x = li then true else if bad x = true then false else scanB bad li r
theorem scan_iff (bad : Int → Bool) (li : Int) : ∀ r : List Int, (scanB bad li r = false ↔ ∃ j ∈ r, j ≠ li ∧ ratherB j li r = true ∧ bad j = true)
  | [] => by simp [scanB]
  | x :: r => by
    have ih := scan_iff bad li r
    rw [scanB]
    by_cases hx : x = li
    · rw [if_pos hx]
      constructor
      · intro h; cases h
      · rintro ⟨j, _, _, h, _⟩
        rw [ratherB, if_pos hx] at h
        cases h
    · rw [if_neg hx]
      by_cases hb : bad x = true
      · rw [if_pos hb]
        refine ⟨fun _ => ⟨x, by simp, hx, ?_, hb⟩, fun _ => rfl⟩
        rw [ratherB, if_neg hx, if_pos rfl]
      · rw [if_neg hb, ih]
        constructor
        · rintro ⟨j, hj, hne, hr, hbj⟩
          refine ⟨j, by simp [hj], hne, ?_, hbj⟩
          rw [ratherB, if_neg hx]
          split
          · rfl
          · exact hr
        · rintro ⟨j, hj, hne, hr, hbj⟩
          have hjx : x ≠ j := fun e => hb (e ▸ hbj)
          rw [ratherB, if_neg hx, if_neg hjx] at hr
          rcases List.mem_cons.1 hj with h | h
          · exact absurd h.symm hjx
          · exact ⟨j, h, hne, hr, hbj⟩
theorem rather_mem {a b : Int} : ∀ {l : List Int}, ratherB a b l = true → a ∈ l
  | [], h => by cases h
  | x :: l, h => by
    rw [ratherB] at h
    by_cases hb : x = b
    · rw [if_pos hb] at h; cases h
    · rw [if_neg hb] at h
      by_cases ha : x = a
      · simp [ha]
      · rw [if_neg ha] at h
        exact List.mem_cons_of_mem _ (rather_mem h)

/-- The list of one on a side. -/
def ls (L : List (Sls Int)) (i : Nat) : List Int := (L.map Sls.l).getD i []
/-- Does the program's test of one of the pairs, of one of those ahead, fail? -/
def lackP (L R : List (Sls Int)) (i : Nat) (j : Int) : Bool := decide (0 ≤ j) && ((rankI j (ls L i) == 8) || (rankI i (ls R j.toNat) == 8))
def badP (R : List (Sls Int)) (l : List Int) (i : Nat) (j : Int) : Bool :=
  decide (rankI i (ls R j.toNat) < 8) && (decide (idxI j l < 0) || decide (rankI i (ls R j.toNat) < rankI (idxI j l) (ls R j.toNat)))
def holdP (L R : List (Sls Int)) (l : List Int) : Bool :=
  !((List.range l.length).any fun i => lackP L R i (l.getD i 0)) && (List.range L.length).all fun i => scanB (badP R l i) (l.getD i 0) (ls L i)
def lackR (L R : List (Sls Int)) (i : Nat) (j : Int) : Bool := decide (0 ≤ j) && (!hasB (ls L i) j || !hasB (ls R j.toNat) i)
def badR (L R : List (Sls Int)) (l : List Int) (i j : Nat) : Bool := (l.getD i 0 != j) && ratherB j (l.getD i 0) (ls L i) && ratherB i (idxI j l) (ls R j)
def holdR (L R : List (Sls Int)) (l : List Int) : Bool :=
  !((List.range l.length).any fun i => lackR L R i (l.getD i 0)) && !((List.range l.length).any fun i => (List.range l.length).any fun j => badR L R l i j)

structure GoodL (n : Nat) (L : List (Sls Int)) : Prop where
  len : L.length = n
  n8 : n ≤ 8
  l8 : ∀ i, (ls L i).length ≤ 8
  rg : ∀ i, ∀ x ∈ ls L i, 0 ≤ x ∧ x < n
theorem nodup_short {n : Nat} : ∀ {l : List Int}, l.Nodup → (∀ x ∈ l, 0 ≤ x ∧ x < n) → l.length ≤ n := by
  induction n with
  | zero =>
    intro l _ h
    cases l with
    | nil => simp
    | cons a l => have := h a (by simp); omega
  | succ n ih =>
    intro l hn h
    by_cases hm : (n : Int) ∈ l
    · have h1 := ih (l := l.erase (n : Int)) (hn.erase _) (fun i hi => by
        have h2 := (List.Nodup.mem_erase_iff hn).1 hi
        have := h i h2.2
        omega)
      have := List.length_erase_of_mem hm
      omega
    · have h2 := ih hn (fun i hi => by
        have h3 := h i hi
        have h4 : i ≠ (n : Int) := fun e => hm (e ▸ hi)
        omega)
      omega
theorem listGood {n : Nat} {l : List Int} (h : listBad n l = false) : l.Nodup ∧ ∀ x ∈ l, 0 ≤ x ∧ x < n := by
  have hk : ∀ k, ∀ hk : k < l.length, 0 ≤ l[k] ∧ l[k] < n ∧ hasB (l.take k) l[k] = false := fun k hk => by
    have := List.any_eq_false.1 h k (List.mem_range.2 hk)
    unfold badAt at this
    rw [getD_at l k hk 0] at this
    simp at this
    refine ⟨by omega, by omega, ?_⟩
    cases hh : hasB (l.take k) l[k] with
    | false => rfl
    | true => rw [hh] at this; simp at this
  refine ⟨?_, fun x hx => ?_⟩
  · rw [List.nodup_iff_pairwise_ne, List.pairwise_iff_getElem]
    intro i j hi hj hij e
    have h3 := (hk j hj).2.2
    have : hasB (l.take j) l[j] = true := by
      unfold hasB
      rw [List.any_eq_true]
      refine ⟨l[i], ?_, by rw [e]; simp⟩
      rw [List.mem_take_iff_getElem]
      exact ⟨i, by omega, rfl⟩
    rw [this] at h3
    cases h3
  · obtain ⟨k, hkl, rfl⟩ := List.getElem_of_mem hx
    exact ⟨(hk k hkl).1, (hk k hkl).2.1⟩
theorem goodL {n : Nat} {L : List (Sls Int)} (hl : L.length = n) (hn : n ≤ 8) (h : sideBad n L = false) : GoodL n L := by
  have hi : ∀ i, (ls L i).Nodup ∧ ∀ x ∈ ls L i, 0 ≤ x ∧ x < n := fun i => by
    unfold ls
    by_cases hi : i < L.length
    · have e : (L.map Sls.l).getD i [] = L[i].l := by simp [List.getD_eq_getElem?_getD, hi]
      rw [e]
      have := List.any_eq_false.1 h L[i] (List.getElem_mem hi)
      exact listGood (by simpa using this)
    · have e : (L.map Sls.l).getD i [] = [] := by simp [List.getD_eq_getElem?_getD, show L.length ≤ i by omega]
      rw [e]
      exact ⟨List.nodup_nil, by simp⟩
  exact ⟨hl, hn, fun i => Nat.le_trans (nodup_short (hi i).1 (hi i).2) hn, fun i => (hi i).2⟩
theorem wish_good {L R : List (Sls Int)} (h : wishCheck L R = 0) : GoodL L.length L ∧ GoodL L.length R := by
  unfold wishCheck at h
  split at h
  · omega
  · split at h
    · omega
    · split at h
      · omega
      · rename_i h1 h2 h3
        have h4 : R.length = L.length := by omega
        rw [Bool.not_eq_true, Bool.or_eq_false_iff] at h3
        exact ⟨goodL rfl (by omega) h3.1, goodL h4 (by omega) h3.2⟩
theorem hold_same {n : Nat} {L R : List (Sls Int)} {l : List Int} (hL : GoodL n L) (hR : GoodL n R) (hl : l.length = n) : holdP L R l = holdR L R l := by
  have e1 : (fun i : Nat => lackP L R i (l.getD i 0)) = fun i => lackR L R i (l.getD i 0) := by
    funext i
    unfold lackP lackR
    rw [rank8 (hL.l8 i), rank8 (hR.l8 _)]
  unfold holdP holdR
  rw [e1, hL.len, hl]
  congr 1
  rw [Bool.eq_iff_iff, Bool.not_eq_true', List.all_eq_true, List.any_eq_false]
  refine forall_congr' fun i => forall_congr' fun hi => ?_
  have hin := List.mem_range.1 hi
  have key : scanB (badP R l i) (l.getD i 0) (ls L i) = false ↔ ((List.range n).any fun j => badR L R l i j) = true := by
    rw [scan_iff, List.any_eq_true]
    have hbad : ∀ j : Nat, (j : Int) ≠ l.getD i 0 → (badP R l i j = true ↔ ratherB i (idxI j l) (ls R j) = true) := fun j hne => by
      have hlen := hR.l8 j
      have hno : idxI j l ≠ i := fun e => by
        have h1 : (0 : Int) ≤ idxI j l := by omega
        have h2 := (idxI_has (j : Int) l).1 h1
        obtain ⟨k, hk, h3, h4, _⟩ : ∃ k, ∃ hk : k < l.length, idxI j l = k ∧ ((j : Int) == l[k]) = true ∧ True := by
          unfold idxI idxF
          unfold hasB at h2
          rw [if_pos h2]
          refine ⟨l.findIdx fun y => (j : Int) == y, List.findIdx_lt_length_of_exists (by simpa using h2), rfl, ?_, trivial⟩
          exact List.findIdx_getElem (p := fun y => (j : Int) == y)
        have hki : k = i := by omega
        subst hki
        rw [getD_at l k hk 0] at hne
        exact hne (by simpa using h4)
      unfold badP
      rw [Int.toNat_natCast]
      by_cases ho : idxI j l < 0
      · have hm1 : idxI j l = -1 := by have := idxI_range j l; omega
        rw [hm1, rather_none (fun x hx => by have := hR.rg j x hx; omega), ← rank_lt8 hlen]
        simp
      · rw [rather_rank (fun e => hno e.symm) hlen]
        have : decide (idxI j l < 0) = false := decide_eq_false ho
        rw [this, Bool.false_or, Bool.and_eq_true, decide_eq_true_eq, decide_eq_true_eq]
    constructor
    · rintro ⟨j, hj, hne, hr, hb⟩
      have hjr := hL.rg i j hj
      obtain ⟨m, rfl⟩ := Int.eq_ofNat_of_zero_le hjr.1
      refine ⟨m, List.mem_range.2 (by omega), ?_⟩
      unfold badR
      rw [hr, (hbad m hne).1 hb]
      simp
      exact fun e => hne e.symm
    · rintro ⟨m, _, hb⟩
      unfold badR at hb
      simp only [Bool.and_eq_true, bne_iff_ne, ne_eq] at hb
      have hne : (m : Int) ≠ l.getD i 0 := fun e => hb.1.1 e.symm
      exact ⟨m, rather_mem hb.1.2, hne, hb.1.2, (hbad m hne).2 hb.2⟩
  constructor
  · intro h1 h2
    rw [key.2 h2] at h1
    cases h1
  · intro h1
    cases h2 : scanB (badP R l i) (l.getD i 0) (ls L i) with
    | true => rfl
    | false => exact absurd (key.1 h2) h1
end Go.Proofs.Ytdinknpagklkjaa

/- Keys of maps: ints, words, pairs of ints. Conditions: none. -/
namespace Go.Proofs.Ytdinknpagklkjaa
open Go.RowKit

theorem keyL_int {P : Program} {t : TypeId} (h : P.underlying t = some (.int .i64)) : KeyL P t (fun n : Int => .int .i64 n) where
  chk b a w := MapKept.run_checkKey h (by simp [MapKept.IsKey]) b 9999
  eqv a b w := by
    unfold Op.equal
    rw [show Op.maxDepth = 9999 + 1 from rfl, run_equalIn_int w 9999 t .i64 .i64 a b h]
    rfl
  desc := ⟨_, h, .inr fun a b => by simp [Instr.sameNow]; rfl⟩
  self a := by simp [Instr.sameBits]
theorem keyL_word {P : Program} {t : TypeId} (h : P.underlying t = some (.int .u32)) : KeyL P t (fun x : BitVec 32 => .int .u32 (wN x)) where
  chk b a w := MapKept.run_checkKey h (by simp [MapKept.IsKey]) b 9999
  eqv a b w := by
    unfold Op.equal
    rw [show Op.maxDepth = 9999 + 1 from rfl, run_equalIn_int w 9999 t .u32 .u32 (wN a) (wN b) h, w_eq]
    rfl
  desc := ⟨_, h, .inr fun a b => by simp [Instr.sameNow, w_eq]; rfl⟩
  self a := by simp [Instr.sameBits]
end Go.Proofs.Ytdinknpagklkjaa

/- What the search for a way keeps: the queue, the map, the boxes. Conditions: none. -/
namespace Go.Proofs.Ytdinknpagklkjaa
open Go.RowKit Go.Shelf

theorem Held.grown2 {ex : List Nat} {a w w' : World} {row : Option Nat} (h : Held ex a w) (hg : w.grownBy w' row) (hr : ∀ g, row = some g → g ∈ ex ∨ a.heap.size ≤ g) : Held ex a w' :=
  ⟨hg.os.trans h.os, hg.tape.trans h.tape, hg.output.trans h.output, Nat.le_trans h.size hg.size, fun k hk hx =>
    (hg.block k (Nat.lt_of_lt_of_le hk h.size) (fun e => by
      rcases hr k e.symm with h1 | h1
      · exact hx h1
      · omega)).trans (h.block k hk hx)⟩
theorem KeepsFrom.held2 {B : Nat} {ex : List Nat} {W W' : World} (h : Held ex W W') (hx : ∀ k ∈ ex, B ≤ k → ∀ o : Obj, W.heap[k]? = some o → o.isCells = true) : KeepsFrom B W W' :=
  ⟨h.size, fun k o hk ho hc => by
    by_cases hm : k ∈ ex
    · have := hx k hm hk o ho
      rw [hc] at this
      cases this
    · exact (h.block k (lt_of_block ho) hm).trans ho⟩
theorem Fifo.cells {w : World} {B cap : Nat} {A : Option Addr} {l : List Int} (h : Fifo w B A cap l) : ∀ g, blkOf A = some g → ∀ o : Obj, w.heap[g]? = some o → o.isCells = true := by
  obtain ⟨g, off, cur, rfl, hB, hb, h1⟩ := h
  intro g' hg o ho
  have : g = g' := by simpa [blkOf] using hg
  subst this
  exact hb.isCells o ho
theorem Fifo.ownk {w w' : World} {B cap : Nat} {A : Option Addr} {l : List Int} {row : Option Nat} (h : Fifo w B A cap l) (hg : w.grownBy w' row) (hr : ∀ r, row = some r → ∃ o : Obj, w.heap[r]? = some o ∧ o.isCells = false) : Fifo w' B A cap l := by
  refine h.kept fun g hgg => hg.block g ((h.lt g hgg).2) fun e => ?_
  obtain ⟨o, ho, hc⟩ := hr g e.symm
  rw [h.cells g hgg o ho] at hc
  cases hc
theorem Fifo.held {w w' : World} {B cap : Nat} {A : Option Addr} {l : List Int} {ex : List Nat} (h : Fifo w B A cap l) (hh : Held ex w w') (hx : ∀ g, blkOf A = some g → g ∉ ex) : Fifo w' B A cap l :=
  h.kept fun g hg => hh.block g ((h.lt g hg).2) (hx g hg)
theorem MapB.held {κ : Type} [DecidableEq κ] {kv : κ → Value} {L : List (κ × Value)} {w w' : World} {r : Nat} {ex : List Nat} (h : MapB w r kv L) (hh : Held ex w w') (hx : r ∉ ex) : MapB w' r kv L :=
  h.same (hh.block r h.lt hx)
theorem GoesB.els {w : World} {g B : Nat} {gs : List Int} (h : GoesB w g gs) (hB : g < B) : Els w B 1 icell (some ⟨g, 0, none⟩) gs := fun _ => by
  refine ⟨g, 0, rfl, hB, fun i a ha j u hu => ?_⟩
  have hi : i < gs.length := (List.getElem?_eq_some_iff.1 ha).1
  have e : gs[i] = a := (List.getElem?_eq_some_iff.1 ha).2
  cases j with
  | zero =>
    have hu' : u = .int .i64 a := by simpa [icell] using hu.symm
    rw [hu', ← e]
    have := h.at_ hi
    rw [getD_at gs i hi] at this
    simpa using this
  | succ j => simp [icell] at hu
/-- How far the search is: a number that falls. -/
def qz (N S : Nat) (v : Value) (w : World) : Nat :=
  N + 2 + (match v with | .pointer (some a) => (match w.cell? a with | some (.slice _ n _) => n | _ => 0) | _ => 0) - (match w.heap[S]? with | some (.map es _) => es.size | _ => 0)
theorem qz_eq {N S Q n cap : Nat} {t : TypeId} {A : Option Addr} {w : World} {κ : Type} [DecidableEq κ] {kv : κ → Value} {L : List (κ × Value)} (hb : Blk w Q t #[.slice A n cap]) (hm : MapB w S kv L) : qz N S (.pointer (some ⟨Q, 0, none⟩)) w = N + 2 + n - L.length := by
  obtain ⟨es, clock, ho, hr⟩ := hm
  have h1 := congrArg List.length hr.1
  simp only [List.length_map, Array.length_toList] at h1
  have hc := hb.cell 0
  unfold qz
  simp [ho, h1, hc]
abbrev kint : Int → Value := fun n => .int .i64 n
theorem keys_le {N : Nat} {l : List Arc} {gs : List Int} {s : Nat} {K : List (Int × Stp)} (h : BfsI l gs s K) (hin : InN N l) (hs : s < N) : K.length + 1 ≤ N := by
  have := nodup_short h.nd (h.low hin hs)
  rwa [keysO_length] at this
abbrev stepC : Stp → List Value := fun x => [.int .i64 x.1, .bool x.2]
theorem StpB.of_own {w : World} {B h cap : Nat} {ws : List Stp} (ho : Own w B 116 2 stepC (some ⟨h, 0, none⟩) cap ws) : ∃ sz, StpB w h sz ws.length (fun i => ws.getD i (0, false)) := by
  have he := ho.els
  obtain ⟨h1, h2, h3⟩ := ho
  rcases h3 with hn | ⟨g', cp, cur, hv, hb, hg, r⟩
  · cases hn.1
  · have : g' = h := by
      simp only [Value.slice.injEq, Option.some.injEq, Addr.mk.injEq] at hv
      exact hv.1.1.symm
    subst this
    refine ⟨cur.size, cur, hg, rfl, fun i hi => ?_⟩
    obtain ⟨b, off, e, _, f0, f1⟩ := Els.at2 (f := fun x : Stp => .int .i64 x.1) (g := fun x : Stp => .bool x.2) he hi
    obtain ⟨rfl, rfl⟩ : g' = b ∧ off = 0 := by
      simp only [Option.some.injEq, Addr.mk.injEq] at e
      exact ⟨e.1, e.2.1.symm⟩
    have hk : Blk w g' 116 cur := hg
    rw [hk.cell] at f0 f1
    simp only [Nat.zero_add] at f0 f1
    simp only [getD_at ws i hi]
    exact ⟨f0, f1⟩
theorem StpB.shut {w w' : World} {h sz n b : Nat} {F : Nat → Stp} (hs : StpB w h sz n F) (hw : Shut b w w') : StpB w' h sz n F := by
  obtain ⟨cur, hb, h1⟩ := hs
  exact ⟨cur, hb.shut hw, h1⟩
theorem MapB.noMark {κ : Type} [DecidableEq κ] {kv : κ → Value} {L : List (κ × Value)} {w : World} {r : Nat} (h : MapB w r kv L) : w.heap[r]? ≠ some (Obj.deferred (some [])) := fun e => by
  obtain ⟨es, c, hb, _⟩ := h
  rw [e] at hb
  cases hb
theorem Blk.noMark {w : World} {g : Nat} {t : TypeId} {cs : Array Value} (h : Blk w g t cs) : w.heap[g]? ≠ some (Obj.deferred (some [])) := fun e => by
  unfold Blk at h
  rw [e] at h
  cases h
end Go.Proofs.Ytdinknpagklkjaa

/- A range over a bound method that iterates, the loop's variable in a box of its own each round. Conditions: none. -/
namespace Go.Proofs.Ytdinknpagklkjaa
open Go.RowKit Go.Shelf

theorem wpIn_iterB {β : Type} {P : Program} {g : Operand} {ps : Array Tmp} {assign body : Code} {Q : Exit → Act → World → Prop} {a : Act} {w : World} (n : Nat) (gf : FuncId) (bnd caps : Array Value) (args : β → Array Value) (Ini : World → Prop) (At : β → World → Prop) (KP St : World → World → Prop) (xs : List β)
    (hg : a.eval g = .func (.func gf) bnd caps) (eg : ∀ args w, (callFunc gf args).run P w = .ok (.enter gf args) w)
    (hseq : SeqM P gf bnd caps args Ini At KP St xs) (hps : ∀ x, (args x).size = ps.size)
    (hIni : ∀ V, Below w.heap.size w V → V.heap.size = w.heap.size + 1 + 1 → Ini V)
    (hSt : ∀ A B k, St A B → k < A.heap.size → w.heap.size ≤ k → k < w.heap.size + 1 + 1 → B.heap[k]? = A.heap[k]?)
    (hAt : ∀ x W o, w.heap.size + 1 < W.heap.size → At x W → At x (W.putObj (w.heap.size + 1) o)) (hKr : ∀ W o, w.heap.size + 1 < W.heap.size → KP W (W.putObj (w.heap.size + 1) o)) (hKt : ∀ {A B C}, KP A B → KP B C → KP A C)
    (I : List β → World → Prop) (Ix : Code → List β → World → Prop) (hI : OwnFrom w.heap.size I) (hIx : ∀ c, OwnFrom w.heap.size (Ix c)) (hst : ∀ s A B, I s A → St A B → I s B) (hstx : ∀ c s A B, Ix c s A → St A B → Ix c s B) (h0 : I [] w) (a₁ : β → Nat → Act) (cx : β → Array Value) (ty : TypeId) (hAl : ∀ x W o, At x W → At x (W.alloc o)) (hKa : ∀ W o, KP W (W.alloc o))
    (hassign : ∀ (m l : Nat) (x : β) (W : World) (K : Act → World → Prop), K (a₁ x W.heap.size) (W.alloc (.cells (cx x) ty)) →
      assign.wpIn (Fence.wide.inRound l) m P (Exit.then K (fun _ _ _ => False)) { tmps := (ps.zip (args x)).foldl (fun t (p, v) => t.setIfInBounds p v) a.tmps, defers := [] } W)
    (hbody : ∀ (m l : Nat) (pre : List β) (x : β) (W : World) (b : Nat), I pre W → At x W → pre ++ [x] <+: xs → w.heap.size + 1 < b → Blk W b ty (cx x) → body.wpIn (Fence.wide.inRound l) m P (ownPostG w.heap.size KP I Ix (pre ++ [x]) W) (a₁ x b) W)
    (hdone : ∀ (D : Nat) (W : World), w.heap.size ≤ D → I xs W → W.heap[D]? = some (.deferred (some [])) → Q .normal { a with defers := { target := .collected D, args := #[] } :: a.defers } W)
    (hstop : ∀ (D : Nat) (c : Code) (pre : List β) (W : World), w.heap.size ≤ D → pre <+: xs → Ix c pre W → W.heap[D]? = some (.deferred (some [])) → c.wpIn Fence.wide n P Q { a with defers := { target := .collected D, args := #[] } :: a.defers } W) :
    (Code.rangeFunc g ps assign body).wpIn Fence.wide n P Q a w := by
  refine wpIn_rangeFunc fun fn hfn => ?_
  obtain ⟨D, hD⟩ : ∃ D, w.heap.size = D := ⟨_, rfl⟩
  let R : LoopState → Option Code → Loop := fun st pe => { state := st, pending := pe, fn := fn, tmps := a.tmps, params := ps, assign := assign, body := body, defers := D }
  obtain ⟨V, hV⟩ : ∃ V, V = (w.alloc (.deferred (some []))).alloc (.loop (R .ready none)) := ⟨_, rfl⟩
  have hrec : V.heap[D + 1]? = some (.loop (R .ready none)) := by
    have := World.alloc_heap_new (w.alloc (.deferred (some []))) (.loop (R .ready none))
    rw [World.size_alloc, hD] at this
    rw [hV]; exact this
  have hdef : V.heap[D]? = some (.deferred (some [])) := by
    rw [hV, ← hD]
    exact (Below.heap_alloc _ _ _ (by simp)).trans (World.alloc_heap_new w _)
  have hVI : I [] V := by rw [hV]; exact hI.alloc _ (hI.alloc _ h0)
  have hVb : Below w.heap.size w V := by rw [hV]; exact ((Below.refl _ w).alloc (Nat.le_refl _) _).alloc (by simp) _
  have hVs : V.heap.size = w.heap.size + 1 + 1 := by rw [hV]; simp
  have hVi := hIni V hVb hVs
  refine ⟨D + 1, [{ target := .collected D, args := #[] }], V, { target := .fn (.func gf) caps, args := bnd ++ #[.func (.yield (D + 1)) #[] #[]] }, V, gf,
    bnd ++ #[.func (.yield (D + 1)) #[] #[]] ++ caps, V, ?_, ?_, ?_, ?_, ?_, ?_⟩
  · have := run_enterLoop_outer (P := P) (w := w) fn a.tmps ps assign body
    rw [hD] at this
    rw [hV]; exact this
  · simp only [resolve, hg]
    simp [go_sem]
  · intro f' hf'
    trivial
  · simp [invoke, go_sem, eg]
  · intro h
    cases h
  · rw [hD] at hI hIx hbody hdone hstop hVb hSt hAt hKr
    have keep : ∀ {A B : World} {k : Nat} {o : Obj}, St A B → D ≤ k → k < D + 1 + 1 → A.heap[k]? = some o → B.heap[k]? = some o := fun {A B k o} hs h1 h2 ho =>
      (hSt A B k hs (Array.getElem?_eq_some_iff.1 ho).1 h1 h2).trans ho
    refine (hseq (n - 1) (D + 1) (fun pre W => I pre W ∧ W.heap[D + 1]? = some (.loop (R .ready none)) ∧ W.heap[D]? = some (.deferred (some [])))
      (fun pre W => ∃ c, Ix c pre W ∧ W.heap[D + 1]? = some (.loop (R .done (some c))) ∧ W.heap[D]? = some (.deferred (some []))) V hVi ?_ ?_ ?_ ⟨hVI, hrec, hdef⟩).mono ?_
    · rintro s A B ⟨h1, h2, h3⟩ hs
      exact ⟨hst s A B h1 hs, keep hs (by omega) (by omega) h2, keep hs (Nat.le_refl _) (by omega) h3⟩
    · rintro s A B ⟨c, h1, h2, h3⟩ hs
      exact ⟨c, hstx c s A B h1 hs, keep hs (by omega) (by omega) h2, keep hs (Nat.le_refl _) (by omega) h3⟩
    · -- one round
      rintro m pre x W ⟨hi, hl, hk⟩ hat hpx
      have hlt : D + 1 < W.heap.size := (Array.getElem?_eq_some_iff.1 hl).1
      have hy : (Instr.yield (D + 1) (args x)).run P W = .ok (.round (D + 1) fn ((ps.zip (args x)).foldl (fun t (p, v) => t.setIfInBounds p v) a.tmps) assign body) W :=
        run_yield hl (hps x)
      obtain ⟨Wa, hWa⟩ : ∃ Wa, Wa = W.alloc (.cells (cx x) ty) := ⟨_, rfl⟩
      have hla : Wa.heap[D + 1]? = some (.loop (R .ready none)) := by rw [hWa]; exact (Below.heap_alloc W _ _ hlt).trans hl
      have hka : Wa.heap[D]? = some (.deferred (some [])) := by rw [hWa]; exact (Below.heap_alloc W _ _ (by omega)).trans hk
      have hza : Wa.heap.size = W.heap.size + 1 := by rw [hWa]; simp
      have hlta : D + 1 < Wa.heap.size := by omega
      have hba : Blk Wa W.heap.size ty (cx x) := by rw [hWa]; exact Blk.new W ty (cx x)
      have hia : I pre Wa := by rw [hWa]; exact hI.alloc _ hi
      have hata : At x Wa := by rw [hWa]; exact hAl x W _ hat
      have hKa1 : KP W Wa := by rw [hWa]; exact hKa W _
      refine ⟨fn, _, assign, body, hy, roundIn_of_wpIn hfn (hassign _ _ x W _ ?_)⟩
      rw [← hWa]
      refine ⟨_, run_beginRound hla rfl, ?_⟩
      obtain ⟨W2, hW2⟩ : ∃ W2, W2 = Wa.putObj (D + 1) (.loop { R .ready none with state := .busy }) := ⟨_, rfl⟩
      rw [← hW2]
      have hl2 : W2.heap[D + 1]? = some (.loop { R .ready none with state := .busy }) := by rw [hW2]; exact World.putObj_heap_same hlta
      have hk2 : W2.heap[D]? = some (.deferred (some [])) := by rw [hW2]; exact (World.putObj_heap_other (by omega)).trans hka
      have hi2 : I pre W2 := by rw [hW2]; exact hI.putObj _ hia (by omega) hla rfl
      have hp2 : KP W W2 := by rw [hW2]; exact hKt hKa1 (hKr Wa _ hlta)
      have hat2 : At x W2 := by rw [hW2]; exact hAt x Wa _ hlta hata
      have hb2 : Blk W2 W.heap.size ty (cx x) := by rw [hW2]; exact (World.putObj_heap_other (by omega)).trans hba
      refine wpIn_mono (hbody _ _ pre x W2 W.heap.size hi2 hat2 hpx hlt hb2) ?_
      have leave : ∀ (c : Code) (W3 : World), KeepsFrom D W2 W3 → Ix c (pre ++ [x]) W3 →
          ∃ v W4, (Instr.endRound (D + 1) (some c)).run P W3 = .ok v W4 ∧ ((Ending.returned v = .returned (.bool true) ∧ (I (pre ++ [x]) W4 ∧ W4.heap[D + 1]? = some (.loop (R .ready none)) ∧ W4.heap[D]? = some (.deferred (some []))) ∧ KP W W4) ∨
            (Ending.returned v = .returned (.bool false) ∧ ∃ c, Ix c (pre ++ [x]) W4 ∧ W4.heap[D + 1]? = some (.loop (R .done (some c))) ∧ W4.heap[D]? = some (.deferred (some [])))) := by
        intro c W3 hk3 hi3
        have hl3 := hk3.same _ _ (by omega) hl2 rfl
        exact ⟨_, _, run_endRound (some c) hl3, .inr ⟨rfl, c, (hIx c).putObj _ hi3 (by omega) hl3 rfl, World.putObj_heap_same (Array.getElem?_eq_some_iff.1 hl3).1, (World.putObj_heap_other (by omega)).trans (hk3.same _ _ (Nat.le_refl _) hk2 rfl)⟩⟩
      rintro e a3 W3 hp
      cases e with
      | normal =>
        obtain ⟨hk3, hkp, hi3⟩ := hp
        have hl3 := hk3.same _ _ (by omega) hl2 rfl
        exact ⟨_, _, run_endRound none hl3, .inl ⟨rfl, ⟨hI.putObj _ hi3 (by omega) hl3 rfl, World.putObj_heap_same (Array.getElem?_eq_some_iff.1 hl3).1, (World.putObj_heap_other (by omega)).trans (hk3.same _ _ (Nat.le_refl _) hk2 rfl)⟩, hKt (hKt hp2 hkp) (hKr W3 _ (Array.getElem?_eq_some_iff.1 hl3).1)⟩⟩
      | ret => exact leave .ret W3 hp.1 hp.2
      | exit id => exact leave (.exit id) W3 hp.1 hp.2
      | goto t => exact leave (.goto t) W3 hp.1 hp.2
      | panic ch => exact hp.elim
      | outgrown => exact hp.elim
    · -- the iterator has returned
      rintro e W2 ⟨⟨v, rfl⟩, ⟨hi, hl, hk⟩ | ⟨pre, hpre, c, hi, hl, hk⟩⟩
      · exact ⟨none, _, run_endLoop hl (by intro h; cases h), hdone D _ (Nat.le_refl _) (hI.putObj _ hi (by omega) hl rfl) ((World.putObj_heap_other (by omega)).trans hk)⟩
      · exact ⟨some c, _, run_endLoop hl (by intro h; cases h), hstop D c pre _ (Nat.le_refl _) hpre ((hIx c).putObj _ hi (by omega) hl rfl) ((World.putObj_heap_other (by omega)).trans hk)⟩
/-- The same for an iterator that hands over one value. -/
theorem wpIn_iterB1 {β : Type} {P : Program} {p q : Nat} {g : Operand} {assign body : Code} {Q : Exit → Act → World → Prop} {t : Array Value} {ds : List Deferred} {w : World} (n : Nat) (gf : FuncId) (bnd caps : Array Value) (val : β → Value) (cx : β → Array Value) (ty : TypeId) (Ini : World → Prop) (At : β → World → Prop) (KP St : World → World → Prop) (xs : List β)
    (hg : ({ tmps := t, defers := ds } : Act).eval g = .func (.func gf) bnd caps) (eg : ∀ args w, (callFunc gf args).run P w = .ok (.enter gf args) w)
    (hseq : SeqM P gf bnd caps (fun x => #[val x]) Ini At KP St xs)
    (hIni : ∀ V, Below w.heap.size w V → V.heap.size = w.heap.size + 1 + 1 → Ini V)
    (hSt : ∀ A B k, St A B → k < A.heap.size → w.heap.size ≤ k → k < w.heap.size + 1 + 1 → B.heap[k]? = A.heap[k]?)
    (hAt : ∀ x W o, w.heap.size + 1 < W.heap.size → At x W → At x (W.putObj (w.heap.size + 1) o)) (hKr : ∀ W o, w.heap.size + 1 < W.heap.size → KP W (W.putObj (w.heap.size + 1) o)) (hKt : ∀ {A B C}, KP A B → KP B C → KP A C) (hAl : ∀ x W o, At x W → At x (W.alloc o)) (hKa : ∀ W o, KP W (W.alloc o))
    (I : List β → World → Prop) (Ix : Code → List β → World → Prop) (hI : OwnFrom w.heap.size I) (hIx : ∀ c, OwnFrom w.heap.size (Ix c)) (hst : ∀ s A B, I s A → St A B → I s B) (hstx : ∀ c s A B, Ix c s A → St A B → Ix c s B) (h0 : I [] w)
    (hassign : ∀ (m l : Nat) (x : β) (W : World) (K : Act → World → Prop), K { tmps := (t.setIfInBounds p (val x)).setIfInBounds q (.pointer (some ⟨W.heap.size, 0, none⟩)), defers := [] } (W.alloc (.cells (cx x) ty)) →
      assign.wpIn (Fence.wide.inRound l) m P (Exit.then K (fun _ _ _ => False)) { tmps := t.setIfInBounds p (val x), defers := [] } W)
    (hbody : ∀ (m l : Nat) (pre : List β) (x : β) (W : World) (b : Nat), I pre W → At x W → pre ++ [x] <+: xs → w.heap.size + 1 < b → Blk W b ty (cx x) → body.wpIn (Fence.wide.inRound l) m P (ownPostG w.heap.size KP I Ix (pre ++ [x]) W) { tmps := (t.setIfInBounds p (val x)).setIfInBounds q (.pointer (some ⟨b, 0, none⟩)), defers := [] } W)
    (hdone : ∀ (D : Nat) (W : World), w.heap.size ≤ D → I xs W → W.heap[D]? = some (.deferred (some [])) → Q .normal { tmps := t, defers := { target := .collected D, args := #[] } :: ds } W)
    (hstop : ∀ (D : Nat) (c : Code) (pre : List β) (W : World), w.heap.size ≤ D → pre <+: xs → Ix c pre W → W.heap[D]? = some (.deferred (some [])) → c.wpIn Fence.wide n P Q { tmps := t, defers := { target := .collected D, args := #[] } :: ds } W) :
    (Code.rangeFunc g #[p] assign body).wpIn Fence.wide n P Q { tmps := t, defers := ds } w :=
  wpIn_iterB n gf bnd caps (fun x => #[val x]) Ini At KP St xs hg eg hseq (fun _ => rfl) hIni hSt hAt hKr hKt I Ix hI hIx hst hstx h0 (fun x b => { tmps := (t.setIfInBounds p (val x)).setIfInBounds q (.pointer (some ⟨b, 0, none⟩)), defers := [] }) cx ty hAl hKa
    (fun m l x W K hK => by simpa using hassign m l x W K hK) hbody hdone hstop
end Go.Proofs.Ytdinknpagklkjaa
