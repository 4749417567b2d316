/- graph.Each: its closure hands over the bits of its word, the least first. Conditions: its box holds the word; the table lies where it was laid. -/
import Derived.Test.YtdinknpagklkjaaLotsBests4
import Derived.Test.YtdinknpagklkjaaLotsBests2
import Derived.Test.YtdinknpagklkjaaLotsBests1
import Derived.RangeFuncLeaves
import Derived.RangeFuncRecord
import Derived.LoopIn
import Derived.RangeFuncNested
import Derived.RangeFuncBound
import Derived.RangeFuncCalls
import Derived.Shelf.Abstract
import Derived.Shelf.RegionOpen
import Derived.OwnWalkIn
import Derived.TacticsInMore
import Derived.LoopNIn
import Derived.Test.YtdinknpagklkjaaLotsBests3
namespace Go.Proofs.Ytdinknpagklkjaa
open Go.RowKit Go.Shelf
attribute [local go_sem] Oper.semAt_some
attribute [local go_sem ↓] w_and w_or w_xor w_andNot w_and1 w_and255 w_xor1 w_or0 w_shl w_shl1 w_shr w_sub w_add w_sub1 w_add1
attribute [local go_sem] w_eq0 w_ne0 w_eq1 w_eq w_ne

def bitsL (x : BitVec 32) : List Nat := (List.range 32).filter fun j => x.getLsbD j
theorem filter_cons {p q : Nat → Bool} {k : Nat} (hlow : ∀ j, j < k → p j = false) (hk : p k = true) (hq : ∀ j, q j = (p j && !decide (j = k))) : ∀ n, k < n → (List.range n).filter p = k :: (List.range n).filter q
  | 0, h => by omega
  | n + 1, h => by
    rw [List.range_succ, List.filter_append, List.filter_append]
    by_cases hkn : k < n
    · rw [filter_cons hlow hk hq n hkn, List.cons_append]
      have hd : decide (n = k) = false := by simp; omega
      have e : List.filter p [n] = List.filter q [n] := by
        simp only [List.filter_cons, List.filter_nil]
        rw [hq n, hd, Bool.not_false, Bool.and_true]
      rw [e]
    · obtain rfl : k = n := by omega
      have e1 : (List.range k).filter p = [] := List.filter_eq_nil_iff.2 fun j hj => by rw [hlow j (List.mem_range.1 hj)]; simp
      have e2 : (List.range k).filter q = [] := List.filter_eq_nil_iff.2 fun j hj => by rw [hq, hlow j (List.mem_range.1 hj)]; simp
      rw [e1, e2]
      simp [hq, hk]
theorem bitsL_cons {y : BitVec 32} (h : y ≠ w0) : bitsL y = tz y :: bitsL (wAnd y (wSub y w1)) :=
  filter_cons (fun _ hj => tz_low h hj) (tz_bit h) (fun j => drop_low h j) 32 (tz_lt h)
theorem bitsL_0 : bitsL w0 = [] := List.filter_eq_nil_iff.2 fun j _ => by rw [b_0]; simp
theorem mem_bitsL {x : BitVec 32} {j : Nat} : j ∈ bitsL x ↔ x.getLsbD j = true := by
  unfold bitsL
  rw [List.mem_filter, List.mem_range]
  refine ⟨fun h => h.2, fun h => ⟨?_, h⟩⟩
  rcases Nat.lt_or_ge j 32 with h1 | h1
  · exact h1
  · rw [b_ge x h1] at h; cases h
theorem drop_low_lt {y : BitVec 32} (h : y ≠ w0) : (wAnd y (wSub y w1)).toNat < y.toNat := by
  have h0 := toNat_ne h
  have hs : (wSub y w1).toNat = y.toNat - 1 := by
    have hlt := y.isLt
    unfold wSub w1
    rw [BitVec.toNat_sub]
    have : (1#32).toNat = 1 := rfl
    rw [this]
    omega
  unfold wAnd
  rw [BitVec.toNat_and]
  have := Nat.and_le_right (n := y.toNat) (m := (wSub y w1).toNat)
  omega
/-- What a box of a number holds. -/
def boxN (bx : Nat) (w : World) : Nat := match w.cell? ⟨bx, 0, none⟩ with
  | some (.int _ v) => v.toNat
  | _ => 0
theorem boxN_of {bx : Nat} {w : World} {t : TypeId} {y : BitVec 32} (h : Boxed w bx t (.int .u32 (wN y))) : boxN bx w = y.toNat := by
  unfold boxN
  rw [h.cell]
  show (wN y).toNat = y.toNat
  unfold wN
  omega

end Go.Proofs.Ytdinknpagklkjaa

/- Words under xor: what is a sum of some; a base with distinct highest bits; how many are free: in plain Lean. Conditions: none. -/
namespace Go.Proofs.Ytdinknpagklkjaa
open Go.RowKit

theorem x_comm (a b : BitVec 32) : wXor a b = wXor b a := BitVec.xor_comm a b
theorem x_assoc (a b c : BitVec 32) : wXor (wXor a b) c = wXor a (wXor b c) := BitVec.xor_assoc a b c
theorem x_self (a : BitVec 32) : wXor a a = w0 := BitVec.xor_self
theorem x_0 (a : BitVec 32) : wXor a w0 = a := BitVec.xor_zero
theorem x_left (a b c : BitVec 32) : wXor a (wXor b c) = wXor b (wXor a c) := by rw [← x_assoc, x_comm a b, x_assoc]
theorem x_back (a b : BitVec 32) : wXor a (wXor a b) = b := by rw [← x_assoc, x_self, x_comm, x_0]
theorem x_zero {a b : BitVec 32} (h : wXor a b = w0) : a = b := by
  have := x_back a b
  rw [h, x_0] at this
  exact this

/-- A sum of some of a list. -/
def Sp : List (BitVec 32) → BitVec 32 → Prop
  | [], x => x = w0
  | a :: l, x => Sp l x ∨ Sp l (wXor a x)
theorem Sp_0 : ∀ l, Sp l w0
  | [] => rfl
  | _ :: l => .inl (Sp_0 l)
theorem Sp_add : ∀ (l : List (BitVec 32)) (x y : BitVec 32), Sp l x → Sp l y → Sp l (wXor x y)
  | [], x, y, hx, hy => by
    rw [show x = w0 from hx, show y = w0 from hy]
    exact x_0 _
  | a :: l, x, y, hx, hy => by
    rcases hx with hx | hx <;> rcases hy with hy | hy
    · exact .inl (Sp_add l x y hx hy)
    · refine .inr ?_
      have := Sp_add l _ _ hx hy
      rwa [x_left] at this
    · refine .inr ?_
      have := Sp_add l _ _ hx hy
      rwa [x_assoc] at this
    · refine .inl ?_
      have := Sp_add l _ _ hx hy
      rwa [x_assoc, x_left x a y, x_back] at this
theorem Sp_iff {l : List (BitVec 32)} {x y : BitVec 32} (h : Sp l x) : Sp l (wXor x y) ↔ Sp l y :=
  ⟨fun k => by have := Sp_add l _ _ h k; rwa [x_back] at this, fun k => Sp_add l _ _ h k⟩
theorem Sp_mem : ∀ {l : List (BitVec 32)} {x : BitVec 32}, x ∈ l → Sp l x
  | a :: l, x, h => by
    rcases List.mem_cons.1 h with rfl | h
    · exact .inr (by rw [x_self]; exact Sp_0 l)
    · exact .inl (Sp_mem h)
theorem Sp_snoc (a : BitVec 32) : ∀ (l : List (BitVec 32)) (x : BitVec 32), Sp (l ++ [a]) x ↔ Sp l x ∨ Sp l (wXor a x)
  | [], x => Iff.rfl
  | b :: l, x => by
    show Sp (l ++ [a]) x ∨ Sp (l ++ [a]) (wXor b x) ↔ (Sp l x ∨ Sp l (wXor b x)) ∨ (Sp l (wXor a x) ∨ Sp l (wXor b (wXor a x)))
    rw [Sp_snoc a l x, Sp_snoc a l (wXor b x), x_left a b x]
    constructor
    · rintro ((h | h) | (h | h)) <;> simp [h]
    · rintro ((h | h) | (h | h)) <;> simp [h]
theorem Sp_old {l : List (BitVec 32)} {a : BitVec 32} (h : Sp l a) (x : BitVec 32) : Sp (a :: l) x ↔ Sp l x :=
  ⟨fun k => k.elim id fun k => (Sp_iff h).1 k, .inl⟩

/-! ### A base: each with a highest bit of its own -/
theorem bl_of {x : BitVec 32} {i : Nat} (h : x.getLsbD i = true) (hj : ∀ j, i < j → x.getLsbD j = false) : bl x.toNat = i + 1 := by
  refine bl_unique (Nat.ge_two_pow_of_testBit h) (Nat.lt_pow_two_of_testBit _ fun j hji => ?_)
  exact hj j (by omega)
theorem bl_xor_lt {x y : BitVec 32} (hx : x ≠ w0) (hy : y ≠ w0) (h : bl x.toNat = bl y.toNat) : bl (wXor x y).toNat < bl x.toNat := by
  obtain ⟨i, h1, h2, h3, h4⟩ := bl_top hx
  obtain ⟨j, k1, k2, k3, k4⟩ := bl_top hy
  obtain rfl : i = j := by omega
  rw [h1]
  refine Nat.lt_succ_of_le (bl_le (Nat.lt_pow_two_of_testBit _ fun m hm => ?_))
  show (wXor x y).getLsbD m = false
  rw [b_xor]
  rcases Nat.lt_or_ge i m with hlt | hge
  · have a1 : x.getLsbD m = false := by
      rw [← Bool.not_eq_true]; intro he; have := h4 m he; omega
    have a2 : y.getLsbD m = false := by
      rw [← Bool.not_eq_true]; intro he; have := k4 m he; omega
    rw [a1, a2]; rfl
  · obtain rfl : m = i := by omega
    rw [h3, k3]; rfl
theorem bl_xor_ne {x y : BitVec 32} (hy : y ≠ w0) (h : bl x.toNat < bl y.toNat) : bl (wXor x y).toNat = bl y.toNat := by
  obtain ⟨j, k1, k2, k3, k4⟩ := bl_top hy
  have hxl : ∀ m, j ≤ m → x.getLsbD m = false := fun m hm => bit_lt (bl_lt x.toNat) (by omega)
  rw [k1]
  refine bl_of ?_ fun m hm => ?_
  · rw [b_xor, hxl j (Nat.le_refl _), k3]; rfl
  · rw [b_xor, hxl m (by omega)]
    have a2 : y.getLsbD m = false := by
      rw [← Bool.not_eq_true]; intro he; have := k4 m he; omega
    rw [a2]; rfl
def Base (b : List (BitVec 32)) : Prop := (∀ x ∈ b, x ≠ w0) ∧ b.Pairwise fun x y => bl x.toNat ≠ bl y.toNat
theorem Base_nil : Base [] := ⟨by simp, .nil⟩
theorem Base_top : ∀ {b : List (BitVec 32)} {x : BitVec 32}, Base b → Sp b x → x ≠ w0 → ∃ y ∈ b, bl y.toNat = bl x.toNat
  | [], x, _, h, h0 => absurd h h0
  | a :: l, x, hb, h, h0 => by
    obtain ⟨hn, hp⟩ := hb
    rw [List.pairwise_cons] at hp
    have hl : Base l := ⟨fun y hy => hn y (by simp [hy]), hp.2⟩
    rcases h with h | h
    · obtain ⟨y, hy, he⟩ := Base_top hl h h0
      exact ⟨y, by simp [hy], he⟩
    · by_cases hz : wXor a x = w0
      · exact ⟨a, by simp, by rw [x_zero hz]⟩
      · obtain ⟨y, hy, he⟩ := Base_top hl h hz
        have hne : bl a.toNat ≠ bl (wXor a x).toNat := he ▸ hp.1 y hy
        have hxe : x = wXor a (wXor a x) := (x_back a x).symm
        rcases Nat.lt_trichotomy (bl a.toNat) (bl (wXor a x).toNat) with hlt | heq | hgt
        · refine ⟨y, by simp [hy], ?_⟩
          rw [hxe, bl_xor_ne hz hlt]
          exact he
        · exact absurd heq hne
        · refine ⟨a, by simp, ?_⟩
          rw [hxe, x_comm, bl_xor_ne (hn a (by simp)) hgt]
theorem Base_snoc {b : List (BitVec 32)} {w : BitVec 32} (h : Base b) (hw : w ≠ w0) (hno : ∀ y ∈ b, bl y.toNat ≠ bl w.toNat) : Base (b ++ [w]) := by
  refine ⟨fun x hx => ?_, List.pairwise_append.2 ⟨h.2, List.pairwise_singleton _ _, fun x hx y hy => ?_⟩⟩
  · rcases List.mem_append.1 hx with hx | hx
    · exact h.1 x hx
    · rw [List.mem_singleton] at hx; rw [hx]; exact hw
  · rw [List.mem_singleton] at hy
    rw [hy]
    exact hno x hx
/-- What one word more makes of a base. -/
def AddR (b : List (BitVec 32)) (w : BitVec 32) (b' : List (BitVec 32)) (g : Bool) : Prop :=
  Base b' ∧ ((Sp b w ∧ g = false ∧ b' = b) ∨ (¬ Sp b w ∧ g = true ∧ b'.length = b.length + 1 ∧ ∀ x, Sp b' x ↔ Sp (w :: b) x))
theorem AddR.old {b : List (BitVec 32)} {w c : BitVec 32} (h : Base b) (hs : Sp b (wXor w c)) (hc : c = w0) : AddR b w b false := by
  subst hc
  rw [x_0] at hs
  exact ⟨h, .inl ⟨hs, rfl, rfl⟩⟩
theorem AddR.new {b : List (BitVec 32)} {w c : BitVec 32} (h : Base b) (hs : Sp b (wXor w c)) (hc : c ≠ w0) (hno : ∀ y ∈ b, bl y.toNat ≠ bl c.toNat) : AddR b w (b ++ [c]) true := by
  have hcn : ¬ Sp b c := fun k => by
    obtain ⟨y, hy, he⟩ := Base_top h k hc
    exact hno y hy he
  refine ⟨Base_snoc h hc hno, .inr ⟨fun k => hcn ((Sp_iff k).1 hs), rfl, by simp, fun x => ?_⟩⟩
  rw [Sp_snoc]
  have e : Sp b (wXor c x) ↔ Sp b (wXor w x) := by
    have := Sp_iff (y := wXor c x) hs
    rw [x_assoc, x_back] at this
    exact this.symm
  rw [e]
  exact Iff.rfl
theorem AddR.step {b : List (BitVec 32)} {w c y : BitVec 32} (h : Base b) (hs : Sp b (wXor w c)) (hc : c ≠ w0) (hy : y ∈ b) (he : bl y.toNat = bl c.toNat) : Sp b (wXor w (wXor c y)) ∧ bl (wXor c y).toNat < bl c.toNat := by
  refine ⟨?_, bl_xor_lt hc (h.1 y hy) he.symm⟩
  rw [← x_assoc, x_comm]
  exact (Sp_iff (Sp_mem hy)).2 hs
/-- A base as the map holds it. -/
def baseL (b : List (BitVec 32)) : List (Int × Value) := b.map fun x => ((bl x.toNat : Int), .int .u32 (wN x))
theorem getK_base (k : Nat) : ∀ b : List (BitVec 32), (getK (baseL b) (k : Int) = none ∧ ∀ y ∈ b, bl y.toNat ≠ k) ∨ ∃ y ∈ b, bl y.toNat = k ∧ getK (baseL b) (k : Int) = some (.int .u32 (wN y))
  | [] => .inl ⟨rfl, by simp⟩
  | a :: l => by
    by_cases h : (k : Int) = (bl a.toNat : Int)
    · refine .inr ⟨a, by simp, by omega, ?_⟩
      show (if (k : Int) = (bl a.toNat : Int) then some (Value.int .u32 (wN a)) else _) = _
      rw [if_pos h]
    · have e : getK (baseL (a :: l)) (k : Int) = getK (baseL l) k := by
        show (if (k : Int) = (bl a.toNat : Int) then some (Value.int .u32 (wN a)) else _) = _
        rw [if_neg h]
        rfl
      rw [e]
      rcases getK_base k l with ⟨h1, h2⟩ | ⟨y, h1, h2, h3⟩
      · exact .inl ⟨h1, fun y hy => by
          rcases List.mem_cons.1 hy with rfl | hy
          · omega
          · exact h2 y hy⟩
      · exact .inr ⟨y, by simp [h1], h2, h3⟩
theorem putK_base {b : List (BitVec 32)} {c : BitVec 32} (h : ∀ y ∈ b, bl y.toNat ≠ bl c.toNat) : putK (baseL b) (bl c.toNat : Int) (.int .u32 (wN c)) = baseL (b ++ [c]) := by
  rw [putK_none]
  · simp [baseL]
  · intro p hp
    obtain ⟨y, hy, rfl⟩ := List.mem_map.1 hp
    have := h y hy
    simp only [ne_eq]
    omega

/-! ### How many are free -/
open Classical in
noncomputable def rk : List (BitVec 32) → Nat
  | [] => 0
  | a :: l => rk l + if Sp l a then 0 else 1
/-- A base of what a list spans, as large as the list's rank. -/
def Spans (b l : List (BitVec 32)) : Prop := Base b ∧ (∀ x, Sp b x ↔ Sp l x) ∧ b.length = rk l
theorem Spans_nil : Spans [] [] := ⟨Base_nil, fun _ => Iff.rfl, rfl⟩
theorem Spans.step {b l b' : List (BitVec 32)} {w : BitVec 32} {g : Bool} (h : Spans b l) (k : AddR b w b' g) : Spans b' (w :: l) := by
  obtain ⟨h1, h2, h3⟩ := h
  obtain ⟨k1, ⟨k2, _, rfl⟩ | ⟨k2, _, k3, k4⟩⟩ := k
  · refine ⟨k1, fun x => ?_, ?_⟩
    · rw [Sp_old ((h2 w).1 k2), h2]
    · rw [rk, if_pos ((h2 w).1 k2), h3]
      rfl
  · refine ⟨k1, fun x => ?_, ?_⟩
    · rw [k4]
      show (Sp b x ∨ Sp b (wXor w x)) ↔ (Sp l x ∨ Sp l (wXor w x))
      rw [h2, h2]
    · rw [rk, if_neg (fun hh => k2 ((h2 w).2 hh)), k3, h3]
theorem rk_le : ∀ l, rk l ≤ l.length
  | [] => Nat.le_refl _
  | a :: l => by
    have := rk_le l
    rw [rk, List.length_cons]
    split <;> omega
open Classical in
noncomputable def spanL : List (BitVec 32) → List (BitVec 32)
  | [] => [w0]
  | a :: l => if Sp l a then spanL l else spanL l ++ (spanL l).map (wXor a)
theorem mem_span : ∀ (l : List (BitVec 32)) (x : BitVec 32), x ∈ spanL l ↔ Sp l x
  | [], x => List.mem_singleton
  | a :: l, x => by
    rw [spanL]
    split
    · rename_i h
      rw [mem_span l x, Sp_old h]
    · rw [List.mem_append, mem_span l x, List.mem_map]
      refine ⟨?_, ?_⟩
      · rintro (h | ⟨y, hy, rfl⟩)
        · exact .inl h
        · exact .inr (by rw [x_back]; exact (mem_span l y).1 hy)
      · rintro (h | h)
        · exact .inl h
        · exact .inr ⟨_, (mem_span l _).2 h, x_back a x⟩
theorem span_nodup : ∀ l, (spanL l).Nodup
  | [] => by simp [spanL]
  | a :: l => by
    rw [spanL]
    split
    · exact span_nodup l
    · rename_i h
      refine List.nodup_append.2 ⟨span_nodup l, ?_, fun x hx y hy he => ?_⟩
      · refine List.Pairwise.map _ (fun x y hne he => hne ?_) (span_nodup l)
        have := congrArg (wXor a) he
        rwa [x_back, x_back] at this
      · obtain ⟨z, hz, rfl⟩ := List.mem_map.1 hy
        subst he
        apply h
        have := Sp_add l _ _ ((mem_span l _).1 hx) ((mem_span l _).1 hz)
        rwa [x_assoc, x_self, x_0] at this
theorem span_len : ∀ l, (spanL l).length = 2 ^ rk l
  | [] => rfl
  | a :: l => by
    rw [spanL, rk]
    split
    · rw [span_len l]; rfl
    · rw [List.length_append, List.length_map, span_len l, Nat.pow_succ]
      omega
theorem span_many {K l : List (BitVec 32)} (hn : K.Nodup) (h : ∀ x, x ∈ K ↔ Sp l x) : K.length = 2 ^ rk l := by
  rw [← span_len l]
  refine Nat.le_antisymm (hn.length_le_of_subset fun x hx => (mem_span l x).2 ((h x).1 hx)) ((span_nodup l).length_le_of_subset fun x hx => (h x).2 ((mem_span l x).1 hx))

/-! ### The sums of the sets within a set -/
section
variable (f : Nat → BitVec 32)
/-- The sum of those of a list for which p says yes. -/
def xsum (p : Nat → Bool) : List Nat → BitVec 32
  | [] => w0
  | a :: L => if p a then wXor (f a) (xsum p L) else xsum p L
theorem xsum_snoc (p : Nat → Bool) (a : Nat) : ∀ L, xsum f p (L ++ [a]) = if p a then wXor (f a) (xsum f p L) else xsum f p L
  | [] => rfl
  | b :: L => by
    show (if p b then wXor (f b) (xsum f p (L ++ [a])) else xsum f p (L ++ [a])) = if p a then wXor (f a) (if p b then wXor (f b) (xsum f p L) else xsum f p L) else (if p b then wXor (f b) (xsum f p L) else xsum f p L)
    rw [xsum_snoc p a L]
    split <;> split <;> simp [x_left]
theorem xsum_congr {p q : Nat → Bool} : ∀ {L : List Nat}, (∀ j ∈ L, p j = q j) → xsum f p L = xsum f q L
  | [], _ => rfl
  | a :: L, h => by
    rw [xsum, xsum, h a (by simp), xsum_congr (fun j hj => h j (by simp [hj]))]
theorem xsum_filter {p q : Nat → Bool} (h : ∀ j, p j = true → q j = true) : ∀ L : List Nat, xsum f p (L.filter q) = xsum f p L
  | [] => rfl
  | a :: L => by
    rw [List.filter_cons]
    split
    · rw [xsum, xsum, xsum_filter h L]
    · rename_i hq
      have hp : p a = false := by rw [← Bool.not_eq_true]; exact fun e => hq (h a e)
      rw [xsum, hp, xsum_filter h L]
      rfl
theorem xsum_range {p : Nat → Bool} {n : Nat} (h : ∀ j, n ≤ j → p j = false) : ∀ m, n ≤ m → xsum f p (List.range m) = xsum f p (List.range n)
  | 0, hm => by rw [show n = 0 by omega]
  | m + 1, hm => by
    by_cases he : n = m + 1
    · rw [he]
    · rw [List.range_succ, xsum_snoc, h m (by omega)]
      exact xsum_range h m (by omega)
theorem Sp_xsum : ∀ (L : List Nat) (x : BitVec 32), L.Nodup → (Sp (L.map f) x ↔ ∃ p : Nat → Bool, xsum f p L = x)
  | [], x, _ => ⟨fun h => ⟨fun _ => false, h.symm⟩, fun ⟨_, h⟩ => h.symm⟩
  | a :: L, x, hn => by
    obtain ⟨ha, hn⟩ := List.nodup_cons.1 hn
    show Sp (L.map f) x ∨ Sp (L.map f) (wXor (f a) x) ↔ _
    rw [Sp_xsum L x hn, Sp_xsum L _ hn]
    have hne : ∀ (p : Nat → Bool) (v : Bool), xsum f (fun j => if j = a then v else p j) L = xsum f p L := fun p v => xsum_congr f fun j hj => by
      have : ¬ j = a := fun e => ha (e ▸ hj)
      simp [this]
    constructor
    · rintro (⟨p, hp⟩ | ⟨p, hp⟩)
      · refine ⟨fun j => if j = a then false else p j, ?_⟩
        rw [xsum, hne]
        simpa using hp
      · refine ⟨fun j => if j = a then true else p j, ?_⟩
        rw [xsum, hne, hp, x_back]
        simp
    · rintro ⟨p, hp⟩
      rw [xsum] at hp
      split at hp
      · refine .inr ⟨p, ?_⟩
        rw [← hp, x_back]
      · exact .inl ⟨p, hp⟩
/-- No sum of some is nothing. -/
def FreeL (L : List Nat) : Prop := ∀ p : Nat → Bool, (∃ j ∈ L, p j = true) → xsum f p L ≠ w0
theorem free_rk : ∀ L : List Nat, L.Nodup → (FreeL f L ↔ rk (L.map f) = L.length)
  | [], _ => ⟨fun _ => rfl, fun _ p ⟨j, hj, _⟩ => by cases hj⟩
  | a :: L, hn => by
    obtain ⟨ha, hn'⟩ := List.nodup_cons.1 hn
    have ih := free_rk L hn'
    have hle := rk_le (L.map f)
    rw [List.length_map] at hle
    have hne : ∀ (p : Nat → Bool) (v : Bool), xsum f (fun j => if j = a then v else p j) L = xsum f p L := fun p v => xsum_congr f fun j hj => by
      have : ¬ j = a := fun e => ha (e ▸ hj)
      simp [this]
    have e : rk ((a :: L).map f) = (a :: L).length ↔ (rk (L.map f) = L.length ∧ ¬ Sp (L.map f) (f a)) := by
      rw [List.map_cons, rk, List.length_cons]
      split
      · rename_i hs
        exact ⟨fun h => by omega, fun h => absurd hs h.2⟩
      · rename_i hs
        exact ⟨fun h => ⟨by omega, hs⟩, fun h => by omega⟩
    rw [e, ← ih]
    constructor
    · intro h
      refine ⟨fun p ⟨j, hj, hpj⟩ h0 => ?_, fun hs => ?_⟩
      · refine h (fun i => if i = a then false else p i) ⟨j, by simp [hj], ?_⟩ ?_
        · have : ¬ j = a := fun e => ha (e ▸ hj)
          simp [this, hpj]
        · rw [xsum, hne]
          simpa using h0
      · obtain ⟨p, hp⟩ := (Sp_xsum f L _ hn').1 hs
        refine h (fun i => if i = a then true else p i) ⟨a, by simp, by simp⟩ ?_
        rw [xsum, hne, hp, x_self]
        simp
    · rintro ⟨h1, h2⟩ p ⟨j, hj, hpj⟩ h0
      rw [xsum] at h0
      split at h0
      · exact h2 ((Sp_xsum f L _ hn').2 ⟨p, (x_zero h0).symm⟩)
      · rename_i hpa
        rcases List.mem_cons.1 hj with rfl | hj
        · exact hpa hpj
        · exact h1 p ⟨j, hj, hpj⟩ h0
end
end Go.Proofs.Ytdinknpagklkjaa

/- The deferred calls of a function that holds ranges over a function within loops: a list of marks; a loop whose frame's marks may grow; the way out. -/
namespace Go.Proofs.Ytdinknpagklkjaa
open Go.RowKit Go.Shelf

def markOf (D : Nat) : Deferred := { target := .collected D, args := #[] }

/-- The marks of some loops' boxes, from B on, each box open and none in it. -/
def Marks (B : Nat) (ds : List Deferred) (w : World) : Prop :=
  ∃ Ds : List Nat, ds = Ds.map markOf ∧ Ds.Nodup ∧ ∀ D ∈ Ds, B ≤ D ∧ w.heap[D]? = some (Obj.deferred (some []))

theorem Marks.nil (B : Nat) (w : World) : Marks B [] w := ⟨[], rfl, List.nodup_nil, fun _ h => by cases h⟩
theorem Marks.imp {B : Nat} {ds : List Deferred} {w w' : World} (h : Marks B ds w) (hk : ∀ D : Nat, w.heap[D]? = some (Obj.deferred (some [])) → w'.heap[D]? = some (Obj.deferred (some []))) : Marks B ds w' := by
  obtain ⟨Ds, h1, h2, h3⟩ := h
  exact ⟨Ds, h1, h2, fun D hD => ⟨(h3 D hD).1, hk D (h3 D hD).2⟩⟩
theorem lt_of_block {w : World} {D : Nat} {o : Obj} (h : w.heap[D]? = some o) : D < w.heap.size := (Array.getElem?_eq_some_iff.1 h).1
theorem Marks.below {B b : Nat} {ds : List Deferred} {w w' : World} (h : Marks B ds w) (hb : Below b w w') (hs : w.heap.size ≤ b) : Marks B ds w' :=
  h.imp fun D hD => (hb.block D (Nat.lt_of_lt_of_le (lt_of_block hD) hs)).trans hD
theorem Marks.alloc {B : Nat} {ds : List Deferred} {w : World} (h : Marks B ds w) (o : Obj) : Marks B ds (w.alloc o) :=
  h.below ((Below.refl _ w).alloc (Nat.le_refl _) _) (Nat.le_refl _)
theorem Marks.setCell {B : Nat} {ds : List Deferred} {w : World} (h : Marks B ds w) {p : Addr} (v : Value) (hp : ∀ o, w.heap[p.block]? = some o → o ≠ Obj.deferred (some [])) : Marks B ds (w.setCell p v) :=
  h.imp fun D hD => (Below.heap_setCell w p v D (fun he => hp _ (he ▸ hD) rfl)).trans hD
/-- A new mark, of a box at or behind the size the old ones were laid in. -/
theorem Marks.cons {B D S : Nat} {ds : List Deferred} {w w' : World} (h : Marks B ds w) (hS : w.heap.size = S) (hD : S ≤ D) (hB : B ≤ S) (hk : ∀ k : Nat, k < S → w.heap[k]? = some (Obj.deferred (some [])) → w'.heap[k]? = some (Obj.deferred (some [])))
    (hnew : w'.heap[D]? = some (Obj.deferred (some []))) : Marks B ({ target := .collected D, args := #[] } :: ds) w' := by
  obtain ⟨Ds, h1, h2, h3⟩ := h
  have hlt : ∀ E ∈ Ds, E < S := fun E hE => hS ▸ lt_of_block (h3 E hE).2
  refine ⟨D :: Ds, by rw [h1]; rfl, List.nodup_cons.2 ⟨fun hm => ?_, h2⟩, fun E hE => ?_⟩
  · have := hlt D hm
    omega
  · rcases List.mem_cons.1 hE with rfl | hE
    · exact ⟨by omega, hnew⟩
    · exact ⟨(h3 E hE).1, hk E (hlt E hE) (h3 E hE).2⟩

/-- What the way out leaves as it was: all but the marks' boxes. -/
def Shut (B : Nat) (w w' : World) : Prop := Below B w w' ∧ ∀ (k : Nat) (o : Obj), w.heap[k]? = some o → o ≠ Obj.deferred (some []) → w'.heap[k]? = some o
theorem Shut.refl (B : Nat) (w : World) : Shut B w w := ⟨Below.refl _ _, fun _ _ h _ => h⟩
theorem Shut.trans {B : Nat} {a b c : World} (h : Shut B a b) (k : Shut B b c) : Shut B a c := ⟨h.1.trans k.1, fun i o hi ho => k.2 i o (h.2 i o hi ho) ho⟩

theorem Below.putObj' {B : Nat} (w : World) {D : Nat} (o : Obj) (h : B ≤ D) : Below B w (w.putObj D o) :=
  ⟨rfl, rfl, rfl, Nat.le_of_eq World.putObj_size.symm, fun k hk => World.putObj_heap_other (by omega)⟩

theorem leaves_marks {F : Fence} {n : Nat} {P : Program} {fn : Func} {tmps : Array Value} {R : Ending → World → Prop} {B : Nat} : ∀ (Ds : List Nat) (w : World), Ds.Nodup → (∀ D ∈ Ds, B ≤ D ∧ w.heap[D]? = some (Obj.deferred (some []))) →
    (∀ w', Shut B w w' → LeavesIn F n P fn tmps R [] .returning w') → LeavesInM F n P fn tmps R (Ds.map markOf) .returning w
  | [], w, _, _, h => h w (Shut.refl B w)
  | D :: Ds, w, hn, hD, h => by
    obtain ⟨hDn, hn'⟩ := List.nodup_cons.1 hn
    obtain ⟨hBD, hbox⟩ := hD D List.mem_cons_self
    refine ⟨by simp, .inl ⟨D, w.putObj D (.deferred none), rfl, run_takeDeferred hbox, leaves_marks Ds _ hn' (fun E hE => ?_) fun w' hw' => h w' (Shut.trans ?_ hw')⟩⟩
    · obtain ⟨h1, h2⟩ := hD E (List.mem_cons_of_mem _ hE)
      exact ⟨h1, (World.putObj_heap_other (show E ≠ D from fun he => hDn (he ▸ hE))).trans h2⟩
    · refine ⟨Below.putObj' w _ hBD, fun k o hk ho => ?_⟩
      by_cases hkD : k = D
      · subst hkD
        rw [hbox] at hk
        cases hk
        exact absurd rfl ho
      · exact (World.putObj_heap_other hkD).trans hk

/-- The function's end, behind its marks. -/
theorem bodyPostM_ret {F : Fence} {n : Nat} {P : Program} {fn : Func} {a : Act} {w : World} {R : Ending → World → Prop} {B : Nat} (hm : Marks B a.defers w)
    (h : ∀ w', Shut B w w' → ∃ v, (results fn a.tmps).run P w' = .ok v w' ∧ R (.returned v) w') : bodyPostM F n P fn R .ret a w := by
  obtain ⟨Ds, h1, h2, h3⟩ := hm
  show LeavesInM F n P fn a.tmps R a.defers .returning w
  rw [h1]
  exact leaves_marks Ds w h2 h3 h

/-- The frame with some slots' values put in. -/
def patch (t : List Value) (ws : List Nat) (g : Nat → Value) : List Value := ws.foldl (fun t k => t.set k (g k)) t
/-- What a frame holds in a slot. -/
def slot (t : List Value) (k : Nat) : Value := t.getD k undef

theorem slot_other (g : Nat → Value) (k : Nat) : ∀ (ws : List Nat) (t : List Value), k ∉ ws → slot (patch t ws g) k = slot t k
  | [], _, _ => rfl
  | i :: ws, t, hk => by
    show slot (patch (t.set i (g i)) ws g) k = _
    rw [slot_other g k ws _ (fun h => hk (List.mem_cons_of_mem _ h))]
    have : i ≠ k := fun h => hk (h ▸ List.mem_cons_self)
    simp [slot, List.getD_eq_getElem?_getD, List.getElem?_set, this]
theorem slot_patch (g : Nat → Value) : ∀ (ws : List Nat) (t : List Value), ws.Nodup → (∀ k ∈ ws, k < t.length) → ∀ k ∈ ws, slot (patch t ws g) k = g k
  | [], _, _, _, _, hk => by cases hk
  | j :: ws, t, hn, hl, k, hk => by
    obtain ⟨hj, hn'⟩ := List.nodup_cons.1 hn
    show slot (patch (t.set j (g j)) ws g) k = g k
    by_cases hkw : k ∈ ws
    · exact slot_patch g ws _ hn' (fun i hi => by simpa using hl i (List.mem_cons_of_mem _ hi)) k hkw
    · have hkj : k = j := by
        rcases List.mem_cons.1 hk with h | h
        · exact h
        · exact absurd h hkw
      subst hkj
      rw [slot_other g k ws _ hkw]
      have := hl k List.mem_cons_self
      simp [slot, List.getD_eq_getElem?_getD, this]

/-- A loop whose frame may change in the slots ws and in its marks. -/
theorem wpIn_loop_marks {F : Fence} {n : Nat} {P : Program} {c : Code} {Q : Exit → Act → World → Prop} {t : List Value} {ds : List Deferred} {w : World} (ws : List Nat)
    (Rel : (Nat → Value) → List Deferred → World → Prop) (μ : (Nat → Value) → World → Nat) (ht : t = patch t ws (slot t)) (h0 : Rel (slot t) ds w)
    (round : ∀ (g : Nat → Value) (ds' : List Deferred) (wr : World) (K : Act → World → Prop), Rel g ds' wr →
      (∀ (t' : List Value) (ds'' : List Deferred) (w' : World), t' = patch t ws (slot t') → Rel (slot t') ds'' w' → μ (slot t') w' < μ g wr → K { tmps := t'.toArray, defers := ds'' } w') →
      c.wpIn F n P (Exit.then K Q) { tmps := (patch t ws g).toArray, defers := ds' } wr)
    (hμ : ∀ g g' w, (∀ k ∈ ws, g k = g' k) → μ g w = μ g' w) (hws : ws.Nodup) (N : Nat) (hN : t.length = N) (hlt : ∀ k ∈ ws, k < N) :
    (Code.loop c).wpIn F n P Q { tmps := t.toArray, defers := ds } w := by
  refine wpIn_loop (fun a' w' => ∃ g, a'.tmps = (patch t ws g).toArray ∧ Rel g a'.defers w') (fun a' w' => μ (slot a'.tmps.toList) w') ⟨_, by rw [← ht], h0⟩ ?_
  rintro ⟨t1, ds1⟩ w1 ⟨g, h1, h2⟩
  simp only at h1 h2
  subst h1
  refine round g ds1 w1 _ h2 fun t' ds'' w' ht' hr hm => ⟨⟨_, by rw [← ht'], hr⟩, ?_⟩
  have : μ (slot (patch t ws g)) w1 = μ g w1 := hμ _ _ _ fun k hk => slot_patch g ws t hws (fun k hk => hN ▸ hlt k hk) k hk
  simp only
  rw [this]
  exact hm
end Go.Proofs.Ytdinknpagklkjaa

/- What a call or a range leaves as it was: all blocks but some. Conditions: none. -/
namespace Go.Proofs.Ytdinknpagklkjaa
open Go.RowKit Go.Shelf

/-- Of what lay in W0 nothing has turned but the blocks ex. -/
structure Held (ex : List Nat) (W0 W : World) : Prop where
  os : W.os = W0.os
  tape : W.tape = W0.tape
  output : W.output = W0.output
  size : W0.heap.size ≤ W.heap.size
  block : ∀ k : Nat, k < W0.heap.size → k ∉ ex → W.heap[k]? = W0.heap[k]?
theorem Held.refl (ex : List Nat) (W : World) : Held ex W W := ⟨rfl, rfl, rfl, Nat.le_refl _, fun _ _ _ => rfl⟩
theorem Held.trans {ex : List Nat} {a b c : World} (h : Held ex a b) (k : Held ex b c) : Held ex a c :=
  ⟨k.os.trans h.os, k.tape.trans h.tape, k.output.trans h.output, Nat.le_trans h.size k.size, fun i hi hx => (k.block i (Nat.lt_of_lt_of_le hi h.size) hx).trans (h.block i hi hx)⟩
theorem Held.below {ex : List Nat} {b : Nat} {a w w' : World} (h : Held ex a w) (k : Below b w w') (hb : w.heap.size ≤ b) : Held ex a w' :=
  ⟨k.os.trans h.os, k.tape.trans h.tape, k.output.trans h.output, Nat.le_trans h.size k.size, fun i hi hx => (k.block i (by have := h.size; omega)).trans (h.block i hi hx)⟩
theorem Held.alloc {ex : List Nat} {a w : World} (h : Held ex a w) (o : Obj) : Held ex a (w.alloc o) := h.below ((Below.refl _ w).alloc (Nat.le_refl _) o) (Nat.le_refl _)
theorem Held.drew {ex : List Nat} {a w : World} (h : Held ex a w) (n : Nat) : Held ex a (w.drewN n) := h.below (below_drewN (Below.refl _ w) n) (Nat.le_refl _)
theorem Held.setCell {ex : List Nat} {a w : World} (h : Held ex a w) {p : Addr} (hp : p.block ∈ ex) (v : Value) : Held ex a (w.setCell p v) :=
  ⟨h.os, h.tape, h.output, by simpa [World.setCell] using h.size, fun k hk hx => (Below.heap_setCell w p v k (fun e => hx (e ▸ hp))).trans (h.block k hk hx)⟩
theorem Held.to {ex : List Nat} {W0 W : World} (h : Held ex W0 W) {B : Nat} (hB : B ≤ W0.heap.size) (hx : ∀ k ∈ ex, B ≤ k) : Below B W0 W :=
  ⟨h.os, h.tape, h.output, h.size, fun k hk => h.block k (by omega) (fun hm => by have := hx k hm; omega)⟩
theorem Held.boxed {ex : List Nat} {W0 W : World} (h : Held ex W0 W) {b : Nat} {t : TypeId} {v : Value} (hb : Boxed W0 b t v) (hx : b ∉ ex) : Boxed W b t v := (h.block b hb.lt hx).trans hb
theorem Held.marks {ex : List Nat} {W0 W : World} (h : Held ex W0 W) {B : Nat} {ds : List Deferred} (hm : Marks B ds W0) (hx : ∀ k ∈ ex, W0.heap[k]? ≠ some (Obj.deferred (some []))) : Marks B ds W :=
  hm.imp fun D hD => (h.block D (lt_of_block hD) (fun hmem => hx D hmem hD)).trans hD
theorem Held.own {β : Type} {ex : List Nat} {W0 : World} : OwnFrom W0.heap.size (fun (_ : β) W => Held ex W0 W) :=
  fun _ X Y row hs hg hr => ⟨hg.os.trans hs.os, hg.tape.trans hs.tape, hg.output.trans hs.output, Nat.le_trans hs.size hg.size, fun k hk hx =>
    (hg.block k (Nat.lt_of_lt_of_le hk hs.size) (fun e => by have := (hr k e.symm).1; omega)).trans (hs.block k hk hx)⟩
theorem Held.drew1 {ex : List Nat} {a w : World} (h : Held ex a w) : Held ex a w.drew := ⟨h.os, h.tape, h.output, h.size, h.block⟩
theorem KeepsFrom.drew {B : Nat} {W W' : World} (h : KeepsFrom B W W') : KeepsFrom B W W'.drew := ⟨h.size, h.same⟩
theorem Boxed.drew {W : World} {b : Nat} {t : TypeId} {v : Value} (h : Boxed W b t v) : Boxed W.drew b t v := h
theorem Boxed.noMark {W : World} {b : Nat} {t : TypeId} {v : Value} (h : Boxed W b t v) : W.heap[b]? ≠ some (Obj.deferred (some [])) := fun e => by
  rw [show W.heap[b]? = _ from h] at e
  cases e
/-- A store to one box; what a round must tell of the world. -/
theorem KeepsFrom.box {B : Nat} {W : World} {b : Nat} {t : TypeId} {v : Value} (h : Boxed W b t v) (u : Value) : KeepsFrom B W (W.setCell ⟨b, 0, none⟩ u) :=
  ⟨by simp [World.setCell], fun k o _ hk ho => by
    refine (Below.heap_setCell W ⟨b, 0, none⟩ u k (fun e => ?_)).trans hk
    have e' : k = b := e
    subst e'
    rw [show W.heap[k]? = _ from h] at hk
    cases hk
    cases ho⟩
theorem KeepsFrom.below {B b : Nat} {W W' : World} (h : Below b W W') (hb : W.heap.size ≤ b) : KeepsFrom B W W' :=
  ⟨h.size, fun k o _ hk _ => (h.block k (Nat.lt_of_lt_of_le (lt_of_block hk) hb)).trans hk⟩

theorem Held.mark {ex : List Nat} {W0 W : World} {B D : Nat} {ds : List Deferred} (h : Held ex W0 W) (hm : Marks B ds W0) (hx : ∀ k ∈ ex, ∃ t v, Boxed W0 k t v) (hB : B ≤ W0.heap.size) (hD : W0.heap.size ≤ D)
    (hd : W.heap[D]? = some (Obj.deferred (some []))) : Marks B ({ target := .collected D, args := #[] } :: ds) W :=
  hm.cons rfl hD hB (fun i hi he => (h.block i hi (fun hmem => by obtain ⟨t, v, hb⟩ := hx i hmem; exact Boxed.noMark hb he)).trans he) hd

theorem Own.pop {α : Type} {w : World} {B c cap g : Nat} {e : TypeId} {f : α → List Value} {l : List α} {x : α} (h : Own w B e c f (some ⟨g, 0, none⟩) cap (l ++ [x])) : Own w B e c f (some ⟨g, 0, none⟩) cap l := by
  have hlen : ∀ l : List α, (l.flatMap f).length = l.length * c := fun l => by
    induction l with
    | nil => simp
    | cons y ys ih => rw [List.flatMap_cons, List.length_append, ih, h.1, List.length_cons, Nat.add_mul]; omega
  refine ⟨h.1, hlen l, ?_⟩
  rcases h.2.2 with ⟨hv, _⟩ | ⟨g', cp, cur, hv, hb, hh, hn, hm, hcs, ht⟩
  · cases hv
  · injection hv with h1 h2 h3
    injection h1 with h1
    injection h1 with h1 _ _
    subst h1 h3
    refine .inr ⟨g, cap, cur, rfl, hb, hh, ?_, hm, hcs, ?_⟩
    · rw [List.length_append] at hn; omega
    · have h4 := congrArg (List.take (l.length * c)) ht
      rw [List.take_take, List.flatMap_append] at h4
      rw [List.take_left' (hlen l)] at h4
      rw [← h4]
      congr 1
      rw [List.length_append, Nat.add_mul]
      omega
theorem KeepsFrom.held {B : Nat} {ex : List Nat} {W W' : World} (h : Held ex W W') (hx : ∀ k ∈ ex, ∀ o : Obj, W.heap[k]? = some o → o.isCells = true) : KeepsFrom B W W' :=
  ⟨h.size, fun k o _ hk ho => by
    by_cases hm : k ∈ ex
    · rw [hx k hm o hk] at ho
      cases ho
    · exact (h.block k (lt_of_block hk) hm).trans hk⟩
theorem Held.mono {ex ex' : List Nat} {W W' : World} (h : Held ex W W') (hs : ∀ k ∈ ex, k < W.heap.size → k ∈ ex') : Held ex' W W' :=
  ⟨h.os, h.tape, h.output, h.size, fun k hk hx => h.block k hk (fun hm => hx (hs k hm hk))⟩
theorem Held.then {ex ex' : List Nat} {a b c : World} (h : Held ex a b) (k : Held ex' b c) (hs : ∀ i ∈ ex', i < a.heap.size → i ∈ ex) : Held ex a c :=
  ⟨k.os.trans h.os, k.tape.trans h.tape, k.output.trans h.output, Nat.le_trans h.size k.size, fun i hi hx => (k.block i (Nat.lt_of_lt_of_le hi h.size) (fun hm => hx (hs i hm hi))).trans (h.block i hi hx)⟩
theorem Blk.held {ex : List Nat} {W W' : World} {g : Nat} {t : TypeId} {cs : Array Value} (h : Held ex W W') (hk : Blk W g t cs) (hg : g ∉ ex) : Blk W' g t cs := (h.block g hk.lt hg).trans hk
theorem Blk.isCells {W : World} {g : Nat} {t : TypeId} {cs : Array Value} (hk : Blk W g t cs) (o : Obj) (h : W.heap[g]? = some o) : o.isCells = true := by
  unfold Blk at hk
  rw [hk] at h
  cases h
  rfl
theorem Own.isCells {α : Type} {w : World} {B c cap g : Nat} {e : TypeId} {f : α → List Value} {l : List α} (h : Own w B e c f (some ⟨g, 0, none⟩) cap l) (o : Obj) (ho : w.heap[g]? = some o) : o.isCells = true := by
  rcases h.2.2 with ⟨hv, _⟩ | ⟨g', cp, cur, hv, hb, hh, _⟩
  · cases hv
  · injection hv with h1 h2 h3
    injection h1 with h1
    injection h1 with h1 _ _
    subst h1
    rw [hh] at ho
    cases ho
    rfl
theorem own_blk_ne {α : Type} {w : World} {B c cap g k : Nat} {e t : TypeId} {f : α → List Value} {l : List α} {cs : Array Value} (h : Own w B e c f (some ⟨g, 0, none⟩) cap l) (hk : Blk w k t cs) (hne : e ≠ t) : g ≠ k := fun he => by
  subst he
  rcases h.2.2 with ⟨hv, _⟩ | ⟨g', cp, cur, hv, hb, hh, _⟩
  · cases hv
  · injection hv with h1 h2 h3
    injection h1 with h1
    injection h1 with h1 _ _
    subst h1
    unfold Blk at hk
    rw [hh] at hk
    injection hk with hk
    injection hk with h1 h2 h3
    exact hne h2
theorem own_lt {α : Type} {w : World} {B c cap g : Nat} {e : TypeId} {f : α → List Value} {l : List α} (h : Own w B e c f (some ⟨g, 0, none⟩) cap l) : B ≤ g ∧ g < w.heap.size := h.lt g rfl
theorem own_held {α : Type} {ex : List Nat} {w w' : World} {B c cap g : Nat} {e : TypeId} {f : α → List Value} {l : List α} (h : Own w B e c f (some ⟨g, 0, none⟩) cap l) (hh : Held ex w w') (hg : g ∉ ex) : Own w' B e c f (some ⟨g, 0, none⟩) cap l := by
  have hlt := (own_lt h).2
  refine ⟨h.1, h.2.1, ?_⟩
  rcases h.2.2 with ⟨hv, _⟩ | ⟨g', cp, cur, hv, hb, hb2, r⟩
  · cases hv
  · have hgg : g = g' := by
      injection hv with h1 h2 h3
      injection h1 with h1
      injection h1
    subst hgg
    exact .inr ⟨g, cp, cur, hv, hb, (hh.block g hlt hg).trans hb2, r⟩
end Go.Proofs.Ytdinknpagklkjaa

/- append inside a fence; what a range over a function keeps of slices and blocks. Conditions: none. -/
namespace Go.Proofs.Ytdinknpagklkjaa
open Go.RowKit Go.Shelf

theorem wpListIn_append_run {F : Fence} {n : Nat} {P : Program} {ops : Array Oper} {rest : List Oper} {o : Oper} {a : Act} {w : World} {Q : Exit → Act → World → Prop} (hgd : o.guard = none) (s x : Operand) (t : TypeId) (hop : o.op = .call { callee := .builtin .append, args := #[s, x], argTypes := #[t, t] })
    (vs vx v' : Value) (w' : World) (hs : a.eval s = vs) (hx : a.eval x = vx) (hrun : (Builtin.append_ #[t, t] o.type #[vs, vx]).run P w = .ok v' w') (h : wpListIn F n P ops Q rest (a.put o.dst v') w') :
    wpListIn F n P ops Q (o :: rest) a w := by
  refine wpListIn_plain hgd fun K hK' => ?_
  unfold Oper.wpIn
  refine ⟨?_, ?_⟩
  · simp [Oper.about, hop, resolve, Target.leads, Sem.run_pure]
  · rw [Oper.semAt_plain F _ _ (by rw [hop]; intro c hc'; cases hc')]
    simp [execOp, hop, resolve, invoke, builtin, hs, hx, hrun, Result.andThen]
    exact hK' _ _ h
/-- 'append(s, xs...)', xs a slice that reads as a list, inside a fence. -/
theorem wpListIn_append_els {F : Fence} {n0 : Nat} {P : Program} {ops : Array Oper} {rest : List Oper} {o : Oper} {a : Act} {Q : Exit → Act → World → Prop} {α : Type} (hgd : o.guard = none) (s x : Operand) (t : TypeId) (ho : o.op = .call { callee := .builtin .append, args := #[s, x], argTypes := #[t, t] })
    (B c : Nat) (e : TypeId) (z : Value) (bytes : Nat) (ht : P.underlying t = some (.slice e)) (hI : (P.info? e).map (fun i => (i.zero, i.size, i.bytes)) = some (some z, c, bytes)) (hz1 : z.cells.size = c) (hc : 0 < c)
    (f : α → List Value) (w : World) (A : Option Addr) (n cap : Nat) (l : List α) (hl : l.length = n) (hs : a.eval s = .slice A n cap) (hown : Own w B e c f A cap l)
    (X : Option Addr) (m cx : Nat) (xs : List α) (hm : xs.length = m) (hx : a.eval x = .slice X m cx) (BX : Nat) (hX : Els w BX c f X xs) (h1 : ∀ u ∈ xs.flatMap f, u.oneCell' = true)
    (h63 : n + m ≤ maxLen) (hn : (n + m) * bytes ≤ 140737488355328) (hB : B ≤ w.heap.size)
    (h : ∀ (A' : Option Addr) (cap' : Nat) (w' : World), Own w' B e c f A' cap' (l ++ xs) → w.grownBy w' (blkOf A) → (blkOf A' = blkOf A ∨ blkOf A' = some w.heap.size) → wpListIn F n0 P ops Q rest (a.put o.dst (.slice A' (n + m) cap')) w') :
    wpListIn F n0 P ops Q (o :: rest) a w := by
  obtain ⟨A', cap', w', hrun, h2, h3, h4⟩ := run_append_els (P := P) t o.type B c e z bytes ht hI hz1 hc f w A n cap l hl hown X m cx xs hm BX hX h1 h63 hn hB
  exact wpListIn_append_run hgd s x t ho _ _ _ _ hs hx hrun (h A' cap' w' h2 h3 h4)
theorem wpListIn_push {F : Fence} {n0 : Nat} {P : Program} {ops : Array Oper} {rest : List Oper} {o : Oper} {a : Act} {Q : Exit → Act → World → Prop} {α : Type} (hgd : o.guard = none) (s x : Operand) (t : TypeId) (ho : o.op = .call { callee := .builtin .append, args := #[s, x], argTypes := #[t, t] })
    (B c : Nat) (e : TypeId) (z : Value) (bytes : Nat) (ht : P.underlying t = some (.slice e)) (hI : (P.info? e).map (fun i => (i.zero, i.size, i.bytes)) = some (some z, c, bytes)) (hz1 : z.cells.size = c) (hc : 0 < c)
    (f : α → List Value) (W : World) (ys : Array Value) (A : Option Addr) (n cap : Nat) (l : List α) (hl : l.length = n) (hs : a.eval s = .slice A n cap) (hown : Own W B e c f A cap l)
    (m : Nat) (xs : List α) (hm : xs.length = m) (hys : ys.toList = xs.flatMap f) (S : Nat) (hx : a.eval x = .slice (some ⟨S, 0, none⟩) m m) (hS : W.heap.size = S) (h1 : ∀ u ∈ ys.toList, u.oneCell' = true)
    (h63 : n + m ≤ maxLen) (hn : (n + m) * bytes ≤ 140737488355328) (hB : B ≤ S)
    (h : ∀ (A' : Option Addr) (cap' : Nat) (w' : World), Own w' B e c f A' cap' (l ++ xs) → (W.alloc (.cells ys e)).grownBy w' (blkOf A) → (blkOf A' = blkOf A ∨ blkOf A' = some (S + 1)) → wpListIn F n0 P ops Q rest (a.put o.dst (.slice A' (n + m) cap')) w') :
    wpListIn F n0 P ops Q (o :: rest) a (W.alloc (.cells ys e)) := by
  subst hS
  refine wpListIn_append_els hgd s x t ho B c e z bytes ht hI hz1 hc f _ A n cap l hl hs (hown.alloc _) _ m m xs hm hx (W.alloc (.cells ys e)).heap.size (els_of_blk (Blk.new W e ys) c f hown.1 xs hys) (by rw [← hys]; exact h1) h63 hn (by rw [size_alloc']; omega) (fun A' cap' w' o g e => h A' cap' w' o g (by rwa [size_alloc'] at e))

/-- What the range's own bookkeeping leaves as it was. -/
theorem own_kept {α : Type} {X Y : World} {B c cap : Nat} {e : TypeId} {f : α → List Value} {A : Option Addr} {l : List α} {row : Option Nat} (h : Own X B e c f A cap l) (hg : X.grownBy Y row) (hrow : ∀ r, row = some r → ∃ o : Obj, X.heap[r]? = some o ∧ o.isCells = false) : Own Y B e c f A cap l := by
  refine h.kept hg ?_
  rcases h.2.2 with ⟨hv, _⟩ | ⟨g, cp, cur, hv, _, hh, _⟩
  · injection hv with hv
    rw [hv]
    exact .inl rfl
  · injection hv with hv
    subst hv
    refine .inr fun he => ?_
    obtain ⟨o, ho, hc⟩ := hrow g he.symm
    rw [hh] at ho
    cases ho
    cases hc
theorem blk_kept {X Y : World} {g : Nat} {t : TypeId} {cs : Array Value} {row : Option Nat} (h : Blk X g t cs) (hg : X.grownBy Y row) (hrow : ∀ r, row = some r → ∃ o : Obj, X.heap[r]? = some o ∧ o.isCells = false) : Blk Y g t cs := by
  refine h.grown hg fun he => ?_
  obtain ⟨o, ho, hc⟩ := hrow g he.symm
  unfold Blk at h
  rw [h] at ho
  cases ho
  cases hc
theorem KeepsFrom.own {α : Type} {B0 : Nat} {W w4 : World} {B c cap : Nat} {e : TypeId} {f : α → List Value} {A : Option Addr} {l : List α} (h : Own W B e c f A cap l) (hg : W.grownBy w4 (blkOf A)) : KeepsFrom B0 W w4 := by
  refine ⟨hg.size, fun k o _ hk ho => ?_⟩
  refine (hg.block k (lt_of_block hk) ?_).trans hk
  intro he
  rcases h.2.2 with ⟨hv, _⟩ | ⟨g, cp, cur, hv, _, hh, _⟩
  · injection hv with hv
    rw [hv] at he; cases he
  · injection hv with hv
    subst hv
    have hkg : k = g := by simpa [blkOf] using he
    subst hkg
    rw [hh] at hk
    cases hk
    cases ho
theorem Own.shut {α : Type} {X Y : World} {B c cap b : Nat} {e : TypeId} {f : α → List Value} {A : Option Addr} {l : List α} (h : Own X B e c f A cap l) (hs : Shut b X Y) : Own Y B e c f A cap l := by
  refine ⟨h.1, h.2.1, ?_⟩
  rcases h.2.2 with hn | ⟨g, cp, cur, hv, hb, hh, r⟩
  · exact .inl hn
  · exact .inr ⟨g, cp, cur, hv, hb, hs.2 g _ hh (fun h => by cases h), r⟩
theorem Blk.shut {X Y : World} {b g : Nat} {t : TypeId} {cs : Array Value} (h : Blk X g t cs) (hs : Shut b X Y) : Blk Y g t cs := hs.2 g _ h (fun h => by cases h)
theorem Held.grown {ex : List Nat} {a w w' : World} {row : Option Nat} (h : Held ex a w) (hg : w.grownBy w' row) (hr : ∀ g, row = some g → a.heap.size ≤ g) : Held ex a w' :=
  ⟨hg.os.trans h.os, hg.tape.trans h.tape, hg.output.trans h.output, Nat.le_trans h.size hg.size, fun k hk hx => (hg.block k (Nat.lt_of_lt_of_le hk h.size) (fun e => by have := hr k e.symm; omega)).trans (h.block k hk hx)⟩
end Go.Proofs.Ytdinknpagklkjaa

/- Two rows of different types lie apart. Conditions: none. -/
namespace Go.Proofs.Ytdinknpagklkjaa
open Go.RowKit

theorem Own.apart {α β : Type} {w : World} {B B' c c' cap cap' : Nat} {e e' : TypeId} {f : α → List Value} {f' : β → List Value} {A A' : Option Addr} {l : List α} {l' : List β} (h : Own w B e c f A cap l) (h' : Own w B' e' c' f' A' cap' l') (hne : e ≠ e') : blkOf A = none ∨ blkOf A ≠ blkOf A' := by
  rcases h.2.2 with ⟨hv, _⟩ | ⟨g, cp, cur, hv, _, hh, _⟩
  · injection hv with hv
    left; rw [hv]; rfl
  · right
    injection hv with hv
    subst hv
    intro he
    rcases h'.2.2 with ⟨hv', _⟩ | ⟨g', cp', cur', hv', _, hh', _⟩
    · injection hv' with hv'
      rw [hv'] at he; cases he
    · injection hv' with hv'
      subst hv'
      have hg : g = g' := by simpa [blkOf] using he
      subst hg
      rw [hh] at hh'
      injection hh' with hh'
      injection hh' with _ h2
      exact hne h2
end Go.Proofs.Ytdinknpagklkjaa
