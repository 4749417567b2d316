/- Words under xor: what is a sum of some; a base with distinct highest bits; how many are free: in plain Lean. Conditions: none. -/
import Derived.Test.YtnpcbbdfpbnakaaDoorLen
import Derived.Test.YtnpcbbdfpbnakaaDoorSubP
import Derived.Test.YtnpcbbdfpbnakaaDoorEach
import Derived.Test.YtnpcbbdfpbnakaaDoorMaps
namespace Go.Proofs.YtnpcbbdfpbnakaaDoor
open Go.RowKit

theorem x_comm (a b : BitVec 32) : wXor a b = wXor b a := BitVec.xor_comm a b
theorem x_assoc (a b c : BitVec 32) : wXor (wXor a b) c = wXor a (wXor b c) := BitVec.xor_assoc a b c
theorem x_self (a : BitVec 32) : wXor a a = w0 := BitVec.xor_self
theorem x_0 (a : BitVec 32) : wXor a w0 = a := BitVec.xor_zero
theorem x_left (a b c : BitVec 32) : wXor a (wXor b c) = wXor b (wXor a c) := by rw [← x_assoc, x_comm a b, x_assoc]
theorem x_back (a b : BitVec 32) : wXor a (wXor a b) = b := by rw [← x_assoc, x_self, x_comm, x_0]
theorem x_zero {a b : BitVec 32} (h : wXor a b = w0) : a = b := by
  have := x_back a b
  rw [h, x_0] at this
  exact this

/-- A sum of some of a list. -/
def Sp : List (BitVec 32) → BitVec 32 → Prop
  | [], x => x = w0
  | a :: l, x => Sp l x ∨ Sp l (wXor a x)
theorem Sp_0 : ∀ l, Sp l w0
  | [] => rfl
  | _ :: l => .inl (Sp_0 l)
theorem Sp_add : ∀ (l : List (BitVec 32)) (x y : BitVec 32), Sp l x → Sp l y → Sp l (wXor x y)
  | [], x, y, hx, hy => by
    rw [show x = w0 from hx, show y = w0 from hy]
    exact x_0 _
  | a :: l, x, y, hx, hy => by
    rcases hx with hx | hx <;> rcases hy with hy | hy
    · exact .inl (Sp_add l x y hx hy)
    · refine .inr ?_
      have := Sp_add l _ _ hx hy
      rwa [x_left] at this
    · refine .inr ?_
      have := Sp_add l _ _ hx hy
      rwa [x_assoc] at this
    · refine .inl ?_
      have := Sp_add l _ _ hx hy
      rwa [x_assoc, x_left x a y, x_back] at this
theorem Sp_iff {l : List (BitVec 32)} {x y : BitVec 32} (h : Sp l x) : Sp l (wXor x y) ↔ Sp l y :=
  ⟨fun k => by have := Sp_add l _ _ h k; rwa [x_back] at this, fun k => Sp_add l _ _ h k⟩
theorem Sp_mem : ∀ {l : List (BitVec 32)} {x : BitVec 32}, x ∈ l → Sp l x
  | a :: l, x, h => by
    rcases List.mem_cons.1 h with rfl | h
    · exact .inr (by rw [x_self]; exact Sp_0 l)
    · exact .inl (Sp_mem h)
theorem Sp_snoc (a : BitVec 32) : ∀ (l : List (BitVec 32)) (x : BitVec 32), Sp (l ++ [a]) x ↔ Sp l x ∨ Sp l (wXor a x)
  | [], x => Iff.rfl
  | b :: l, x => by
    show Sp (l ++ [a]) x ∨ Sp (l ++ [a]) (wXor b x) ↔ (Sp l x ∨ Sp l (wXor b x)) ∨ (Sp l (wXor a x) ∨ Sp l (wXor b (wXor a x)))
    rw [Sp_snoc a l x, Sp_snoc a l (wXor b x), x_left a b x]
    constructor
    · rintro ((h | h) | (h | h)) <;> simp [h]
    · rintro ((h | h) | (h | h)) <;> simp [h]
theorem Sp_old {l : List (BitVec 32)} {a : BitVec 32} (h : Sp l a) (x : BitVec 32) : Sp (a :: l) x ↔ Sp l x :=
  ⟨fun k => k.elim id fun k => (Sp_iff h).1 k, .inl⟩

/-! ### A base: each with a highest bit of its own -/
theorem bl_of {x : BitVec 32} {i : Nat} (h : x.getLsbD i = true) (hj : ∀ j, i < j → x.getLsbD j = false) : bl x.toNat = i + 1 := by
  refine bl_unique (Nat.ge_two_pow_of_testBit h) (Nat.lt_pow_two_of_testBit _ fun j hji => ?_)
  exact hj j (by omega)
theorem bl_xor_lt {x y : BitVec 32} (hx : x ≠ w0) (hy : y ≠ w0) (h : bl x.toNat = bl y.toNat) : bl (wXor x y).toNat < bl x.toNat := by
  obtain ⟨i, h1, h2, h3, h4⟩ := bl_top hx
  obtain ⟨j, k1, k2, k3, k4⟩ := bl_top hy
  obtain rfl : i = j := by omega
  rw [h1]
  refine Nat.lt_succ_of_le (bl_le (Nat.lt_pow_two_of_testBit _ fun m hm => ?_))
  show (wXor x y).getLsbD m = false
  rw [b_xor]
  rcases Nat.lt_or_ge i m with hlt | hge
  · have a1 : x.getLsbD m = false := by
      rw [← Bool.not_eq_true]; intro he; have := h4 m he; omega
    have a2 : y.getLsbD m = false := by
      rw [← Bool.not_eq_true]; intro he; have := k4 m he; omega
    rw [a1, a2]; rfl
  · obtain rfl : m = i := by omega
    rw [h3, k3]; rfl
theorem bl_xor_ne {x y : BitVec 32} (hy : y ≠ w0) (h : bl x.toNat < bl y.toNat) : bl (wXor x y).toNat = bl y.toNat := by
  obtain ⟨j, k1, k2, k3, k4⟩ := bl_top hy
  have hxl : ∀ m, j ≤ m → x.getLsbD m = false := fun m hm => bit_lt (bl_lt x.toNat) (by omega)
  rw [k1]
  refine bl_of ?_ fun m hm => ?_
  · rw [b_xor, hxl j (Nat.le_refl _), k3]; rfl
  · rw [b_xor, hxl m (by omega)]
    have a2 : y.getLsbD m = false := by
      rw [← Bool.not_eq_true]; intro he; have := k4 m he; omega
    rw [a2]; rfl
def Base (b : List (BitVec 32)) : Prop := (∀ x ∈ b, x ≠ w0) ∧ b.Pairwise fun x y => bl x.toNat ≠ bl y.toNat
theorem Base_nil : Base [] := ⟨by simp, .nil⟩
theorem Base_top : ∀ {b : List (BitVec 32)} {x : BitVec 32}, Base b → Sp b x → x ≠ w0 → ∃ y ∈ b, bl y.toNat = bl x.toNat
  | [], x, _, h, h0 => absurd h h0
  | a :: l, x, hb, h, h0 => by
    obtain ⟨hn, hp⟩ := hb
    rw [List.pairwise_cons] at hp
    have hl : Base l := ⟨fun y hy => hn y (by simp [hy]), hp.2⟩
    rcases h with h | h
    · obtain ⟨y, hy, he⟩ := Base_top hl h h0
      exact ⟨y, by simp [hy], he⟩
    · by_cases hz : wXor a x = w0
      · exact ⟨a, by simp, by rw [x_zero hz]⟩
      · obtain ⟨y, hy, he⟩ := Base_top hl h hz
        have hne : bl a.toNat ≠ bl (wXor a x).toNat := he ▸ hp.1 y hy
        have hxe : x = wXor a (wXor a x) := (x_back a x).symm
        rcases Nat.lt_trichotomy (bl a.toNat) (bl (wXor a x).toNat) with hlt | heq | hgt
        · refine ⟨y, by simp [hy], ?_⟩
          rw [hxe, bl_xor_ne hz hlt]
          exact he
        · exact absurd heq hne
        · refine ⟨a, by simp, ?_⟩
          rw [hxe, x_comm, bl_xor_ne (hn a (by simp)) hgt]
theorem Base_snoc {b : List (BitVec 32)} {w : BitVec 32} (h : Base b) (hw : w ≠ w0) (hno : ∀ y ∈ b, bl y.toNat ≠ bl w.toNat) : Base (b ++ [w]) := by
  refine ⟨fun x hx => ?_, List.pairwise_append.2 ⟨h.2, List.pairwise_singleton _ _, fun x hx y hy => ?_⟩⟩
  · rcases List.mem_append.1 hx with hx | hx
    · exact h.1 x hx
    · rw [List.mem_singleton] at hx; rw [hx]; exact hw
  · rw [List.mem_singleton] at hy
    rw [hy]
    exact hno x hx
/-- What one word more makes of a base. -/
def AddR (b : List (BitVec 32)) (w : BitVec 32) (b' : List (BitVec 32)) (g : Bool) : Prop :=
  Base b' ∧ ((Sp b w ∧ g = false ∧ b' = b) ∨ (¬ Sp b w ∧ g = true ∧ b'.length = b.length + 1 ∧ ∀ x, Sp b' x ↔ Sp (w :: b) x))
theorem AddR.old {b : List (BitVec 32)} {w c : BitVec 32} (h : Base b) (hs : Sp b (wXor w c)) (hc : c = w0) : AddR b w b false := by
  subst hc
  rw [x_0] at hs
  exact ⟨h, .inl ⟨hs, rfl, rfl⟩⟩
theorem AddR.new {b : List (BitVec 32)} {w c : BitVec 32} (h : Base b) (hs : Sp b (wXor w c)) (hc : c ≠ w0) (hno : ∀ y ∈ b, bl y.toNat ≠ bl c.toNat) : AddR b w (b ++ [c]) true := by
  have hcn : ¬ Sp b c := fun k => by
    obtain ⟨y, hy, he⟩ := Base_top h k hc
    exact hno y hy he
  refine ⟨Base_snoc h hc hno, .inr ⟨fun k => hcn ((Sp_iff k).1 hs), rfl, by simp, fun x => ?_⟩⟩
  rw [Sp_snoc]
  have e : Sp b (wXor c x) ↔ Sp b (wXor w x) := by
    have := Sp_iff (y := wXor c x) hs
    rw [x_assoc, x_back] at this
    exact this.symm
  rw [e]
  exact Iff.rfl
theorem AddR.step {b : List (BitVec 32)} {w c y : BitVec 32} (h : Base b) (hs : Sp b (wXor w c)) (hc : c ≠ w0) (hy : y ∈ b) (he : bl y.toNat = bl c.toNat) : Sp b (wXor w (wXor c y)) ∧ bl (wXor c y).toNat < bl c.toNat := by
  refine ⟨?_, bl_xor_lt hc (h.1 y hy) he.symm⟩
  rw [← x_assoc, x_comm]
  exact (Sp_iff (Sp_mem hy)).2 hs
/-- A base as the map holds it. -/
def baseL (b : List (BitVec 32)) : List (Int × Value) := b.map fun x => ((bl x.toNat : Int), .int .u32 (wN x))
theorem getK_base (k : Nat) : ∀ b : List (BitVec 32), (getK (baseL b) (k : Int) = none ∧ ∀ y ∈ b, bl y.toNat ≠ k) ∨ ∃ y ∈ b, bl y.toNat = k ∧ getK (baseL b) (k : Int) = some (.int .u32 (wN y))
  | [] => .inl ⟨rfl, by simp⟩
  | a :: l => by
    by_cases h : (k : Int) = (bl a.toNat : Int)
    · refine .inr ⟨a, by simp, by omega, ?_⟩
      show (if (k : Int) = (bl a.toNat : Int) then some (Value.int .u32 (wN a)) else _) = _
      rw [if_pos h]
    · have e : getK (baseL (a :: l)) (k : Int) = getK (baseL l) k := by
        show (if (k : Int) = (bl a.toNat : Int) then some (Value.int .u32 (wN a)) else _) = _
        rw [if_neg h]
        rfl
      rw [e]
      rcases getK_base k l with ⟨h1, h2⟩ | ⟨y, h1, h2, h3⟩
      · exact .inl ⟨h1, fun y hy => by
          rcases List.mem_cons.1 hy with rfl | hy
          · omega
          · exact h2 y hy⟩
      · exact .inr ⟨y, by simp [h1], h2, h3⟩
theorem putK_base {b : List (BitVec 32)} {c : BitVec 32} (h : ∀ y ∈ b, bl y.toNat ≠ bl c.toNat) : putK (baseL b) (bl c.toNat : Int) (.int .u32 (wN c)) = baseL (b ++ [c]) := by
  rw [putK_none]
  · simp [baseL]
  · intro p hp
    obtain ⟨y, hy, rfl⟩ := List.mem_map.1 hp
    have := h y hy
    simp only [ne_eq]
    omega

/-! ### How many are free -/
open Classical in
noncomputable def rk : List (BitVec 32) → Nat
  | [] => 0
  | a :: l => rk l + if Sp l a then 0 else 1
/-- A base of what a list spans, as large as the list's rank. -/
def Spans (b l : List (BitVec 32)) : Prop := Base b ∧ (∀ x, Sp b x ↔ Sp l x) ∧ b.length = rk l
theorem Spans_nil : Spans [] [] := ⟨Base_nil, fun _ => Iff.rfl, rfl⟩
theorem Spans.step {b l b' : List (BitVec 32)} {w : BitVec 32} {g : Bool} (h : Spans b l) (k : AddR b w b' g) : Spans b' (w :: l) := by
  obtain ⟨h1, h2, h3⟩ := h
  obtain ⟨k1, ⟨k2, _, rfl⟩ | ⟨k2, _, k3, k4⟩⟩ := k
  · refine ⟨k1, fun x => ?_, ?_⟩
    · rw [Sp_old ((h2 w).1 k2), h2]
    · rw [rk, if_pos ((h2 w).1 k2), h3]
      rfl
  · refine ⟨k1, fun x => ?_, ?_⟩
    · rw [k4]
      show (Sp b x ∨ Sp b (wXor w x)) ↔ (Sp l x ∨ Sp l (wXor w x))
      rw [h2, h2]
    · rw [rk, if_neg (fun hh => k2 ((h2 w).2 hh)), k3, h3]
theorem rk_le : ∀ l, rk l ≤ l.length
  | [] => Nat.le_refl _
  | a :: l => by
    have := rk_le l
    rw [rk, List.length_cons]
    split <;> omega
open Classical in
noncomputable def spanL : List (BitVec 32) → List (BitVec 32)
  | [] => [w0]
  | a :: l => if Sp l a then spanL l else spanL l ++ (spanL l).map (wXor a)
theorem mem_span : ∀ (l : List (BitVec 32)) (x : BitVec 32), x ∈ spanL l ↔ Sp l x
  | [], x => List.mem_singleton
  | a :: l, x => by
    rw [spanL]
    split
    · rename_i h
      rw [mem_span l x, Sp_old h]
    · rw [List.mem_append, mem_span l x, List.mem_map]
      refine ⟨?_, ?_⟩
      · rintro (h | ⟨y, hy, rfl⟩)
        · exact .inl h
        · exact .inr (by rw [x_back]; exact (mem_span l y).1 hy)
      · rintro (h | h)
        · exact .inl h
        · exact .inr ⟨_, (mem_span l _).2 h, x_back a x⟩
theorem span_nodup : ∀ l, (spanL l).Nodup
  | [] => by simp [spanL]
  | a :: l => by
    rw [spanL]
    split
    · exact span_nodup l
    · rename_i h
      refine List.nodup_append.2 ⟨span_nodup l, ?_, fun x hx y hy he => ?_⟩
      · refine List.Pairwise.map _ (fun x y hne he => hne ?_) (span_nodup l)
        have := congrArg (wXor a) he
        rwa [x_back, x_back] at this
      · obtain ⟨z, hz, rfl⟩ := List.mem_map.1 hy
        subst he
        apply h
        have := Sp_add l _ _ ((mem_span l _).1 hx) ((mem_span l _).1 hz)
        rwa [x_assoc, x_self, x_0] at this
theorem span_len : ∀ l, (spanL l).length = 2 ^ rk l
  | [] => rfl
  | a :: l => by
    rw [spanL, rk]
    split
    · rw [span_len l]; rfl
    · rw [List.length_append, List.length_map, span_len l, Nat.pow_succ]
      omega
theorem span_many {K l : List (BitVec 32)} (hn : K.Nodup) (h : ∀ x, x ∈ K ↔ Sp l x) : K.length = 2 ^ rk l := by
  rw [← span_len l]
  refine Nat.le_antisymm (hn.length_le_of_subset fun x hx => (mem_span l x).2 ((h x).1 hx)) ((span_nodup l).length_le_of_subset fun x hx => (h x).2 ((mem_span l x).1 hx))

/-! ### The sums of the sets within a set -/
section
variable (f : Nat → BitVec 32)
/-- The sum of those of a list for which p says yes. -/
def xsum (p : Nat → Bool) : List Nat → BitVec 32
  | [] => w0
  | a :: L => if p a then wXor (f a) (xsum p L) else xsum p L
theorem xsum_snoc (p : Nat → Bool) (a : Nat) : ∀ L, xsum f p (L ++ [a]) = if p a then wXor (f a) (xsum f p L) else xsum f p L
  | [] => rfl
  | b :: L => by
    show (if p b then wXor (f b) (xsum f p (L ++ [a])) else xsum f p (L ++ [a])) = if p a then wXor (f a) (if p b then wXor (f b) (xsum f p L) else xsum f p L) else (if p b then wXor (f b) (xsum f p L) else xsum f p L)
    rw [xsum_snoc p a L]
    split <;> split <;> simp [x_left]
theorem xsum_congr {p q : Nat → Bool} : ∀ {L : List Nat}, (∀ j ∈ L, p j = q j) → xsum f p L = xsum f q L
  | [], _ => rfl
  | a :: L, h => by
    rw [xsum, xsum, h a (by simp), xsum_congr (fun j hj => h j (by simp [hj]))]
theorem xsum_filter {p q : Nat → Bool} (h : ∀ j, p j = true → q j = true) : ∀ L : List Nat, xsum f p (L.filter q) = xsum f p L
  | [] => rfl
  | a :: L => by
    rw [List.filter_cons]
    split
    · rw [xsum, xsum, xsum_filter h L]
    · rename_i hq
      have hp : p a = false := by rw [← Bool.not_eq_true]; exact fun e => hq (h a e)
      rw [xsum, hp, xsum_filter h L]
      rfl
theorem xsum_range {p : Nat → Bool} {n : Nat} (h : ∀ j, n ≤ j → p j = false) : ∀ m, n ≤ m → xsum f p (List.range m) = xsum f p (List.range n)
  | 0, hm => by rw [show n = 0 by omega]
  | m + 1, hm => by
    by_cases he : n = m + 1
    · rw [he]
    · rw [List.range_succ, xsum_snoc, h m (by omega)]
      exact xsum_range h m (by omega)
theorem Sp_xsum : ∀ (L : List Nat) (x : BitVec 32), L.Nodup → (Sp (L.map f) x ↔ ∃ p : Nat → Bool, xsum f p L = x)
  | [], x, _ => ⟨fun h => ⟨fun _ => false, h.symm⟩, fun ⟨_, h⟩ => h.symm⟩
  | a :: L, x, hn => by
    obtain ⟨ha, hn⟩ := List.nodup_cons.1 hn
    show Sp (L.map f) x ∨ Sp (L.map f) (wXor (f a) x) ↔ _
    rw [Sp_xsum L x hn, Sp_xsum L _ hn]
    have hne : ∀ (p : Nat → Bool) (v : Bool), xsum f (fun j => if j = a then v else p j) L = xsum f p L := fun p v => xsum_congr f fun j hj => by
      have : ¬ j = a := fun e => ha (e ▸ hj)
      simp [this]
    constructor
    · rintro (⟨p, hp⟩ | ⟨p, hp⟩)
      · refine ⟨fun j => if j = a then false else p j, ?_⟩
        rw [xsum, hne]
        simpa using hp
      · refine ⟨fun j => if j = a then true else p j, ?_⟩
        rw [xsum, hne, hp, x_back]
        simp
    · rintro ⟨p, hp⟩
      rw [xsum] at hp
      split at hp
      · refine .inr ⟨p, ?_⟩
        rw [← hp, x_back]
      · exact .inl ⟨p, hp⟩
/-- No sum of some is nothing. -/
def FreeL (L : List Nat) : Prop := ∀ p : Nat → Bool, (∃ j ∈ L, p j = true) → xsum f p L ≠ w0
theorem free_rk : ∀ L : List Nat, L.Nodup → (FreeL f L ↔ rk (L.map f) = L.length)
  | [], _ => ⟨fun _ => rfl, fun _ p ⟨j, hj, _⟩ => by cases hj⟩
  | a :: L, hn => by
    obtain ⟨ha, hn'⟩ := List.nodup_cons.1 hn
    have ih := free_rk L hn'
    have hle := rk_le (L.map f)
    rw [List.length_map] at hle
    have hne : ∀ (p : Nat → Bool) (v : Bool), xsum f (fun j => if j = a then v else p j) L = xsum f p L := fun p v => xsum_congr f fun j hj => by
      have : ¬ j = a := fun e => ha (e ▸ hj)
      simp [this]
    have e : rk ((a :: L).map f) = (a :: L).length ↔ (rk (L.map f) = L.length ∧ ¬ Sp (L.map f) (f a)) := by
      rw [List.map_cons, rk, List.length_cons]
      split
      · rename_i hs
        exact ⟨fun h => by omega, fun h => absurd hs h.2⟩
      · rename_i hs
        exact ⟨fun h => ⟨by omega, hs⟩, fun h => by omega⟩
    rw [e, ← ih]
    constructor
    · intro h
      refine ⟨fun p ⟨j, hj, hpj⟩ h0 => ?_, fun hs => ?_⟩
      · refine h (fun i => if i = a then false else p i) ⟨j, by simp [hj], ?_⟩ ?_
        · have : ¬ j = a := fun e => ha (e ▸ hj)
          simp [this, hpj]
        · rw [xsum, hne]
          simpa using h0
      · obtain ⟨p, hp⟩ := (Sp_xsum f L _ hn').1 hs
        refine h (fun i => if i = a then true else p i) ⟨a, by simp, by simp⟩ ?_
        rw [xsum, hne, hp, x_self]
        simp
    · rintro ⟨h1, h2⟩ p ⟨j, hj, hpj⟩ h0
      rw [xsum] at h0
      split at h0
      · exact h2 ((Sp_xsum f L _ hn').2 ⟨p, (x_zero h0).symm⟩)
      · rename_i hpa
        rcases List.mem_cons.1 hj with rfl | hj
        · exact hpa hpj
        · exact h1 p ⟨j, hj, hpj⟩ h0
end
end Go.Proofs.YtnpcbbdfpbnakaaDoor
